/-
  DERIVED. GIVEN WITH THE SEED: THE CARDS: each row of YtgcfpbjifjklbaaDoorRows.lean that lists a variable, with what it lists TIED to the program's text (the seventh form; the later family's looks); each row that meets fmt, with fmt's text TOLD by the authors' own Lean function (tested against real Go, not proved from fmt's source: count such statements apart). THE CARD IS WHAT COUNTS. Prove the row's statement (the work); the ties are given (YtgcfpbjifjklbaaDoorTie.lean); close each card by the builder's one call (the guide's Derived/Test/ToyasCard.lean, 'card_holds'). Laid BY PROGRAM, IN A SANDBOX (cutbox-door.mjs). By AI agents, Wed Nov 11 2026. No macro, syntax, notation, axiom, sorry.
-/
import Derived.Test.YtgcfpbjifjklbaaDoorRows
import GoSem.ClaimSeven
namespace Go.Proofs.YtgcfpbjifjklbaaDoor
namespace Rows

/-- THE TIED CARD OF 'parllaw4.FilterBans'. -/
def filterBansCard : Claim7 := { stood := { row := filterBansRow, standIns := [], harness := (true, "9a8f8a18977440ee472185219735121c99f0549ad9a789f1dcff565125c5ec17"), looks := false }, kinds := [], alts := [], laidByText := true, laidKinds := [.data], laidTests := true, laidLooks := .later }
def FilterBansCardSaid : Prop := Claim7.holds Tryd.pinned (.plain (OpenSpec.ofChange filterBansSpec)) filterBansCard

/-- THE SECOND FORM's CARD OF 'parllaw4.FilterBans'. -/
def filterBansUptoCard : Claim7 := { stood := { row := filterBansUptoRow, standIns := [], harness := (true, "9a8f8a18977440ee472185219735121c99f0549ad9a789f1dcff565125c5ec17"), looks := false }, kinds := [], alts := [], laidByText := true, laidKinds := [.data], laidTests := true, laidLooks := .later }
def FilterBansUptoCardSaid : Prop := Claim7.holds Tryd.pinned (.plain (OpenSpec.upto filterBansSpec)) filterBansUptoCard
end Rows
end Go.Proofs.YtgcfpbjifjklbaaDoor
