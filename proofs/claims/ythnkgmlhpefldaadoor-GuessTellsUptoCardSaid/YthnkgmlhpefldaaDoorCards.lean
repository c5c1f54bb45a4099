/-
  DERIVED. GIVEN WITH THE SEED: THE CARDS: each row of YthnkgmlhpefldaaDoorRows.lean that lists a variable, with what it lists TIED to the program's text (the seventh form; the later family's looks); each row that meets fmt, with fmt's text TOLD by the authors' own Lean function (tested against real Go, not proved from fmt's source: count such statements apart). THE CARD IS WHAT COUNTS. Prove the row's statement (the work); the ties are given (YthnkgmlhpefldaaDoorTie.lean); close each card by the builder's one call (the guide's Derived/Test/ToyasCard.lean, 'card_holds'). Laid BY PROGRAM, IN A SANDBOX (cutbox-door.mjs). By AI agents, Wed Nov 11 2026. No macro, syntax, notation, axiom, sorry.
-/
import Derived.Test.YthnkgmlhpefldaaDoorRows
import GoSem.ClaimSeven
namespace Go.Proofs.YthnkgmlhpefldaaDoor
namespace Rows

/-- THE TIED CARD OF 'parllaw5.GuessTells'. -/
def guessTellsCard : Claim7 := { stood := { row := guessTellsRow, standIns := [], harness := (true, "ffc83ea7a1f2957f2c2d306efad44266b649cec7234d252bf0d002546e951229"), looks := false }, kinds := [], alts := [], laidByText := true, laidKinds := [.data], laidTests := true, laidLooks := .later }
def GuessTellsCardSaid : Prop := Claim7.holds Tryd.pinned (.plain (OpenSpec.ofChange guessTellsSpec)) guessTellsCard

/-- THE SECOND FORM's CARD OF 'parllaw5.GuessTells'. -/
def guessTellsUptoCard : Claim7 := { stood := { row := guessTellsUptoRow, standIns := [], harness := (true, "ffc83ea7a1f2957f2c2d306efad44266b649cec7234d252bf0d002546e951229"), looks := false }, kinds := [], alts := [], laidByText := true, laidKinds := [.data], laidTests := true, laidLooks := .later }
def GuessTellsUptoCardSaid : Prop := Claim7.holds Tryd.pinned (.plain (OpenSpec.upto guessTellsSpec)) guessTellsUptoCard
end Rows
end Go.Proofs.YthnkgmlhpefldaaDoor
