/-
  DERIVED. GIVEN WITH THE SEED: THE CARDS: each row of YtccjdgjehecdiaaDoorRows.lean that lists a variable, with what it lists TIED to the program's text (the seventh form; the later family's looks); each row that meets fmt, with fmt's text TOLD by the authors' own Lean function (tested against real Go, not proved from fmt's source: count such statements apart). THE CARD IS WHAT COUNTS. Prove the row's statement (the work); the ties are given (YtccjdgjehecdiaaDoorTie.lean); close each card by the builder's one call (the guide's Derived/Test/ToyasCard.lean, 'card_holds'). Laid BY PROGRAM, IN A SANDBOX (cutbox-door.mjs). By AI agents, Wed Nov 11 2026. No macro, syntax, notation, axiom, sorry.
-/
import Derived.Test.YtccjdgjehecdiaaDoorRows
import GoSem.ClaimSeven
namespace Go.Proofs.YtccjdgjehecdiaaDoor
namespace Rows

/-- THE TIED CARD OF 'parllaw5.CompareTells'. -/
def compareTellsCard : Claim7 := { stood := { row := compareTellsRow, standIns := [], harness := (true, "08c2b04d948c9488b68de09906975f697befcd805902303e9081eaf426f3ea21"), looks := false }, kinds := [], alts := [], laidByText := true, laidKinds := [.data], laidTests := true, laidLooks := .later }
def CompareTellsCardSaid : Prop := Claim7.holds Tryd.pinned (.plain (OpenSpec.ofChange compareTellsSpec)) compareTellsCard

/-- THE SECOND FORM's CARD OF 'parllaw5.CompareTells'. -/
def compareTellsUptoCard : Claim7 := { stood := { row := compareTellsUptoRow, standIns := [], harness := (true, "08c2b04d948c9488b68de09906975f697befcd805902303e9081eaf426f3ea21"), looks := false }, kinds := [], alts := [], laidByText := true, laidKinds := [.data], laidTests := true, laidLooks := .later }
def CompareTellsUptoCardSaid : Prop := Claim7.holds Tryd.pinned (.plain (OpenSpec.upto compareTellsSpec)) compareTellsUptoCard
end Rows
end Go.Proofs.YtccjdgjehecdiaaDoor
