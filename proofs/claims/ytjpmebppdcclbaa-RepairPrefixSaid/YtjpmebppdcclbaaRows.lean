/-
  No cell of these rows narrows 'for every input' (looked for: loops, veiled, ifaces, maps, wideKeys, modest, calm, conditions, laid).
  DERIVED. THE GIVEN ROWS OF THIS SEAT. 4 by the template 'for every input the law returns true; each argument reads behind the call as it read before'; 0 by the template 'total and deterministic' (their statements: YtjpmebppdcclbaaTotals.lean).
  GIVEN WITH THE SEED: the statements are not yours to turn. If you find one false, say at which input.
  Laid BY PROGRAM, IN A SANDBOX (cutbox-rows.mjs): the forced cells as the released guide's own fill.sh prints them over the translation dd374136343f261a… (all of the seat's roots in one cut). By AI agents, Wed Nov 11 2026. No macro, syntax, notation, axiom, sorry.
-/
import Derived.Test.YtjpmebppdcclbaaChecked
import GoSem.Claim
import GoSem.ClaimJoined
import GoSem.ClaimMapViews
import Derived.JoinedTies
import Derived.KernelRfl
namespace Go.Proofs.Ytjpmebppdcclbaa
/- THE CELL 'sum', in the pinned program and in every row, IS THE sha256 OF THE DUMP (.gsa) THAT YtjpmebppdcclbaaProg.lean LOADS. Nothing in Lean hashes anything: it is a label: what it is worth is what the hold of that sum in a sandbox is worth. -/
noncomputable def Try.pinned : Pinned := { name := "ytjpmebppdcclbaa", sum := "dd374136343f261adcd5019ee8bdeb165368ed09d687325245f51891c5534c6d", checked := Try.checked }
namespace Rows
def none {H : Type} : Left H := { results := [], args := [] }

/-- 'parllaw4.RepairBest': WHATEVER THE INPUT: true; the input reads as it did. -/
def repairBestSpec : ChangeSpec := { name := "repairBest", fn := fun _ => fun
  | [d1, d2, d3] => { results := [.lit (.bool true)], args := [d1, d2, d3] }
  | _ => none }
def repairBestRow : OpenClaim := { program := "ytjpmebppdcclbaa", sum := "dd374136343f261adcd5019ee8bdeb165368ed09d687325245f51891c5534c6d", func := "parlance/parllaw4.RepairBest", spec := "repairBest", unfollowed := true, recurses := true, plainKeys := false, apart := false }
def RepairBestSaid : Prop := repairBestRow.holds Try.pinned (OpenSpec.ofChange repairBestSpec)

/-- ITS FALSE NEIGHBOUR: 'it returns false'. Refute it at one input. -/
def repairBestWrong : ChangeSpec := { name := "repairBest", fn := fun _ => fun
  | [d1, d2, d3] => { results := [.lit (.bool false)], args := [d1, d2, d3] }
  | _ => none }
def RepairBestWrongFalsely : Prop := repairBestRow.holds Try.pinned (OpenSpec.ofChange repairBestWrong)

/-- 'parllaw4.RepairPrefix': WHATEVER THE INPUT: true; the input reads as it did. -/
def repairPrefixSpec : ChangeSpec := { name := "repairPrefix", fn := fun _ => fun
  | [d1, d2] => { results := [.lit (.bool true)], args := [d1, d2] }
  | _ => none }
def repairPrefixRow : OpenClaim := { program := "ytjpmebppdcclbaa", sum := "dd374136343f261adcd5019ee8bdeb165368ed09d687325245f51891c5534c6d", func := "parlance/parllaw4.RepairPrefix", spec := "repairPrefix", unfollowed := true, recurses := true, plainKeys := false, apart := false }
def RepairPrefixSaid : Prop := repairPrefixRow.holds Try.pinned (OpenSpec.ofChange repairPrefixSpec)

/-- ITS FALSE NEIGHBOUR: 'it returns false'. Refute it at one input. -/
def repairPrefixWrong : ChangeSpec := { name := "repairPrefix", fn := fun _ => fun
  | [d1, d2] => { results := [.lit (.bool false)], args := [d1, d2] }
  | _ => none }
def RepairPrefixWrongFalsely : Prop := repairPrefixRow.holds Try.pinned (OpenSpec.ofChange repairPrefixWrong)

/-- 'parllaw4.HoleFills': WHATEVER THE INPUT: true; the input reads as it did. -/
def holeFillsSpec : ChangeSpec := { name := "holeFills", fn := fun _ => fun
  | [d1, d2] => { results := [.lit (.bool true)], args := [d1, d2] }
  | _ => none }
def holeFillsRow : OpenClaim := { program := "ytjpmebppdcclbaa", sum := "dd374136343f261adcd5019ee8bdeb165368ed09d687325245f51891c5534c6d", func := "parlance/parllaw4.HoleFills", spec := "holeFills", unfollowed := true, recurses := true, plainKeys := false, apart := false }
def HoleFillsSaid : Prop := holeFillsRow.holds Try.pinned (OpenSpec.ofChange holeFillsSpec)

/-- ITS FALSE NEIGHBOUR: 'it returns false'. Refute it at one input. -/
def holeFillsWrong : ChangeSpec := { name := "holeFills", fn := fun _ => fun
  | [d1, d2] => { results := [.lit (.bool false)], args := [d1, d2] }
  | _ => none }
def HoleFillsWrongFalsely : Prop := holeFillsRow.holds Try.pinned (OpenSpec.ofChange holeFillsWrong)

/-- 'parllaw4.HoleTells': WHATEVER THE INPUT: true; the input reads as it did. -/
def holeTellsSpec : ChangeSpec := { name := "holeTells", fn := fun _ => fun
  | [d1, d2, d3] => { results := [.lit (.bool true)], args := [d1, d2, d3] }
  | _ => none }
def holeTellsRow : OpenClaim := { program := "ytjpmebppdcclbaa", sum := "dd374136343f261adcd5019ee8bdeb165368ed09d687325245f51891c5534c6d", func := "parlance/parllaw4.HoleTells", spec := "holeTells", unfollowed := true, recurses := true, plainKeys := false, apart := false }
def HoleTellsSaid : Prop := holeTellsRow.holds Try.pinned (OpenSpec.ofChange holeTellsSpec)

/-- ITS FALSE NEIGHBOUR: 'it returns false'. Refute it at one input. -/
def holeTellsWrong : ChangeSpec := { name := "holeTells", fn := fun _ => fun
  | [d1, d2, d3] => { results := [.lit (.bool false)], args := [d1, d2, d3] }
  | _ => none }
def HoleTellsWrongFalsely : Prop := holeTellsRow.holds Try.pinned (OpenSpec.ofChange holeTellsWrong)

/- THE SECOND FORM. 'bulk': how many values and letters a reading holds, each counted each time it is reached (what is shared counts as often as it is met; a slice's spare places count too). A statement '..UptoSaid' is the law's where the arguments, and the package variables that the reading takes, are together of bulk at most 1048576: NARROWER than '..Said'. Prove '..Said' where nothing that the law and all that it calls make is longer than what came in: it says more and counts as full. Else prove '..UptoSaid'. A law counts once. -/
mutual
def uptoBulk {H : Type} : DataW H → Nat
  | .lit (.string bytes) => bytes.length + 1
  | .lit _ => 1
  | .nil => 1
  | .ptr d => uptoBulk d + 1
  | .slice elems spare => uptoBulkAll elems + uptoBulkAll spare + 1
  | .agg parts => uptoBulkAll parts + 1
  | .iface _ d => uptoBulk d + 1
  | .map entries => uptoBulkEntries entries + 1
  | .held _ => 1
def uptoBulkAll {H : Type} : List (DataW H) → Nat
  | [] => 0
  | d :: r => uptoBulk d + uptoBulkAll r
def uptoBulkEntries {H : Type} : List (Lit × DataW H) → Nat
  | [] => 0
  | x :: r => uptoBulkEntry x + uptoBulkEntries r
def uptoBulkEntry {H : Type} : Lit × DataW H → Nat
  | (.string bytes, d) => bytes.length + uptoBulk d + 1
  | (_, d) => uptoBulk d + 1
 end
def uptoSmall : (H : Type) → List (DataW H) → Bool := fun _ ds => decide (uptoBulkAll ds ≤ 1048576)
def OpenSpec.upto (s : _root_.Go.ChangeSpec) : _root_.Go.OpenSpec := { _root_.Go.OpenSpec.ofChange s with cond := some uptoSmall }

/-- 'parllaw4.RepairBest', WHERE WHAT IT READS IS OF BULK AT MOST 1048576: true; the input reads as it did. -/
def repairBestUptoRow : OpenClaim := { program := "ytjpmebppdcclbaa", sum := "dd374136343f261adcd5019ee8bdeb165368ed09d687325245f51891c5534c6d", func := "parlance/parllaw4.RepairBest", spec := "repairBest", unfollowed := true, recurses := true, plainKeys := false, apart := false, narrowed := true }
def RepairBestUptoSaid : Prop := repairBestUptoRow.holds Try.pinned (OpenSpec.upto repairBestSpec)

/-- 'parllaw4.RepairPrefix', WHERE WHAT IT READS IS OF BULK AT MOST 1048576: true; the input reads as it did. -/
def repairPrefixUptoRow : OpenClaim := { program := "ytjpmebppdcclbaa", sum := "dd374136343f261adcd5019ee8bdeb165368ed09d687325245f51891c5534c6d", func := "parlance/parllaw4.RepairPrefix", spec := "repairPrefix", unfollowed := true, recurses := true, plainKeys := false, apart := false, narrowed := true }
def RepairPrefixUptoSaid : Prop := repairPrefixUptoRow.holds Try.pinned (OpenSpec.upto repairPrefixSpec)

/-- 'parllaw4.HoleFills', WHERE WHAT IT READS IS OF BULK AT MOST 1048576: true; the input reads as it did. -/
def holeFillsUptoRow : OpenClaim := { program := "ytjpmebppdcclbaa", sum := "dd374136343f261adcd5019ee8bdeb165368ed09d687325245f51891c5534c6d", func := "parlance/parllaw4.HoleFills", spec := "holeFills", unfollowed := true, recurses := true, plainKeys := false, apart := false, narrowed := true }
def HoleFillsUptoSaid : Prop := holeFillsUptoRow.holds Try.pinned (OpenSpec.upto holeFillsSpec)

/-- 'parllaw4.HoleTells', WHERE WHAT IT READS IS OF BULK AT MOST 1048576: true; the input reads as it did. -/
def holeTellsUptoRow : OpenClaim := { program := "ytjpmebppdcclbaa", sum := "dd374136343f261adcd5019ee8bdeb165368ed09d687325245f51891c5534c6d", func := "parlance/parllaw4.HoleTells", spec := "holeTells", unfollowed := true, recurses := true, plainKeys := false, apart := false, narrowed := true }
def HoleTellsUptoSaid : Prop := holeTellsUptoRow.holds Try.pinned (OpenSpec.upto holeTellsSpec)

end Rows
end Go.Proofs.Ytjpmebppdcclbaa
