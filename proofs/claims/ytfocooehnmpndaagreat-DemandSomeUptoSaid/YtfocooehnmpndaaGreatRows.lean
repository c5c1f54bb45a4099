/-
  NARROWER THAN 'FOR EVERY INPUT', by the rows' own cells (each row's printed sentence says how): DemandAll: loops · DemandSome: loops · ChangePuts: loops.
  DERIVED. THE GIVEN ROWS OF THIS SEAT. 3 by the template 'for every input the law returns true; each argument reads behind the call as it read before'; 0 by the template 'total and deterministic' (their statements: YtfocooehnmpndaaGreatTotals.lean).
  GIVEN WITH THE SEED: the statements are not yours to turn. If you find one false, say at which input.
  Laid BY PROGRAM, IN A SANDBOX (cutbox-rows.mjs): the forced cells as the released guide's own fill.sh prints them over the translation 2c4dfc5a1055f217… (all of the seat's roots in one cut). By AI agents, Wed Nov 11 2026. No macro, syntax, notation, axiom, sorry.
-/
import Derived.Test.YtfocooehnmpndaaGreatChecked
import GoSem.Claim
import GoSem.ClaimJoined
import GoSem.ClaimMapViews
import Derived.JoinedTies
import Derived.KernelRfl
namespace Go.Proofs.YtfocooehnmpndaaGreat
/- THE CELL 'sum', in the pinned program and in every row, IS THE sha256 OF THE DUMP (.gsa) THAT YtfocooehnmpndaaGreatProg.lean LOADS. Nothing in Lean hashes anything: it is a label: what it is worth is what the hold of that sum in a sandbox is worth. -/
noncomputable def Tryz.pinned : Pinned := { name := "ytfocooehnmpndaagreat", sum := "2c4dfc5a1055f2179a404750723098d055cc3e120aaa81b9a8e4d278d5be9012", checked := Tryz.checked }
namespace Rows
def none {H : Type} : Left H := { results := [], args := [] }

/-- 'parllaw4.DemandAll': WHATEVER THE INPUT: true; the input reads as it did. -/
def demandAllSpec : ChangeSpec := { name := "demandAll", fn := fun _ => fun
  | [d1, d2, d3] => { results := [.lit (.bool true)], args := [d1, d2, d3] }
  | _ => none }
def demandAllRow : OpenClaim := { program := "ytfocooehnmpndaagreat", sum := "2c4dfc5a1055f2179a404750723098d055cc3e120aaa81b9a8e4d278d5be9012", func := "parlance/parllaw4.DemandAll", spec := "demandAll", inPlace := ["slices.overlaps[parlance/attr.Ref]"], unfollowed := true, recurses := true, loops := true, plainKeys := false, apart := false }
def DemandAllSaid : Prop := demandAllRow.holds Tryz.pinned (OpenSpec.ofChange demandAllSpec)

/-- ITS FALSE NEIGHBOUR: 'it returns false'. Refute it at one input. -/
def demandAllWrong : ChangeSpec := { name := "demandAll", fn := fun _ => fun
  | [d1, d2, d3] => { results := [.lit (.bool false)], args := [d1, d2, d3] }
  | _ => none }
def DemandAllWrongFalsely : Prop := demandAllRow.holds Tryz.pinned (OpenSpec.ofChange demandAllWrong)

/-- 'parllaw4.DemandSome': WHATEVER THE INPUT: true; the input reads as it did. -/
def demandSomeSpec : ChangeSpec := { name := "demandSome", fn := fun _ => fun
  | [d1, d2, d3, d4, d5] => { results := [.lit (.bool true)], args := [d1, d2, d3, d4, d5] }
  | _ => none }
def demandSomeRow : OpenClaim := { program := "ytfocooehnmpndaagreat", sum := "2c4dfc5a1055f2179a404750723098d055cc3e120aaa81b9a8e4d278d5be9012", func := "parlance/parllaw4.DemandSome", spec := "demandSome", inPlace := ["slices.overlaps[parlance/attr.Ref]"], unfollowed := true, recurses := true, loops := true, plainKeys := false, apart := false }
def DemandSomeSaid : Prop := demandSomeRow.holds Tryz.pinned (OpenSpec.ofChange demandSomeSpec)

/-- ITS FALSE NEIGHBOUR: 'it returns false'. Refute it at one input. -/
def demandSomeWrong : ChangeSpec := { name := "demandSome", fn := fun _ => fun
  | [d1, d2, d3, d4, d5] => { results := [.lit (.bool false)], args := [d1, d2, d3, d4, d5] }
  | _ => none }
def DemandSomeWrongFalsely : Prop := demandSomeRow.holds Tryz.pinned (OpenSpec.ofChange demandSomeWrong)

/-- 'parllaw4.ChangePuts': WHATEVER THE INPUT: true; the input reads as it did. -/
def changePutsSpec : ChangeSpec := { name := "changePuts", fn := fun _ => fun
  | [d1, d2, d3, d4, d5, d6] => { results := [.lit (.bool true)], args := [d1, d2, d3, d4, d5, d6] }
  | _ => none }
def changePutsRow : OpenClaim := { program := "ytfocooehnmpndaagreat", sum := "2c4dfc5a1055f2179a404750723098d055cc3e120aaa81b9a8e4d278d5be9012", func := "parlance/parllaw4.ChangePuts", spec := "changePuts", inPlace := ["slices.overlaps[parlance/attr.Ref]"], unfollowed := true, recurses := true, loops := true, plainKeys := false, apart := false }
def ChangePutsSaid : Prop := changePutsRow.holds Tryz.pinned (OpenSpec.ofChange changePutsSpec)

/-- ITS FALSE NEIGHBOUR: 'it returns false'. Refute it at one input. -/
def changePutsWrong : ChangeSpec := { name := "changePuts", fn := fun _ => fun
  | [d1, d2, d3, d4, d5, d6] => { results := [.lit (.bool false)], args := [d1, d2, d3, d4, d5, d6] }
  | _ => none }
def ChangePutsWrongFalsely : Prop := changePutsRow.holds Tryz.pinned (OpenSpec.ofChange changePutsWrong)

/- THE SECOND FORM. 'bulk': how many values and letters a reading holds, each counted each time it is reached (what is shared counts as often as it is met; a slice's spare places count too). A statement '..UptoSaid' is the law's where the arguments, and the package variables that the reading takes, are together of bulk at most 1048576: NARROWER than '..Said'. Prove '..Said' where nothing that the law and all that it calls make is longer than what came in: it says more and counts as full. Else prove '..UptoSaid'. A law counts once. -/
mutual
def uptoBulk {H : Type} : DataW H → Nat
  | .lit (.string bytes) => bytes.length + 1
  | .lit _ => 1
  | .nil => 1
  | .ptr d => uptoBulk d + 1
  | .slice elems spare => uptoBulkAll elems + uptoBulkAll spare + 1
  | .agg parts => uptoBulkAll parts + 1
  | .iface _ d => uptoBulk d + 1
  | .map entries => uptoBulkEntries entries + 1
  | .held _ => 1
def uptoBulkAll {H : Type} : List (DataW H) → Nat
  | [] => 0
  | d :: r => uptoBulk d + uptoBulkAll r
def uptoBulkEntries {H : Type} : List (Lit × DataW H) → Nat
  | [] => 0
  | x :: r => uptoBulkEntry x + uptoBulkEntries r
def uptoBulkEntry {H : Type} : Lit × DataW H → Nat
  | (.string bytes, d) => bytes.length + uptoBulk d + 1
  | (_, d) => uptoBulk d + 1
 end
def uptoSmall : (H : Type) → List (DataW H) → Bool := fun _ ds => decide (uptoBulkAll ds ≤ 1048576)
def OpenSpec.upto (s : _root_.Go.ChangeSpec) : _root_.Go.OpenSpec := { _root_.Go.OpenSpec.ofChange s with cond := some uptoSmall }

/-- 'parllaw4.DemandAll', WHERE WHAT IT READS IS OF BULK AT MOST 1048576: true; the input reads as it did. -/
def demandAllUptoRow : OpenClaim := { program := "ytfocooehnmpndaagreat", sum := "2c4dfc5a1055f2179a404750723098d055cc3e120aaa81b9a8e4d278d5be9012", func := "parlance/parllaw4.DemandAll", spec := "demandAll", inPlace := ["slices.overlaps[parlance/attr.Ref]"], unfollowed := true, recurses := true, loops := true, plainKeys := false, apart := false, narrowed := true }
def DemandAllUptoSaid : Prop := demandAllUptoRow.holds Tryz.pinned (OpenSpec.upto demandAllSpec)

/-- 'parllaw4.DemandSome', WHERE WHAT IT READS IS OF BULK AT MOST 1048576: true; the input reads as it did. -/
def demandSomeUptoRow : OpenClaim := { program := "ytfocooehnmpndaagreat", sum := "2c4dfc5a1055f2179a404750723098d055cc3e120aaa81b9a8e4d278d5be9012", func := "parlance/parllaw4.DemandSome", spec := "demandSome", inPlace := ["slices.overlaps[parlance/attr.Ref]"], unfollowed := true, recurses := true, loops := true, plainKeys := false, apart := false, narrowed := true }
def DemandSomeUptoSaid : Prop := demandSomeUptoRow.holds Tryz.pinned (OpenSpec.upto demandSomeSpec)

/-- 'parllaw4.ChangePuts', WHERE WHAT IT READS IS OF BULK AT MOST 1048576: true; the input reads as it did. -/
def changePutsUptoRow : OpenClaim := { program := "ytfocooehnmpndaagreat", sum := "2c4dfc5a1055f2179a404750723098d055cc3e120aaa81b9a8e4d278d5be9012", func := "parlance/parllaw4.ChangePuts", spec := "changePuts", inPlace := ["slices.overlaps[parlance/attr.Ref]"], unfollowed := true, recurses := true, loops := true, plainKeys := false, apart := false, narrowed := true }
def ChangePutsUptoSaid : Prop := changePutsUptoRow.holds Tryz.pinned (OpenSpec.upto changePutsSpec)

end Rows
end Go.Proofs.YtfocooehnmpndaaGreat
