/-
  NARROWER THAN 'FOR EVERY INPUT', by the rows' own cells (each row's printed sentence says how): RankRefuses: loops.
  DERIVED. THE GIVEN ROWS OF THIS SEAT. 4 by the template 'for every input the law returns true; each argument reads behind the call as it read before'; 0 by the template 'total and deterministic' (their statements: YtbnpemgmdnghgaaTotals.lean).
  GIVEN WITH THE SEED: the statements are not yours to turn. If you find one false, say at which input.
  Laid BY PROGRAM, IN A SANDBOX (cutbox-rows.mjs): the forced cells as the released guide's own fill.sh prints them over the translation 85671c40dfd06bab… (all of the seat's roots in one cut). By AI agents, Wed Nov 11 2026. No macro, syntax, notation, axiom, sorry.
-/
import Derived.Test.YtbnpemgmdnghgaaChecked
import GoSem.Claim
import GoSem.ClaimJoined
import GoSem.ClaimMapViews
import Derived.JoinedTies
import Derived.KernelRfl
namespace Go.Proofs.Ytbnpemgmdnghgaa
/- THE CELL 'sum', in the pinned program and in every row, IS THE sha256 OF THE DUMP (.gsa) THAT YtbnpemgmdnghgaaProg.lean LOADS. Nothing in Lean hashes anything: it is a label: what it is worth is what the hold of that sum in a sandbox is worth. -/
noncomputable def Try.pinned : Pinned := { name := "ytbnpemgmdnghgaa", sum := "85671c40dfd06babb5dfa8e6c621d95f3907df3f5e51896900cf54ccf9fd5e22", checked := Try.checked }
namespace Rows
def none {H : Type} : Left H := { results := [], args := [] }

/-- 'parllaw5.CensusTells': WHATEVER THE INPUT: true; the input reads as it did. -/
def censusTellsSpec : ChangeSpec := { name := "censusTells", fn := fun _ => fun
  | [d1, d2] => { results := [.lit (.bool true)], args := [d1, d2] }
  | _ => none }
def censusTellsRow : OpenClaim := { program := "ytbnpemgmdnghgaa", sum := "85671c40dfd06babb5dfa8e6c621d95f3907df3f5e51896900cf54ccf9fd5e22", func := "parlance/parllaw5.CensusTells", spec := "censusTells", unfollowed := true, recurses := true, plainKeys := false, apart := false }
def CensusTellsSaid : Prop := censusTellsRow.holds Try.pinned (OpenSpec.ofChange censusTellsSpec)

/-- ITS FALSE NEIGHBOUR: 'it returns false'. Refute it at one input. -/
def censusTellsWrong : ChangeSpec := { name := "censusTells", fn := fun _ => fun
  | [d1, d2] => { results := [.lit (.bool false)], args := [d1, d2] }
  | _ => none }
def CensusTellsWrongFalsely : Prop := censusTellsRow.holds Try.pinned (OpenSpec.ofChange censusTellsWrong)

/-- 'parllaw5.RankRefuses': WHATEVER THE INPUT: true; the input reads as it did. -/
def rankRefusesSpec : ChangeSpec := { name := "rankRefuses", fn := fun _ => fun
  | [d1, d2] => { results := [.lit (.bool true)], args := [d1, d2] }
  | _ => none }
def rankRefusesRow : OpenClaim := { program := "ytbnpemgmdnghgaa", sum := "85671c40dfd06babb5dfa8e6c621d95f3907df3f5e51896900cf54ccf9fd5e22", func := "parlance/parllaw5.RankRefuses", spec := "rankRefuses", unfollowed := true, recurses := true, loops := true, plainKeys := false, apart := false }
def RankRefusesSaid : Prop := rankRefusesRow.holds Try.pinned (OpenSpec.ofChange rankRefusesSpec)

/-- ITS FALSE NEIGHBOUR: 'it returns false'. Refute it at one input. -/
def rankRefusesWrong : ChangeSpec := { name := "rankRefuses", fn := fun _ => fun
  | [d1, d2] => { results := [.lit (.bool false)], args := [d1, d2] }
  | _ => none }
def RankRefusesWrongFalsely : Prop := rankRefusesRow.holds Try.pinned (OpenSpec.ofChange rankRefusesWrong)

/-- 'parllaw5.DrawTrees': WHATEVER THE INPUT: true; the input reads as it did. -/
def drawTreesSpec : ChangeSpec := { name := "drawTrees", fn := fun _ => fun
  | [d1, d2, d3] => { results := [.lit (.bool true)], args := [d1, d2, d3] }
  | _ => none }
def drawTreesRow : OpenClaim := { program := "ytbnpemgmdnghgaa", sum := "85671c40dfd06babb5dfa8e6c621d95f3907df3f5e51896900cf54ccf9fd5e22", func := "parlance/parllaw5.DrawTrees", spec := "drawTrees", unfollowed := true, recurses := true, plainKeys := false, apart := false }
def DrawTreesSaid : Prop := drawTreesRow.holds Try.pinned (OpenSpec.ofChange drawTreesSpec)

/-- ITS FALSE NEIGHBOUR: 'it returns false'. Refute it at one input. -/
def drawTreesWrong : ChangeSpec := { name := "drawTrees", fn := fun _ => fun
  | [d1, d2, d3] => { results := [.lit (.bool false)], args := [d1, d2, d3] }
  | _ => none }
def DrawTreesWrongFalsely : Prop := drawTreesRow.holds Try.pinned (OpenSpec.ofChange drawTreesWrong)

/-- 'parllaw5.RankTells': WHATEVER THE INPUT: true; the input reads as it did. -/
def rankTellsSpec : ChangeSpec := { name := "rankTells", fn := fun _ => fun
  | [d1, d2, d3] => { results := [.lit (.bool true)], args := [d1, d2, d3] }
  | _ => none }
def rankTellsRow : OpenClaim := { program := "ytbnpemgmdnghgaa", sum := "85671c40dfd06babb5dfa8e6c621d95f3907df3f5e51896900cf54ccf9fd5e22", func := "parlance/parllaw5.RankTells", spec := "rankTells", unfollowed := true, recurses := true, plainKeys := false, apart := false }
def RankTellsSaid : Prop := rankTellsRow.holds Try.pinned (OpenSpec.ofChange rankTellsSpec)

/-- ITS FALSE NEIGHBOUR: 'it returns false'. Refute it at one input. -/
def rankTellsWrong : ChangeSpec := { name := "rankTells", fn := fun _ => fun
  | [d1, d2, d3] => { results := [.lit (.bool false)], args := [d1, d2, d3] }
  | _ => none }
def RankTellsWrongFalsely : Prop := rankTellsRow.holds Try.pinned (OpenSpec.ofChange rankTellsWrong)

/- THE SECOND FORM. 'bulk': how many values and letters a reading holds, each counted each time it is reached (what is shared counts as often as it is met; a slice's spare places count too). A statement '..UptoSaid' is the law's where the arguments, and the package variables that the reading takes, are together of bulk at most 1048576: NARROWER than '..Said'. Prove '..Said' where nothing that the law and all that it calls make is longer than what came in: it says more and counts as full. Else prove '..UptoSaid'. A law counts once. -/
mutual
def uptoBulk {H : Type} : DataW H → Nat
  | .lit (.string bytes) => bytes.length + 1
  | .lit _ => 1
  | .nil => 1
  | .ptr d => uptoBulk d + 1
  | .slice elems spare => uptoBulkAll elems + uptoBulkAll spare + 1
  | .agg parts => uptoBulkAll parts + 1
  | .iface _ d => uptoBulk d + 1
  | .map entries => uptoBulkEntries entries + 1
  | .held _ => 1
def uptoBulkAll {H : Type} : List (DataW H) → Nat
  | [] => 0
  | d :: r => uptoBulk d + uptoBulkAll r
def uptoBulkEntries {H : Type} : List (Lit × DataW H) → Nat
  | [] => 0
  | x :: r => uptoBulkEntry x + uptoBulkEntries r
def uptoBulkEntry {H : Type} : Lit × DataW H → Nat
  | (.string bytes, d) => bytes.length + uptoBulk d + 1
  | (_, d) => uptoBulk d + 1
 end
def uptoSmall : (H : Type) → List (DataW H) → Bool := fun _ ds => decide (uptoBulkAll ds ≤ 1048576)
def OpenSpec.upto (s : _root_.Go.ChangeSpec) : _root_.Go.OpenSpec := { _root_.Go.OpenSpec.ofChange s with cond := some uptoSmall }

/-- 'parllaw5.CensusTells', WHERE WHAT IT READS IS OF BULK AT MOST 1048576: true; the input reads as it did. -/
def censusTellsUptoRow : OpenClaim := { program := "ytbnpemgmdnghgaa", sum := "85671c40dfd06babb5dfa8e6c621d95f3907df3f5e51896900cf54ccf9fd5e22", func := "parlance/parllaw5.CensusTells", spec := "censusTells", unfollowed := true, recurses := true, plainKeys := false, apart := false, narrowed := true }
def CensusTellsUptoSaid : Prop := censusTellsUptoRow.holds Try.pinned (OpenSpec.upto censusTellsSpec)

/-- 'parllaw5.RankRefuses', WHERE WHAT IT READS IS OF BULK AT MOST 1048576: true; the input reads as it did. -/
def rankRefusesUptoRow : OpenClaim := { program := "ytbnpemgmdnghgaa", sum := "85671c40dfd06babb5dfa8e6c621d95f3907df3f5e51896900cf54ccf9fd5e22", func := "parlance/parllaw5.RankRefuses", spec := "rankRefuses", unfollowed := true, recurses := true, loops := true, plainKeys := false, apart := false, narrowed := true }
def RankRefusesUptoSaid : Prop := rankRefusesUptoRow.holds Try.pinned (OpenSpec.upto rankRefusesSpec)

/-- 'parllaw5.DrawTrees', WHERE WHAT IT READS IS OF BULK AT MOST 1048576: true; the input reads as it did. -/
def drawTreesUptoRow : OpenClaim := { program := "ytbnpemgmdnghgaa", sum := "85671c40dfd06babb5dfa8e6c621d95f3907df3f5e51896900cf54ccf9fd5e22", func := "parlance/parllaw5.DrawTrees", spec := "drawTrees", unfollowed := true, recurses := true, plainKeys := false, apart := false, narrowed := true }
def DrawTreesUptoSaid : Prop := drawTreesUptoRow.holds Try.pinned (OpenSpec.upto drawTreesSpec)

/-- 'parllaw5.RankTells', WHERE WHAT IT READS IS OF BULK AT MOST 1048576: true; the input reads as it did. -/
def rankTellsUptoRow : OpenClaim := { program := "ytbnpemgmdnghgaa", sum := "85671c40dfd06babb5dfa8e6c621d95f3907df3f5e51896900cf54ccf9fd5e22", func := "parlance/parllaw5.RankTells", spec := "rankTells", unfollowed := true, recurses := true, plainKeys := false, apart := false, narrowed := true }
def RankTellsUptoSaid : Prop := rankTellsUptoRow.holds Try.pinned (OpenSpec.upto rankTellsSpec)

end Rows
end Go.Proofs.Ytbnpemgmdnghgaa
