/-
  NARROWER THAN 'FOR EVERY INPUT', by the rows' own cells (each row's printed sentence says how): TreePlaces: loops · TreeChecks: loops · AttrChecks: loops · ShrinkTrees: loops · DocChecks: loops.
  DERIVED. THE GIVEN ROWS OF THIS SEAT. 12 by the template 'for every input the law returns true; each argument reads behind the call as it read before'; 0 by the template 'total and deterministic' (their statements: YtjehmleckcmilaaTotals.lean).
  GIVEN WITH THE SEED: the statements are not yours to turn. If you find one false, say at which input.
  Laid BY PROGRAM, IN A SANDBOX (cutbox-rows.mjs): the forced cells as the released guide's own fill.sh prints them over the translation b569781450dc225e… (all of the seat's roots in one cut). By AI agents, Wed Nov 11 2026. No macro, syntax, notation, axiom, sorry.
-/
import Derived.Test.YtjehmleckcmilaaChecked
import GoSem.Claim
import GoSem.ClaimJoined
import GoSem.ClaimMapViews
import Derived.JoinedTies
import Derived.KernelRfl
namespace Go.Proofs.Ytjehmleckcmilaa
/- THE CELL 'sum', in the pinned program and in every row, IS THE sha256 OF THE DUMP (.gsa) THAT YtjehmleckcmilaaProg.lean LOADS. Nothing in Lean hashes anything: it is a label: what it is worth is what the hold of that sum in a sandbox is worth. -/
noncomputable def Try.pinned : Pinned := { name := "ytjehmleckcmilaa", sum := "b569781450dc225ec6275b6df281cf2a8f2676bee3f80b2b25523ff65d872039", checked := Try.checked }
namespace Rows
def none {H : Type} : Left H := { results := [], args := [] }

/-- 'parllaw4.RepairAligns': WHATEVER THE INPUT: true; the input reads as it did. -/
def repairAlignsSpec : ChangeSpec := { name := "repairAligns", fn := fun _ => fun
  | [d1, d2, d3, d4] => { results := [.lit (.bool true)], args := [d1, d2, d3, d4] }
  | _ => none }
def repairAlignsRow : OpenClaim := { program := "ytjehmleckcmilaa", sum := "b569781450dc225ec6275b6df281cf2a8f2676bee3f80b2b25523ff65d872039", func := "parlance/parllaw4.RepairAligns", spec := "repairAligns", unfollowed := true, recurses := true, plainKeys := false, apart := false }
def RepairAlignsSaid : Prop := repairAlignsRow.holds Try.pinned (OpenSpec.ofChange repairAlignsSpec)

/-- ITS FALSE NEIGHBOUR: 'it returns false'. Refute it at one input. -/
def repairAlignsWrong : ChangeSpec := { name := "repairAligns", fn := fun _ => fun
  | [d1, d2, d3, d4] => { results := [.lit (.bool false)], args := [d1, d2, d3, d4] }
  | _ => none }
def RepairAlignsWrongFalsely : Prop := repairAlignsRow.holds Try.pinned (OpenSpec.ofChange repairAlignsWrong)

/-- 'parllaw4.TreePlaces': WHATEVER THE INPUT: true; the input reads as it did. -/
def treePlacesSpec : ChangeSpec := { name := "treePlaces", fn := fun _ => fun
  | [d1, d2, d3, d4] => { results := [.lit (.bool true)], args := [d1, d2, d3, d4] }
  | _ => none }
def treePlacesRow : OpenClaim := { program := "ytjehmleckcmilaa", sum := "b569781450dc225ec6275b6df281cf2a8f2676bee3f80b2b25523ff65d872039", func := "parlance/parllaw4.TreePlaces", spec := "treePlaces", unfollowed := true, recurses := true, loops := true, plainKeys := false, apart := false }
def TreePlacesSaid : Prop := treePlacesRow.holds Try.pinned (OpenSpec.ofChange treePlacesSpec)

/-- ITS FALSE NEIGHBOUR: 'it returns false'. Refute it at one input. -/
def treePlacesWrong : ChangeSpec := { name := "treePlaces", fn := fun _ => fun
  | [d1, d2, d3, d4] => { results := [.lit (.bool false)], args := [d1, d2, d3, d4] }
  | _ => none }
def TreePlacesWrongFalsely : Prop := treePlacesRow.holds Try.pinned (OpenSpec.ofChange treePlacesWrong)

/-- 'parllaw4.EditScripts': WHATEVER THE INPUT: true; the input reads as it did. -/
def editScriptsSpec : ChangeSpec := { name := "editScripts", fn := fun _ => fun
  | [d1, d2, d3] => { results := [.lit (.bool true)], args := [d1, d2, d3] }
  | _ => none }
def editScriptsRow : OpenClaim := { program := "ytjehmleckcmilaa", sum := "b569781450dc225ec6275b6df281cf2a8f2676bee3f80b2b25523ff65d872039", func := "parlance/parllaw4.EditScripts", spec := "editScripts", unfollowed := true, recurses := true, plainKeys := false, apart := false }
def EditScriptsSaid : Prop := editScriptsRow.holds Try.pinned (OpenSpec.ofChange editScriptsSpec)

/-- ITS FALSE NEIGHBOUR: 'it returns false'. Refute it at one input. -/
def editScriptsWrong : ChangeSpec := { name := "editScripts", fn := fun _ => fun
  | [d1, d2, d3] => { results := [.lit (.bool false)], args := [d1, d2, d3] }
  | _ => none }
def EditScriptsWrongFalsely : Prop := editScriptsRow.holds Try.pinned (OpenSpec.ofChange editScriptsWrong)

/-- 'parllaw5.LensTells': WHATEVER THE INPUT: true; the input reads as it did. -/
def lensTellsSpec : ChangeSpec := { name := "lensTells", fn := fun _ => fun
  | [d1, d2] => { results := [.lit (.bool true)], args := [d1, d2] }
  | _ => none }
def lensTellsRow : OpenClaim := { program := "ytjehmleckcmilaa", sum := "b569781450dc225ec6275b6df281cf2a8f2676bee3f80b2b25523ff65d872039", func := "parlance/parllaw5.LensTells", spec := "lensTells", unfollowed := true, recurses := true, plainKeys := false, apart := false }
def LensTellsSaid : Prop := lensTellsRow.holds Try.pinned (OpenSpec.ofChange lensTellsSpec)

/-- ITS FALSE NEIGHBOUR: 'it returns false'. Refute it at one input. -/
def lensTellsWrong : ChangeSpec := { name := "lensTells", fn := fun _ => fun
  | [d1, d2] => { results := [.lit (.bool false)], args := [d1, d2] }
  | _ => none }
def LensTellsWrongFalsely : Prop := lensTellsRow.holds Try.pinned (OpenSpec.ofChange lensTellsWrong)

/-- 'parllaw4.TreeChecks': WHATEVER THE INPUT: true; the input reads as it did. -/
def treeChecksSpec : ChangeSpec := { name := "treeChecks", fn := fun _ => fun
  | [d1, d2] => { results := [.lit (.bool true)], args := [d1, d2] }
  | _ => none }
def treeChecksRow : OpenClaim := { program := "ytjehmleckcmilaa", sum := "b569781450dc225ec6275b6df281cf2a8f2676bee3f80b2b25523ff65d872039", func := "parlance/parllaw4.TreeChecks", spec := "treeChecks", unfollowed := true, recurses := true, loops := true, plainKeys := false, apart := false }
def TreeChecksSaid : Prop := treeChecksRow.holds Try.pinned (OpenSpec.ofChange treeChecksSpec)

/-- ITS FALSE NEIGHBOUR: 'it returns false'. Refute it at one input. -/
def treeChecksWrong : ChangeSpec := { name := "treeChecks", fn := fun _ => fun
  | [d1, d2] => { results := [.lit (.bool false)], args := [d1, d2] }
  | _ => none }
def TreeChecksWrongFalsely : Prop := treeChecksRow.holds Try.pinned (OpenSpec.ofChange treeChecksWrong)

/-- 'parllaw5.ApproxParts': WHATEVER THE INPUT: true; the input reads as it did. -/
def approxPartsSpec : ChangeSpec := { name := "approxParts", fn := fun _ => fun
  | [d] => { results := [.lit (.bool true)], args := [d] }
  | _ => none }
def approxPartsRow : OpenClaim := { program := "ytjehmleckcmilaa", sum := "b569781450dc225ec6275b6df281cf2a8f2676bee3f80b2b25523ff65d872039", func := "parlance/parllaw5.ApproxParts", spec := "approxParts", unfollowed := true, recurses := true, plainKeys := false, apart := false }
def ApproxPartsSaid : Prop := approxPartsRow.holds Try.pinned (OpenSpec.ofChange approxPartsSpec)

/-- ITS FALSE NEIGHBOUR: 'it returns false'. Refute it at one input. -/
def approxPartsWrong : ChangeSpec := { name := "approxParts", fn := fun _ => fun
  | [d] => { results := [.lit (.bool false)], args := [d] }
  | _ => none }
def ApproxPartsWrongFalsely : Prop := approxPartsRow.holds Try.pinned (OpenSpec.ofChange approxPartsWrong)

/-- 'parllaw5.TeachTells': WHATEVER THE INPUT: true; the input reads as it did. -/
def teachTellsSpec : ChangeSpec := { name := "teachTells", fn := fun _ => fun
  | [d1, d2, d3] => { results := [.lit (.bool true)], args := [d1, d2, d3] }
  | _ => none }
def teachTellsRow : OpenClaim := { program := "ytjehmleckcmilaa", sum := "b569781450dc225ec6275b6df281cf2a8f2676bee3f80b2b25523ff65d872039", func := "parlance/parllaw5.TeachTells", spec := "teachTells", unfollowed := true, recurses := true, plainKeys := false, apart := false }
def TeachTellsSaid : Prop := teachTellsRow.holds Try.pinned (OpenSpec.ofChange teachTellsSpec)

/-- ITS FALSE NEIGHBOUR: 'it returns false'. Refute it at one input. -/
def teachTellsWrong : ChangeSpec := { name := "teachTells", fn := fun _ => fun
  | [d1, d2, d3] => { results := [.lit (.bool false)], args := [d1, d2, d3] }
  | _ => none }
def TeachTellsWrongFalsely : Prop := teachTellsRow.holds Try.pinned (OpenSpec.ofChange teachTellsWrong)

/-- 'parllaw4.AttrChecks': WHATEVER THE INPUT: true; the input reads as it did. -/
def attrChecksSpec : ChangeSpec := { name := "attrChecks", fn := fun _ => fun
  | [d1, d2, d3, d4] => { results := [.lit (.bool true)], args := [d1, d2, d3, d4] }
  | _ => none }
def attrChecksRow : OpenClaim := { program := "ytjehmleckcmilaa", sum := "b569781450dc225ec6275b6df281cf2a8f2676bee3f80b2b25523ff65d872039", func := "parlance/parllaw4.AttrChecks", spec := "attrChecks", unfollowed := true, recurses := true, loops := true, plainKeys := false, apart := false }
def AttrChecksSaid : Prop := attrChecksRow.holds Try.pinned (OpenSpec.ofChange attrChecksSpec)

/-- ITS FALSE NEIGHBOUR: 'it returns false'. Refute it at one input. -/
def attrChecksWrong : ChangeSpec := { name := "attrChecks", fn := fun _ => fun
  | [d1, d2, d3, d4] => { results := [.lit (.bool false)], args := [d1, d2, d3, d4] }
  | _ => none }
def AttrChecksWrongFalsely : Prop := attrChecksRow.holds Try.pinned (OpenSpec.ofChange attrChecksWrong)

/-- 'parllaw5.ShrinkTrees': WHATEVER THE INPUT: true; the input reads as it did. -/
def shrinkTreesSpec : ChangeSpec := { name := "shrinkTrees", fn := fun _ => fun
  | [d1, d2, d3] => { results := [.lit (.bool true)], args := [d1, d2, d3] }
  | _ => none }
def shrinkTreesRow : OpenClaim := { program := "ytjehmleckcmilaa", sum := "b569781450dc225ec6275b6df281cf2a8f2676bee3f80b2b25523ff65d872039", func := "parlance/parllaw5.ShrinkTrees", spec := "shrinkTrees", unfollowed := true, recurses := true, loops := true, plainKeys := false, apart := false }
def ShrinkTreesSaid : Prop := shrinkTreesRow.holds Try.pinned (OpenSpec.ofChange shrinkTreesSpec)

/-- ITS FALSE NEIGHBOUR: 'it returns false'. Refute it at one input. -/
def shrinkTreesWrong : ChangeSpec := { name := "shrinkTrees", fn := fun _ => fun
  | [d1, d2, d3] => { results := [.lit (.bool false)], args := [d1, d2, d3] }
  | _ => none }
def ShrinkTreesWrongFalsely : Prop := shrinkTreesRow.holds Try.pinned (OpenSpec.ofChange shrinkTreesWrong)

/-- 'parllaw4.RepairBest': WHATEVER THE INPUT: true; the input reads as it did. -/
def repairBestSpec : ChangeSpec := { name := "repairBest", fn := fun _ => fun
  | [d1, d2, d3] => { results := [.lit (.bool true)], args := [d1, d2, d3] }
  | _ => none }
def repairBestRow : OpenClaim := { program := "ytjehmleckcmilaa", sum := "b569781450dc225ec6275b6df281cf2a8f2676bee3f80b2b25523ff65d872039", func := "parlance/parllaw4.RepairBest", spec := "repairBest", unfollowed := true, recurses := true, plainKeys := false, apart := false }
def RepairBestSaid : Prop := repairBestRow.holds Try.pinned (OpenSpec.ofChange repairBestSpec)

/-- ITS FALSE NEIGHBOUR: 'it returns false'. Refute it at one input. -/
def repairBestWrong : ChangeSpec := { name := "repairBest", fn := fun _ => fun
  | [d1, d2, d3] => { results := [.lit (.bool false)], args := [d1, d2, d3] }
  | _ => none }
def RepairBestWrongFalsely : Prop := repairBestRow.holds Try.pinned (OpenSpec.ofChange repairBestWrong)

/-- 'parllaw4.DocChecks': WHATEVER THE INPUT: true; the input reads as it did. -/
def docChecksSpec : ChangeSpec := { name := "docChecks", fn := fun _ => fun
  | [d] => { results := [.lit (.bool true)], args := [d] }
  | _ => none }
def docChecksRow : OpenClaim := { program := "ytjehmleckcmilaa", sum := "b569781450dc225ec6275b6df281cf2a8f2676bee3f80b2b25523ff65d872039", func := "parlance/parllaw4.DocChecks", spec := "docChecks", inPlace := ["internal/abi.NoEscape", "internal/bytealg.MakeNoZero"], unfollowed := true, recurses := true, loops := true, plainKeys := false, apart := false }
def DocChecksSaid : Prop := docChecksRow.holds Try.pinned (OpenSpec.ofChange docChecksSpec)

/-- ITS FALSE NEIGHBOUR: 'it returns false'. Refute it at one input. -/
def docChecksWrong : ChangeSpec := { name := "docChecks", fn := fun _ => fun
  | [d] => { results := [.lit (.bool false)], args := [d] }
  | _ => none }
def DocChecksWrongFalsely : Prop := docChecksRow.holds Try.pinned (OpenSpec.ofChange docChecksWrong)

/-- 'parllaw5.LearnRefuses': WHATEVER THE INPUT: true; the input reads as it did. -/
def learnRefusesSpec : ChangeSpec := { name := "learnRefuses", fn := fun _ => fun
  | [d1, d2] => { results := [.lit (.bool true)], args := [d1, d2] }
  | _ => none }
def learnRefusesRow : OpenClaim := { program := "ytjehmleckcmilaa", sum := "b569781450dc225ec6275b6df281cf2a8f2676bee3f80b2b25523ff65d872039", func := "parlance/parllaw5.LearnRefuses", spec := "learnRefuses", unfollowed := true, recurses := true, plainKeys := false, apart := false }
def LearnRefusesSaid : Prop := learnRefusesRow.holds Try.pinned (OpenSpec.ofChange learnRefusesSpec)

/-- ITS FALSE NEIGHBOUR: 'it returns false'. Refute it at one input. -/
def learnRefusesWrong : ChangeSpec := { name := "learnRefuses", fn := fun _ => fun
  | [d1, d2] => { results := [.lit (.bool false)], args := [d1, d2] }
  | _ => none }
def LearnRefusesWrongFalsely : Prop := learnRefusesRow.holds Try.pinned (OpenSpec.ofChange learnRefusesWrong)

/- THE SECOND FORM. 'bulk': how many values and letters a reading holds, each counted each time it is reached (what is shared counts as often as it is met; a slice's spare places count too). A statement '..UptoSaid' is the law's where the arguments, and the package variables that the reading takes, are together of bulk at most 1048576: NARROWER than '..Said'. Prove '..Said' where nothing that the law and all that it calls make is longer than what came in: it says more and counts as full. Else prove '..UptoSaid'. A law counts once. -/
mutual
def uptoBulk {H : Type} : DataW H → Nat
  | .lit (.string bytes) => bytes.length + 1
  | .lit _ => 1
  | .nil => 1
  | .ptr d => uptoBulk d + 1
  | .slice elems spare => uptoBulkAll elems + uptoBulkAll spare + 1
  | .agg parts => uptoBulkAll parts + 1
  | .iface _ d => uptoBulk d + 1
  | .map entries => uptoBulkEntries entries + 1
  | .held _ => 1
def uptoBulkAll {H : Type} : List (DataW H) → Nat
  | [] => 0
  | d :: r => uptoBulk d + uptoBulkAll r
def uptoBulkEntries {H : Type} : List (Lit × DataW H) → Nat
  | [] => 0
  | x :: r => uptoBulkEntry x + uptoBulkEntries r
def uptoBulkEntry {H : Type} : Lit × DataW H → Nat
  | (.string bytes, d) => bytes.length + uptoBulk d + 1
  | (_, d) => uptoBulk d + 1
 end
def uptoSmall : (H : Type) → List (DataW H) → Bool := fun _ ds => decide (uptoBulkAll ds ≤ 1048576)
def OpenSpec.upto (s : _root_.Go.ChangeSpec) : _root_.Go.OpenSpec := { _root_.Go.OpenSpec.ofChange s with cond := some uptoSmall }

/-- 'parllaw4.RepairAligns', WHERE WHAT IT READS IS OF BULK AT MOST 1048576: true; the input reads as it did. -/
def repairAlignsUptoRow : OpenClaim := { program := "ytjehmleckcmilaa", sum := "b569781450dc225ec6275b6df281cf2a8f2676bee3f80b2b25523ff65d872039", func := "parlance/parllaw4.RepairAligns", spec := "repairAligns", unfollowed := true, recurses := true, plainKeys := false, apart := false, narrowed := true }
def RepairAlignsUptoSaid : Prop := repairAlignsUptoRow.holds Try.pinned (OpenSpec.upto repairAlignsSpec)

/-- 'parllaw4.TreePlaces', WHERE WHAT IT READS IS OF BULK AT MOST 1048576: true; the input reads as it did. -/
def treePlacesUptoRow : OpenClaim := { program := "ytjehmleckcmilaa", sum := "b569781450dc225ec6275b6df281cf2a8f2676bee3f80b2b25523ff65d872039", func := "parlance/parllaw4.TreePlaces", spec := "treePlaces", unfollowed := true, recurses := true, loops := true, plainKeys := false, apart := false, narrowed := true }
def TreePlacesUptoSaid : Prop := treePlacesUptoRow.holds Try.pinned (OpenSpec.upto treePlacesSpec)

/-- 'parllaw4.EditScripts', WHERE WHAT IT READS IS OF BULK AT MOST 1048576: true; the input reads as it did. -/
def editScriptsUptoRow : OpenClaim := { program := "ytjehmleckcmilaa", sum := "b569781450dc225ec6275b6df281cf2a8f2676bee3f80b2b25523ff65d872039", func := "parlance/parllaw4.EditScripts", spec := "editScripts", unfollowed := true, recurses := true, plainKeys := false, apart := false, narrowed := true }
def EditScriptsUptoSaid : Prop := editScriptsUptoRow.holds Try.pinned (OpenSpec.upto editScriptsSpec)

/-- 'parllaw5.LensTells', WHERE WHAT IT READS IS OF BULK AT MOST 1048576: true; the input reads as it did. -/
def lensTellsUptoRow : OpenClaim := { program := "ytjehmleckcmilaa", sum := "b569781450dc225ec6275b6df281cf2a8f2676bee3f80b2b25523ff65d872039", func := "parlance/parllaw5.LensTells", spec := "lensTells", unfollowed := true, recurses := true, plainKeys := false, apart := false, narrowed := true }
def LensTellsUptoSaid : Prop := lensTellsUptoRow.holds Try.pinned (OpenSpec.upto lensTellsSpec)

/-- 'parllaw4.TreeChecks', WHERE WHAT IT READS IS OF BULK AT MOST 1048576: true; the input reads as it did. -/
def treeChecksUptoRow : OpenClaim := { program := "ytjehmleckcmilaa", sum := "b569781450dc225ec6275b6df281cf2a8f2676bee3f80b2b25523ff65d872039", func := "parlance/parllaw4.TreeChecks", spec := "treeChecks", unfollowed := true, recurses := true, loops := true, plainKeys := false, apart := false, narrowed := true }
def TreeChecksUptoSaid : Prop := treeChecksUptoRow.holds Try.pinned (OpenSpec.upto treeChecksSpec)

/-- 'parllaw5.ApproxParts', WHERE WHAT IT READS IS OF BULK AT MOST 1048576: true; the input reads as it did. -/
def approxPartsUptoRow : OpenClaim := { program := "ytjehmleckcmilaa", sum := "b569781450dc225ec6275b6df281cf2a8f2676bee3f80b2b25523ff65d872039", func := "parlance/parllaw5.ApproxParts", spec := "approxParts", unfollowed := true, recurses := true, plainKeys := false, apart := false, narrowed := true }
def ApproxPartsUptoSaid : Prop := approxPartsUptoRow.holds Try.pinned (OpenSpec.upto approxPartsSpec)

/-- 'parllaw5.TeachTells', WHERE WHAT IT READS IS OF BULK AT MOST 1048576: true; the input reads as it did. -/
def teachTellsUptoRow : OpenClaim := { program := "ytjehmleckcmilaa", sum := "b569781450dc225ec6275b6df281cf2a8f2676bee3f80b2b25523ff65d872039", func := "parlance/parllaw5.TeachTells", spec := "teachTells", unfollowed := true, recurses := true, plainKeys := false, apart := false, narrowed := true }
def TeachTellsUptoSaid : Prop := teachTellsUptoRow.holds Try.pinned (OpenSpec.upto teachTellsSpec)

/-- 'parllaw4.AttrChecks', WHERE WHAT IT READS IS OF BULK AT MOST 1048576: true; the input reads as it did. -/
def attrChecksUptoRow : OpenClaim := { program := "ytjehmleckcmilaa", sum := "b569781450dc225ec6275b6df281cf2a8f2676bee3f80b2b25523ff65d872039", func := "parlance/parllaw4.AttrChecks", spec := "attrChecks", unfollowed := true, recurses := true, loops := true, plainKeys := false, apart := false, narrowed := true }
def AttrChecksUptoSaid : Prop := attrChecksUptoRow.holds Try.pinned (OpenSpec.upto attrChecksSpec)

/-- 'parllaw5.ShrinkTrees', WHERE WHAT IT READS IS OF BULK AT MOST 1048576: true; the input reads as it did. -/
def shrinkTreesUptoRow : OpenClaim := { program := "ytjehmleckcmilaa", sum := "b569781450dc225ec6275b6df281cf2a8f2676bee3f80b2b25523ff65d872039", func := "parlance/parllaw5.ShrinkTrees", spec := "shrinkTrees", unfollowed := true, recurses := true, loops := true, plainKeys := false, apart := false, narrowed := true }
def ShrinkTreesUptoSaid : Prop := shrinkTreesUptoRow.holds Try.pinned (OpenSpec.upto shrinkTreesSpec)

/-- 'parllaw4.RepairBest', WHERE WHAT IT READS IS OF BULK AT MOST 1048576: true; the input reads as it did. -/
def repairBestUptoRow : OpenClaim := { program := "ytjehmleckcmilaa", sum := "b569781450dc225ec6275b6df281cf2a8f2676bee3f80b2b25523ff65d872039", func := "parlance/parllaw4.RepairBest", spec := "repairBest", unfollowed := true, recurses := true, plainKeys := false, apart := false, narrowed := true }
def RepairBestUptoSaid : Prop := repairBestUptoRow.holds Try.pinned (OpenSpec.upto repairBestSpec)

/-- 'parllaw4.DocChecks', WHERE WHAT IT READS IS OF BULK AT MOST 1048576: true; the input reads as it did. -/
def docChecksUptoRow : OpenClaim := { program := "ytjehmleckcmilaa", sum := "b569781450dc225ec6275b6df281cf2a8f2676bee3f80b2b25523ff65d872039", func := "parlance/parllaw4.DocChecks", spec := "docChecks", inPlace := ["internal/abi.NoEscape", "internal/bytealg.MakeNoZero"], unfollowed := true, recurses := true, loops := true, plainKeys := false, apart := false, narrowed := true }
def DocChecksUptoSaid : Prop := docChecksUptoRow.holds Try.pinned (OpenSpec.upto docChecksSpec)

/-- 'parllaw5.LearnRefuses', WHERE WHAT IT READS IS OF BULK AT MOST 1048576: true; the input reads as it did. -/
def learnRefusesUptoRow : OpenClaim := { program := "ytjehmleckcmilaa", sum := "b569781450dc225ec6275b6df281cf2a8f2676bee3f80b2b25523ff65d872039", func := "parlance/parllaw5.LearnRefuses", spec := "learnRefuses", unfollowed := true, recurses := true, plainKeys := false, apart := false, narrowed := true }
def LearnRefusesUptoSaid : Prop := learnRefusesUptoRow.holds Try.pinned (OpenSpec.upto learnRefusesSpec)

end Rows
end Go.Proofs.Ytjehmleckcmilaa
