/-
  NARROWER THAN 'FOR EVERY INPUT', by the rows' own cells (each row's printed sentence says how): TreeParts: loops · TreeOrder: loops · TreePlaces: loops.
  DERIVED. THE GIVEN ROWS OF THIS SEAT. 12 by the template 'for every input the law returns true; each argument reads behind the call as it read before'; 0 by the template 'total and deterministic' (their statements: YtfbacnifankfkaaTotals.lean).
  GIVEN WITH THE SEED: the statements are not yours to turn. If you find one false, say at which input.
  Laid BY PROGRAM, IN A SANDBOX (cutbox-rows.mjs): the forced cells as the released guide's own fill.sh prints them over the translation 596df89a1131bbce… (all of the seat's roots in one cut). By AI agents, Wed Nov 11 2026. No macro, syntax, notation, axiom, sorry.
-/
import Derived.Test.YtfbacnifankfkaaChecked
import GoSem.Claim
import GoSem.ClaimJoined
import GoSem.ClaimMapViews
import Derived.JoinedTies
import Derived.KernelRfl
namespace Go.Proofs.Ytfbacnifankfkaa
/- THE CELL 'sum', in the pinned program and in every row, IS THE sha256 OF THE DUMP (.gsa) THAT YtfbacnifankfkaaProg.lean LOADS. Nothing in Lean hashes anything: it is a label: what it is worth is what the hold of that sum in a sandbox is worth. -/
noncomputable def Try.pinned : Pinned := { name := "ytfbacnifankfkaa", sum := "596df89a1131bbceaad324d93b90e8dece21c2ddb0fc1885aa649b738160cbe4", checked := Try.checked }
namespace Rows
def none {H : Type} : Left H := { results := [], args := [] }

/-- 'parllaw5.DrawNumbers': WHATEVER THE INPUT: true; the input reads as it did. -/
def drawNumbersSpec : ChangeSpec := { name := "drawNumbers", fn := fun _ => fun
  | [d1, d2] => { results := [.lit (.bool true)], args := [d1, d2] }
  | _ => none }
def drawNumbersRow : OpenClaim := { program := "ytfbacnifankfkaa", sum := "596df89a1131bbceaad324d93b90e8dece21c2ddb0fc1885aa649b738160cbe4", func := "parlance/parllaw5.DrawNumbers", spec := "drawNumbers", plainKeys := false, apart := false }
def DrawNumbersSaid : Prop := drawNumbersRow.holds Try.pinned (OpenSpec.ofChange drawNumbersSpec)

/-- ITS FALSE NEIGHBOUR: 'it returns false'. Refute it at one input. -/
def drawNumbersWrong : ChangeSpec := { name := "drawNumbers", fn := fun _ => fun
  | [d1, d2] => { results := [.lit (.bool false)], args := [d1, d2] }
  | _ => none }
def DrawNumbersWrongFalsely : Prop := drawNumbersRow.holds Try.pinned (OpenSpec.ofChange drawNumbersWrong)

/-- 'parllaw5.DrawPicks': WHATEVER THE INPUT: true; the input reads as it did. -/
def drawPicksSpec : ChangeSpec := { name := "drawPicks", fn := fun _ => fun
  | [d1, d2] => { results := [.lit (.bool true)], args := [d1, d2] }
  | _ => none }
def drawPicksRow : OpenClaim := { program := "ytfbacnifankfkaa", sum := "596df89a1131bbceaad324d93b90e8dece21c2ddb0fc1885aa649b738160cbe4", func := "parlance/parllaw5.DrawPicks", spec := "drawPicks", plainKeys := false, apart := false }
def DrawPicksSaid : Prop := drawPicksRow.holds Try.pinned (OpenSpec.ofChange drawPicksSpec)

/-- ITS FALSE NEIGHBOUR: 'it returns false'. Refute it at one input. -/
def drawPicksWrong : ChangeSpec := { name := "drawPicks", fn := fun _ => fun
  | [d1, d2] => { results := [.lit (.bool false)], args := [d1, d2] }
  | _ => none }
def DrawPicksWrongFalsely : Prop := drawPicksRow.holds Try.pinned (OpenSpec.ofChange drawPicksWrong)

/-- 'parllaw5.DrawOrders': WHATEVER THE INPUT: true; the input reads as it did. -/
def drawOrdersSpec : ChangeSpec := { name := "drawOrders", fn := fun _ => fun
  | [d1, d2] => { results := [.lit (.bool true)], args := [d1, d2] }
  | _ => none }
def drawOrdersRow : OpenClaim := { program := "ytfbacnifankfkaa", sum := "596df89a1131bbceaad324d93b90e8dece21c2ddb0fc1885aa649b738160cbe4", func := "parlance/parllaw5.DrawOrders", spec := "drawOrders", plainKeys := false, apart := false }
def DrawOrdersSaid : Prop := drawOrdersRow.holds Try.pinned (OpenSpec.ofChange drawOrdersSpec)

/-- ITS FALSE NEIGHBOUR: 'it returns false'. Refute it at one input. -/
def drawOrdersWrong : ChangeSpec := { name := "drawOrders", fn := fun _ => fun
  | [d1, d2] => { results := [.lit (.bool false)], args := [d1, d2] }
  | _ => none }
def DrawOrdersWrongFalsely : Prop := drawOrdersRow.holds Try.pinned (OpenSpec.ofChange drawOrdersWrong)

/-- 'parllaw5.GuessRules': WHATEVER THE INPUT: true; the input reads as it did. -/
def guessRulesSpec : ChangeSpec := { name := "guessRules", fn := fun _ => fun
  | [d1, d2] => { results := [.lit (.bool true)], args := [d1, d2] }
  | _ => none }
def guessRulesRow : OpenClaim := { program := "ytfbacnifankfkaa", sum := "596df89a1131bbceaad324d93b90e8dece21c2ddb0fc1885aa649b738160cbe4", func := "parlance/parllaw5.GuessRules", spec := "guessRules", unfollowed := true, recurses := true, plainKeys := false, apart := false }
def GuessRulesSaid : Prop := guessRulesRow.holds Try.pinned (OpenSpec.ofChange guessRulesSpec)

/-- ITS FALSE NEIGHBOUR: 'it returns false'. Refute it at one input. -/
def guessRulesWrong : ChangeSpec := { name := "guessRules", fn := fun _ => fun
  | [d1, d2] => { results := [.lit (.bool false)], args := [d1, d2] }
  | _ => none }
def GuessRulesWrongFalsely : Prop := guessRulesRow.holds Try.pinned (OpenSpec.ofChange guessRulesWrong)

/-- 'parllaw4.EditApplies': WHATEVER THE INPUT: true; the input reads as it did. -/
def editAppliesSpec : ChangeSpec := { name := "editApplies", fn := fun _ => fun
  | [d1, d2] => { results := [.lit (.bool true)], args := [d1, d2] }
  | _ => none }
def editAppliesRow : OpenClaim := { program := "ytfbacnifankfkaa", sum := "596df89a1131bbceaad324d93b90e8dece21c2ddb0fc1885aa649b738160cbe4", func := "parlance/parllaw4.EditApplies", spec := "editApplies", plainKeys := false, apart := false }
def EditAppliesSaid : Prop := editAppliesRow.holds Try.pinned (OpenSpec.ofChange editAppliesSpec)

/-- ITS FALSE NEIGHBOUR: 'it returns false'. Refute it at one input. -/
def editAppliesWrong : ChangeSpec := { name := "editApplies", fn := fun _ => fun
  | [d1, d2] => { results := [.lit (.bool false)], args := [d1, d2] }
  | _ => none }
def EditAppliesWrongFalsely : Prop := editAppliesRow.holds Try.pinned (OpenSpec.ofChange editAppliesWrong)

/-- 'parllaw4.TreeParts': WHATEVER THE INPUT: true; the input reads as it did. -/
def treePartsSpec : ChangeSpec := { name := "treeParts", fn := fun _ => fun
  | [d1, d2, d3] => { results := [.lit (.bool true)], args := [d1, d2, d3] }
  | _ => none }
def treePartsRow : OpenClaim := { program := "ytfbacnifankfkaa", sum := "596df89a1131bbceaad324d93b90e8dece21c2ddb0fc1885aa649b738160cbe4", func := "parlance/parllaw4.TreeParts", spec := "treeParts", unfollowed := true, recurses := true, loops := true, plainKeys := false, apart := false }
def TreePartsSaid : Prop := treePartsRow.holds Try.pinned (OpenSpec.ofChange treePartsSpec)

/-- ITS FALSE NEIGHBOUR: 'it returns false'. Refute it at one input. -/
def treePartsWrong : ChangeSpec := { name := "treeParts", fn := fun _ => fun
  | [d1, d2, d3] => { results := [.lit (.bool false)], args := [d1, d2, d3] }
  | _ => none }
def TreePartsWrongFalsely : Prop := treePartsRow.holds Try.pinned (OpenSpec.ofChange treePartsWrong)

/-- 'parllaw4.TreeOrder': WHATEVER THE INPUT: true; the input reads as it did. -/
def treeOrderSpec : ChangeSpec := { name := "treeOrder", fn := fun _ => fun
  | [d1, d2] => { results := [.lit (.bool true)], args := [d1, d2] }
  | _ => none }
def treeOrderRow : OpenClaim := { program := "ytfbacnifankfkaa", sum := "596df89a1131bbceaad324d93b90e8dece21c2ddb0fc1885aa649b738160cbe4", func := "parlance/parllaw4.TreeOrder", spec := "treeOrder", unfollowed := true, recurses := true, loops := true, plainKeys := false, apart := false }
def TreeOrderSaid : Prop := treeOrderRow.holds Try.pinned (OpenSpec.ofChange treeOrderSpec)

/-- ITS FALSE NEIGHBOUR: 'it returns false'. Refute it at one input. -/
def treeOrderWrong : ChangeSpec := { name := "treeOrder", fn := fun _ => fun
  | [d1, d2] => { results := [.lit (.bool false)], args := [d1, d2] }
  | _ => none }
def TreeOrderWrongFalsely : Prop := treeOrderRow.holds Try.pinned (OpenSpec.ofChange treeOrderWrong)

/-- 'parllaw4.RepairAligns': WHATEVER THE INPUT: true; the input reads as it did. -/
def repairAlignsSpec : ChangeSpec := { name := "repairAligns", fn := fun _ => fun
  | [d1, d2, d3, d4] => { results := [.lit (.bool true)], args := [d1, d2, d3, d4] }
  | _ => none }
def repairAlignsRow : OpenClaim := { program := "ytfbacnifankfkaa", sum := "596df89a1131bbceaad324d93b90e8dece21c2ddb0fc1885aa649b738160cbe4", func := "parlance/parllaw4.RepairAligns", spec := "repairAligns", unfollowed := true, recurses := true, plainKeys := false, apart := false }
def RepairAlignsSaid : Prop := repairAlignsRow.holds Try.pinned (OpenSpec.ofChange repairAlignsSpec)

/-- ITS FALSE NEIGHBOUR: 'it returns false'. Refute it at one input. -/
def repairAlignsWrong : ChangeSpec := { name := "repairAligns", fn := fun _ => fun
  | [d1, d2, d3, d4] => { results := [.lit (.bool false)], args := [d1, d2, d3, d4] }
  | _ => none }
def RepairAlignsWrongFalsely : Prop := repairAlignsRow.holds Try.pinned (OpenSpec.ofChange repairAlignsWrong)

/-- 'parllaw4.TreePlaces': WHATEVER THE INPUT: true; the input reads as it did. -/
def treePlacesSpec : ChangeSpec := { name := "treePlaces", fn := fun _ => fun
  | [d1, d2, d3, d4] => { results := [.lit (.bool true)], args := [d1, d2, d3, d4] }
  | _ => none }
def treePlacesRow : OpenClaim := { program := "ytfbacnifankfkaa", sum := "596df89a1131bbceaad324d93b90e8dece21c2ddb0fc1885aa649b738160cbe4", func := "parlance/parllaw4.TreePlaces", spec := "treePlaces", unfollowed := true, recurses := true, loops := true, plainKeys := false, apart := false }
def TreePlacesSaid : Prop := treePlacesRow.holds Try.pinned (OpenSpec.ofChange treePlacesSpec)

/-- ITS FALSE NEIGHBOUR: 'it returns false'. Refute it at one input. -/
def treePlacesWrong : ChangeSpec := { name := "treePlaces", fn := fun _ => fun
  | [d1, d2, d3, d4] => { results := [.lit (.bool false)], args := [d1, d2, d3, d4] }
  | _ => none }
def TreePlacesWrongFalsely : Prop := treePlacesRow.holds Try.pinned (OpenSpec.ofChange treePlacesWrong)

/-- 'parllaw4.EditCombines': WHATEVER THE INPUT: true; the input reads as it did. -/
def editCombinesSpec : ChangeSpec := { name := "editCombines", fn := fun _ => fun
  | [d1, d2, d3, d4] => { results := [.lit (.bool true)], args := [d1, d2, d3, d4] }
  | _ => none }
def editCombinesRow : OpenClaim := { program := "ytfbacnifankfkaa", sum := "596df89a1131bbceaad324d93b90e8dece21c2ddb0fc1885aa649b738160cbe4", func := "parlance/parllaw4.EditCombines", spec := "editCombines", plainKeys := false, apart := false }
def EditCombinesSaid : Prop := editCombinesRow.holds Try.pinned (OpenSpec.ofChange editCombinesSpec)

/-- ITS FALSE NEIGHBOUR: 'it returns false'. Refute it at one input. -/
def editCombinesWrong : ChangeSpec := { name := "editCombines", fn := fun _ => fun
  | [d1, d2, d3, d4] => { results := [.lit (.bool false)], args := [d1, d2, d3, d4] }
  | _ => none }
def EditCombinesWrongFalsely : Prop := editCombinesRow.holds Try.pinned (OpenSpec.ofChange editCombinesWrong)

/-- 'parllaw5.ShrinkWords': WHATEVER THE INPUT: true; the input reads as it did. -/
def shrinkWordsSpec : ChangeSpec := { name := "shrinkWords", fn := fun _ => fun
  | [d1, d2, d3] => { results := [.lit (.bool true)], args := [d1, d2, d3] }
  | _ => none }
def shrinkWordsRow : OpenClaim := { program := "ytfbacnifankfkaa", sum := "596df89a1131bbceaad324d93b90e8dece21c2ddb0fc1885aa649b738160cbe4", func := "parlance/parllaw5.ShrinkWords", spec := "shrinkWords", unfollowed := true, recurses := true, plainKeys := false, apart := false }
def ShrinkWordsSaid : Prop := shrinkWordsRow.holds Try.pinned (OpenSpec.ofChange shrinkWordsSpec)

/-- ITS FALSE NEIGHBOUR: 'it returns false'. Refute it at one input. -/
def shrinkWordsWrong : ChangeSpec := { name := "shrinkWords", fn := fun _ => fun
  | [d1, d2, d3] => { results := [.lit (.bool false)], args := [d1, d2, d3] }
  | _ => none }
def ShrinkWordsWrongFalsely : Prop := shrinkWordsRow.holds Try.pinned (OpenSpec.ofChange shrinkWordsWrong)

/-- 'parllaw4.EditScripts': WHATEVER THE INPUT: true; the input reads as it did. -/
def editScriptsSpec : ChangeSpec := { name := "editScripts", fn := fun _ => fun
  | [d1, d2, d3] => { results := [.lit (.bool true)], args := [d1, d2, d3] }
  | _ => none }
def editScriptsRow : OpenClaim := { program := "ytfbacnifankfkaa", sum := "596df89a1131bbceaad324d93b90e8dece21c2ddb0fc1885aa649b738160cbe4", func := "parlance/parllaw4.EditScripts", spec := "editScripts", unfollowed := true, recurses := true, plainKeys := false, apart := false }
def EditScriptsSaid : Prop := editScriptsRow.holds Try.pinned (OpenSpec.ofChange editScriptsSpec)

/-- ITS FALSE NEIGHBOUR: 'it returns false'. Refute it at one input. -/
def editScriptsWrong : ChangeSpec := { name := "editScripts", fn := fun _ => fun
  | [d1, d2, d3] => { results := [.lit (.bool false)], args := [d1, d2, d3] }
  | _ => none }
def EditScriptsWrongFalsely : Prop := editScriptsRow.holds Try.pinned (OpenSpec.ofChange editScriptsWrong)

/- THE SECOND FORM. 'bulk': how many values and letters a reading holds, each counted each time it is reached (what is shared counts as often as it is met; a slice's spare places count too). A statement '..UptoSaid' is the law's where the arguments, and the package variables that the reading takes, are together of bulk at most 1048576: NARROWER than '..Said'. Prove '..Said' where nothing that the law and all that it calls make is longer than what came in: it says more and counts as full. Else prove '..UptoSaid'. A law counts once. -/
mutual
def uptoBulk {H : Type} : DataW H → Nat
  | .lit (.string bytes) => bytes.length + 1
  | .lit _ => 1
  | .nil => 1
  | .ptr d => uptoBulk d + 1
  | .slice elems spare => uptoBulkAll elems + uptoBulkAll spare + 1
  | .agg parts => uptoBulkAll parts + 1
  | .iface _ d => uptoBulk d + 1
  | .map entries => uptoBulkEntries entries + 1
  | .held _ => 1
def uptoBulkAll {H : Type} : List (DataW H) → Nat
  | [] => 0
  | d :: r => uptoBulk d + uptoBulkAll r
def uptoBulkEntries {H : Type} : List (Lit × DataW H) → Nat
  | [] => 0
  | x :: r => uptoBulkEntry x + uptoBulkEntries r
def uptoBulkEntry {H : Type} : Lit × DataW H → Nat
  | (.string bytes, d) => bytes.length + uptoBulk d + 1
  | (_, d) => uptoBulk d + 1
 end
def uptoSmall : (H : Type) → List (DataW H) → Bool := fun _ ds => decide (uptoBulkAll ds ≤ 1048576)
def OpenSpec.upto (s : _root_.Go.ChangeSpec) : _root_.Go.OpenSpec := { _root_.Go.OpenSpec.ofChange s with cond := some uptoSmall }

/-- 'parllaw5.DrawNumbers', WHERE WHAT IT READS IS OF BULK AT MOST 1048576: true; the input reads as it did. -/
def drawNumbersUptoRow : OpenClaim := { program := "ytfbacnifankfkaa", sum := "596df89a1131bbceaad324d93b90e8dece21c2ddb0fc1885aa649b738160cbe4", func := "parlance/parllaw5.DrawNumbers", spec := "drawNumbers", plainKeys := false, apart := false, narrowed := true }
def DrawNumbersUptoSaid : Prop := drawNumbersUptoRow.holds Try.pinned (OpenSpec.upto drawNumbersSpec)

/-- 'parllaw5.DrawPicks', WHERE WHAT IT READS IS OF BULK AT MOST 1048576: true; the input reads as it did. -/
def drawPicksUptoRow : OpenClaim := { program := "ytfbacnifankfkaa", sum := "596df89a1131bbceaad324d93b90e8dece21c2ddb0fc1885aa649b738160cbe4", func := "parlance/parllaw5.DrawPicks", spec := "drawPicks", plainKeys := false, apart := false, narrowed := true }
def DrawPicksUptoSaid : Prop := drawPicksUptoRow.holds Try.pinned (OpenSpec.upto drawPicksSpec)

/-- 'parllaw5.DrawOrders', WHERE WHAT IT READS IS OF BULK AT MOST 1048576: true; the input reads as it did. -/
def drawOrdersUptoRow : OpenClaim := { program := "ytfbacnifankfkaa", sum := "596df89a1131bbceaad324d93b90e8dece21c2ddb0fc1885aa649b738160cbe4", func := "parlance/parllaw5.DrawOrders", spec := "drawOrders", plainKeys := false, apart := false, narrowed := true }
def DrawOrdersUptoSaid : Prop := drawOrdersUptoRow.holds Try.pinned (OpenSpec.upto drawOrdersSpec)

/-- 'parllaw5.GuessRules', WHERE WHAT IT READS IS OF BULK AT MOST 1048576: true; the input reads as it did. -/
def guessRulesUptoRow : OpenClaim := { program := "ytfbacnifankfkaa", sum := "596df89a1131bbceaad324d93b90e8dece21c2ddb0fc1885aa649b738160cbe4", func := "parlance/parllaw5.GuessRules", spec := "guessRules", unfollowed := true, recurses := true, plainKeys := false, apart := false, narrowed := true }
def GuessRulesUptoSaid : Prop := guessRulesUptoRow.holds Try.pinned (OpenSpec.upto guessRulesSpec)

/-- 'parllaw4.EditApplies', WHERE WHAT IT READS IS OF BULK AT MOST 1048576: true; the input reads as it did. -/
def editAppliesUptoRow : OpenClaim := { program := "ytfbacnifankfkaa", sum := "596df89a1131bbceaad324d93b90e8dece21c2ddb0fc1885aa649b738160cbe4", func := "parlance/parllaw4.EditApplies", spec := "editApplies", plainKeys := false, apart := false, narrowed := true }
def EditAppliesUptoSaid : Prop := editAppliesUptoRow.holds Try.pinned (OpenSpec.upto editAppliesSpec)

/-- 'parllaw4.TreeParts', WHERE WHAT IT READS IS OF BULK AT MOST 1048576: true; the input reads as it did. -/
def treePartsUptoRow : OpenClaim := { program := "ytfbacnifankfkaa", sum := "596df89a1131bbceaad324d93b90e8dece21c2ddb0fc1885aa649b738160cbe4", func := "parlance/parllaw4.TreeParts", spec := "treeParts", unfollowed := true, recurses := true, loops := true, plainKeys := false, apart := false, narrowed := true }
def TreePartsUptoSaid : Prop := treePartsUptoRow.holds Try.pinned (OpenSpec.upto treePartsSpec)

/-- 'parllaw4.TreeOrder', WHERE WHAT IT READS IS OF BULK AT MOST 1048576: true; the input reads as it did. -/
def treeOrderUptoRow : OpenClaim := { program := "ytfbacnifankfkaa", sum := "596df89a1131bbceaad324d93b90e8dece21c2ddb0fc1885aa649b738160cbe4", func := "parlance/parllaw4.TreeOrder", spec := "treeOrder", unfollowed := true, recurses := true, loops := true, plainKeys := false, apart := false, narrowed := true }
def TreeOrderUptoSaid : Prop := treeOrderUptoRow.holds Try.pinned (OpenSpec.upto treeOrderSpec)

/-- 'parllaw4.RepairAligns', WHERE WHAT IT READS IS OF BULK AT MOST 1048576: true; the input reads as it did. -/
def repairAlignsUptoRow : OpenClaim := { program := "ytfbacnifankfkaa", sum := "596df89a1131bbceaad324d93b90e8dece21c2ddb0fc1885aa649b738160cbe4", func := "parlance/parllaw4.RepairAligns", spec := "repairAligns", unfollowed := true, recurses := true, plainKeys := false, apart := false, narrowed := true }
def RepairAlignsUptoSaid : Prop := repairAlignsUptoRow.holds Try.pinned (OpenSpec.upto repairAlignsSpec)

/-- 'parllaw4.TreePlaces', WHERE WHAT IT READS IS OF BULK AT MOST 1048576: true; the input reads as it did. -/
def treePlacesUptoRow : OpenClaim := { program := "ytfbacnifankfkaa", sum := "596df89a1131bbceaad324d93b90e8dece21c2ddb0fc1885aa649b738160cbe4", func := "parlance/parllaw4.TreePlaces", spec := "treePlaces", unfollowed := true, recurses := true, loops := true, plainKeys := false, apart := false, narrowed := true }
def TreePlacesUptoSaid : Prop := treePlacesUptoRow.holds Try.pinned (OpenSpec.upto treePlacesSpec)

/-- 'parllaw4.EditCombines', WHERE WHAT IT READS IS OF BULK AT MOST 1048576: true; the input reads as it did. -/
def editCombinesUptoRow : OpenClaim := { program := "ytfbacnifankfkaa", sum := "596df89a1131bbceaad324d93b90e8dece21c2ddb0fc1885aa649b738160cbe4", func := "parlance/parllaw4.EditCombines", spec := "editCombines", plainKeys := false, apart := false, narrowed := true }
def EditCombinesUptoSaid : Prop := editCombinesUptoRow.holds Try.pinned (OpenSpec.upto editCombinesSpec)

/-- 'parllaw5.ShrinkWords', WHERE WHAT IT READS IS OF BULK AT MOST 1048576: true; the input reads as it did. -/
def shrinkWordsUptoRow : OpenClaim := { program := "ytfbacnifankfkaa", sum := "596df89a1131bbceaad324d93b90e8dece21c2ddb0fc1885aa649b738160cbe4", func := "parlance/parllaw5.ShrinkWords", spec := "shrinkWords", unfollowed := true, recurses := true, plainKeys := false, apart := false, narrowed := true }
def ShrinkWordsUptoSaid : Prop := shrinkWordsUptoRow.holds Try.pinned (OpenSpec.upto shrinkWordsSpec)

/-- 'parllaw4.EditScripts', WHERE WHAT IT READS IS OF BULK AT MOST 1048576: true; the input reads as it did. -/
def editScriptsUptoRow : OpenClaim := { program := "ytfbacnifankfkaa", sum := "596df89a1131bbceaad324d93b90e8dece21c2ddb0fc1885aa649b738160cbe4", func := "parlance/parllaw4.EditScripts", spec := "editScripts", unfollowed := true, recurses := true, plainKeys := false, apart := false, narrowed := true }
def EditScriptsUptoSaid : Prop := editScriptsUptoRow.holds Try.pinned (OpenSpec.upto editScriptsSpec)

end Rows
end Go.Proofs.Ytfbacnifankfkaa
