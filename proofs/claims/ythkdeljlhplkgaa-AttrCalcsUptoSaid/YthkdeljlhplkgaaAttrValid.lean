/- The contract of attr.valid. -/
import Derived.Test.YthkdeljlhplkgaaAttrDefs
import Derived.Test.YthkdeljlhplkgaaAttrIdx
import Derived.Deep.CutBlock
import Derived.Deep.DeepCutAuto
namespace Go.Proofs.Ythkdeljlhplkgaa
open Go.RowKit
namespace At

def okN (k n : Int) : Bool := if k = 0 then decide (0 ≤ n ∧ n < 1000003) else decide (n = 0)
theorem okNode_eq (al : List Attr) (r : Rule) (x : Expr) : okNode al r x = (okArgs x.kind x.args.length && okN x.kind x.n && (if x.kind = 1 then there al r x.ref else decide (x.ref = ⟨0, 0⟩))) := rfl
theorem all_not_any {α : Type} (p : α → Bool) (l : List α) : l.all p = !(l.any fun x => !p x) := by
  induction l with
  | nil => rfl
  | cons a l ih => simp only [List.all_cons, List.any_cons, ih]; cases p a <;> simp
theorem beq_cast (a b : Nat) : ((a : Int) == (b : Int)) = (a == b) := by
  by_cases h : a = b
  · subst h; simp
  · have h2 : ¬ (a : Int) = b := by omega
    rw [beq_eq_false_iff_ne.2 h2, beq_eq_false_iff_ne.2 h]
/-- what a call of valid's closure finds -/
def ValidB (al : List Attr) (r : Rule) (aa ae ar : Option Addr) (ca ne ce cr b : Nat) (W : World) : Prop :=
  W.heap[b]? = some (.cells #[.slice aa al.length ca, .slice ae ne ce] 28 (0, 0)) ∧ W.heap[b + 1]? = some (.cells #[.int .i64 r.left, .slice ar r.right.length cr] 62 (0, 0))

end At
end Go.Proofs.Ythkdeljlhplkgaa
