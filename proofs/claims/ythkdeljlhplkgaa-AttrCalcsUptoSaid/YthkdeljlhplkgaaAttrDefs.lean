/- The contract of attr.defines. -/
import Derived.Test.YthkdeljlhplkgaaAttrThere
import Derived.Test.YthkdeljlhplkgaaRegA
namespace Go.Proofs.Ythkdeljlhplkgaa
open Go.RowKit
namespace At

theorem there_range {al : List Attr} {r : Rule} {x : Ref} (h : there al r x = true) : 0 ≤ x.attr ∧ x.attr < al.length ∧ 0 ≤ x.at' ∧ x.at' ≤ r.right.length := by
  unfold there at h
  simp only [Bool.and_eq_true, decide_eq_true_eq] at h
  exact h.1
theorem defs_no {al : List Attr} {r : Rule} {x : Ref} (h : there al r x = false) : defs al r x = false := by unfold defs; rw [h]; rfl
theorem defs_at {al : List Attr} {r : Rule} {x : Ref} {j : Nat} (h : there al r x = true) (hj : j < al.length) (hx : x.attr = (j : Int)) : defs al r x = (al[j].inh == decide (0 < x.at')) := by
  unfold defs inhAt
  rw [h, hx]
  simp [hj]

end At
end Go.Proofs.Ythkdeljlhplkgaa
