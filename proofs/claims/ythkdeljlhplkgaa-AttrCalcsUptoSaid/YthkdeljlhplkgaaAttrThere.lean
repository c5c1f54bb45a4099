/- The contract of attr.there. -/
import Derived.Test.YthkdeljlhplkgaaAttrRd
import Derived.Deep.RegionHeld3
import Derived.IntWalk
namespace Go.Proofs.Ythkdeljlhplkgaa
open Go.RowKit
namespace At

theorem Rd.attr_at {S : Nat → Prop} {w : World} {l : List Attr} {a : Option Addr} {n cap i : Nat} (h : Rd S w (.sl (l.map Attr.d)) [.slice a n cap]) (hi : i < l.length) :
    ∃ b off, a = some ⟨b, off, none⟩ ∧ S b ∧ b < w.heap.size ∧ w.cell? ⟨b, off + i * 2, none⟩ = some (.int .i64 l[i].non) ∧ w.cell? ⟨b, off + i * 2 + 1, none⟩ = some (.bool l[i].inh) := by
  obtain ⟨b, off, cs, ha, hS, hlt, hr, hl, hc⟩ := h.at (attrs_cells l) (by decide) (i := i) (by simpa using hi)
  simp at hr
  obtain ⟨c1, c2, rfl, h1, h2⟩ := hr
  rw [RdAll.one_iff] at h2
  simp [Rd] at h1 h2
  subst h1 h2
  exact ⟨b, off, ha, hS, hlt, by simpa using hc 0 (by simp), by simpa [Nat.add_assoc] using hc 1 (by simp)⟩
theorem there_no {al : List Attr} {r : Rule} {x : Ref} (h : x.attr < 0 ∨ (al.length : Int) ≤ x.attr ∨ x.at' < 0 ∨ (r.right.length : Int) < x.at') : there al r x = false := by
  unfold there
  rw [decide_eq_false (by omega)]
  rfl
theorem there_at {al : List Attr} {r : Rule} {x : Ref} {j : Nat} (hj : j < al.length) (hx : x.attr = (j : Int)) (h0 : 0 ≤ x.at') (h1 : x.at' ≤ r.right.length) : there al r x = if x.at' = 0 then decide (al[j].non = r.left) else decide (r.right[(x.at' - 1).toNat]? = some ⟨false, al[j].non⟩) := by
  unfold there
  rw [decide_eq_true (by omega), hx]
  simp [hj]

end At
end Go.Proofs.Ythkdeljlhplkgaa
