/- The comparison of two occurrences, and slices.SortFunc at occurrences. -/
import Derived.Test.YthkdeljlhplkgaaCheckE
import Derived.Test.YthkdeljlhplkgaaAttrVal
import Derived.Shelf.SlSortCmp.NoneTotal
import Derived.Shelf.Lay
namespace Go.Proofs.Ythkdeljlhplkgaa
open Go.RowKit
namespace At

def cmpRef (x y : Ref) : Int := orL [cmp3 x.at' y.at', cmp3 x.attr y.attr]

set_option maxHeartbeats 1000000 in
set_option maxRecDepth 100000 in
theorem refCmpE (x y : Ref) (w : World) :
    Calls Try.prog 15 #[.agg #[.int .i64 x.at', .int .i64 x.attr], .agg #[.int .i64 y.at', .int .i64 y.attr]] w fun e w' => e = .returned (.int .i64 (cmpRef x y)) ∧ ∃ q os', w' = Go.Sort.grow (w.drewN q) os' := by
  obtain ⟨xa, HXA⟩ := nameIt x.at'
  obtain ⟨xi, HXI⟩ := nameIt x.attr
  obtain ⟨ya, HYA⟩ := nameIt y.at'
  obtain ⟨yi, HYI⟩ := nameIt y.attr
  obtain ⟨w0, HW0⟩ := nameIt ((w.alloc (.cells #[.int .i64 xa, .int .i64 xi] 30)).alloc (.cells #[.int .i64 ya, .int .i64 yi] 30))
  have HWG : Hid (∃ os', w0 = Go.Sort.grow w os') := ⟨_, by rw [← HW0.out, Go.Sort.alloc_eq_grow, Go.Sort.alloc_eq_grow, Go.Sort.grow_grow]⟩
  have HB : Hid (Below w.heap.size w w0) := by rw [← HW0.out]; exact ((Below.refl _ _).alloc (Nat.le_refl _) _).alloc (by simp) _
  have X1 : Hid (w0.heap[w.heap.size]? = some (.cells #[.int .i64 xa, .int .i64 xi] 30 (0, 0))) := by
    rw [← HW0.out]; exact bx_keep (bx_new _ _ _ rfl) ((Below.refl _ _).alloc (Nat.le_refl _) _)
  have X2 : Hid (w0.heap[w.heap.size + 1]? = some (.cells #[.int .i64 ya, .int .i64 yi] 30 (0, 0))) := by
    rw [← HW0.out]; exact bx_new _ _ _ (by simp)
  obtain ⟨q1, HQ1⟩ := nameIt (cmp3 xa ya)
  obtain ⟨q2, HQ2⟩ := nameIt (cmp3 xi yi)
  have C1 := Lib.hid (fun W => compareInt xa ya W)
  have C2 := Lib.hid (fun W => compareInt xi yi W)
  rw [HQ1.out] at C1
  rw [HQ2.out] at C2
  have HR : Hid (cmpRef x y = orL [q1, q2]) := by show _ = _; unfold cmpRef; rw [HXA.out, HYA.out, HXI.out, HYI.out, HQ1.out, HQ2.out]
  rw [HXA.out, HXI.out, HYA.out, HYI.out]
  obtain ⟨x0, x1⟩ := bx_cells2 X1.out
  obtain ⟨y0, y1⟩ := bx_cells2 X2.out
  go_enter Try.func15, Try.ntmps15
  go_wp2_with fail
  rw [HW0.out]
  go_region_held3 (fun w' => w'.cell? ⟨w.heap.size, 0, none⟩ = some (.int .i64 xa) ∧ w'.cell? ⟨w.heap.size, 0 + 1, none⟩ = some (.int .i64 xi) ∧ w'.cell? ⟨w.heap.size + 1, 0, none⟩ = some (.int .i64 ya) ∧ w'.cell? ⟨w.heap.size + 1, 0 + 1, none⟩ = some (.int .i64 yi))
    (first | exact cells4 (Below.refl _ _).drew X1.out X2.out | exact cells4 ((Below.refl _ _).drew.alloc (Nat.le_refl _) _) X1.out X2.out | fail)
    (first
      | (go_at_call 17; (with_reducible refine (C1.out _).mono ?_); rintro e w' ⟨rfl, rfl⟩)
      | (go_at_call 17; (with_reducible refine (C2.out _).mono ?_); rintro e w' ⟨rfl, rfl⟩)
      | (go_at_call 16; (with_reducible refine (orInt _ [q1, q2] _ (sl_lit (v := #[.int .i64 q1, .int .i64 q2]) rfl (of_decide_eq_true rfl))).mono ?_); rintro e w' ⟨rfl, rfl⟩)
      | fail)
  go_wp2_with fail
  go_ret
  obtain ⟨os, ho⟩ := HWG.out
  exact ⟨by rw [HR.out]; rfl, 1, os ++ _, by rw [ho, Go.Sort.alloc_eq_grow, ← Go.Sort.grow_grow]; rfl⟩
end At
end Go.Proofs.Ythkdeljlhplkgaa
