/- The contracts of the closures that look for an equation of a rule and a place. -/
import Derived.Test.YthkdeljlhplkgaaAttrIdx
import Derived.Test.YthkdeljlhplkgaaAttrCheckP
namespace Go.Proofs.Ythkdeljlhplkgaa
open Go.RowKit
namespace At

set_option maxHeartbeats 2000000 in
set_option maxRecDepth 100000 in
theorem predFault (rule : Int) (x : Ref) (br bx : Nat) (l : List Eqn) (w : World) (h1 : w.heap[br]? = some (.cells #[.int .i64 rule] 3 (0, 0))) (h2 : w.heap[bx]? = some (.cells #[.int .i64 x.at', .int .i64 x.attr] 30 (0, 0))) :
    PredEqn 36 #[.pointer (some ⟨br, 0, none⟩), .pointer (some ⟨bx, 0, none⟩)] l (fun q => decide (q.rule = rule ∧ q.to' = x)) w := by
  intro W q v _ hb hv
  obtain ⟨a, cap, rfl, -, -⟩ := hv.form
  rw [List.length_map]
  obtain ⟨w0, HW0⟩ := nameIt (W.alloc (.cells #[.int .i64 q.rule, .int .i64 q.to'.at', .int .i64 q.to'.attr, .int .i64 q.is'.kind, .int .i64 q.is'.n, .int .i64 q.is'.ref.at', .int .i64 q.is'.ref.attr, .slice a q.is'.args.length cap] 41))
  have HB0 : Hid (Below W.heap.size W w0) := by rw [← HW0.out]; exact (Below.refl _ _).alloc (Nat.le_refl _) _
  have X0 : Hid (w0.heap[W.heap.size]? = some (.cells #[.int .i64 q.rule, .int .i64 q.to'.at', .int .i64 q.to'.attr, .int .i64 q.is'.kind, .int .i64 q.is'.n, .int .i64 q.is'.ref.at', .int .i64 q.is'.ref.attr, .slice a q.is'.args.length cap] 41 (0, 0))) := by rw [← HW0.out]; exact bx_new _ _ _ rfl
  have y0 := bx_cells1 (bx_keep (bx_keep h1 hb) HB0.out)
  obtain ⟨y1, y2⟩ := bx_cells2 (bx_keep (bx_keep h2 hb) HB0.out)
  obtain ⟨rs, HRS⟩ := nameIt (decide (q.rule = rule ∧ q.to' = x))
  have HE : Hid (rs = decide (q.rule = rule ∧ q.to'.at' = x.at' ∧ q.to'.attr = x.attr)) := by
    show _ = _
    rw [← HRS.out, decide_eq_decide]
    cases q.to' with
    | mk u v => cases x with | mk u' v' => simp
  obtain ⟨q0, HQ0⟩ := nameIt q.rule
  obtain ⟨q1, HQ1⟩ := nameIt q.to'.at'
  obtain ⟨q2, HQ2⟩ := nameIt q.to'.attr
  obtain ⟨q3, HQ3⟩ := nameIt q.is'.kind
  obtain ⟨q4, HQ4⟩ := nameIt q.is'.n
  obtain ⟨q5, HQ5⟩ := nameIt q.is'.ref.at'
  obtain ⟨q6, HQ6⟩ := nameIt q.is'.ref.attr
  obtain ⟨qn, HQN⟩ := nameIt q.is'.args.length
  obtain ⟨xa, HXA⟩ := nameIt x.at'
  obtain ⟨xi, HXI⟩ := nameIt x.attr
  rw [HQ0.out, HQ1.out, HQ2.out, HQ3.out, HQ4.out, HQ5.out, HQ6.out, HQN.out] at HW0 X0
  rw [HQ0.out, HQ1.out, HQ2.out, HXA.out, HXI.out] at HE
  rw [HXA.out] at y1
  rw [HXI.out] at y2
  rw [HQ0.out, HQ1.out, HQ2.out, HQ3.out, HQ4.out, HQ5.out, HQ6.out, HQN.out]
  show Calls Try.prog 36 #[.agg #[.int .i64 q0, .int .i64 q1, .int .i64 q2, .int .i64 q3, .int .i64 q4, .int .i64 q5, .int .i64 q6, .slice a qn cap], .pointer (some ⟨br, 0, none⟩), .pointer (some ⟨bx, 0, none⟩)] W (fun e w' => e = .returned (.bool (decide (q.rule = rule ∧ q.to' = x))) ∧ Below W.heap.size W w')
  rw [HRS.out]
  obtain ⟨x0, x1, x2, x3, x4, x5, x6, x7⟩ := bx_cells8 X0.out
  clear h1 h2 hb hv
  go_enter Try.func36, Try.ntmps36
  go_upto_region 1 with fail
  rw [HW0.out]
  by_cases e0 : q0 = rule
  · have e0' : (q0 == rule) = true := by simpa using e0
    by_cases e1 : q1 = xa
    · by_cases e2 : q2 = xi
      · obtain rfl : rs = true := by rw [HE.out]; exact decide_eq_true ⟨e0, e1, e2⟩
        subst e0 e1 e2
        go_wp2_with fail
        go_ret
        exact ⟨rfl, HB0.out⟩
      · have e2' : (q2 == xi) = false := by simpa using e2
        obtain rfl : rs = false := by rw [HE.out]; exact decide_eq_false (fun h => e2 h.2.2)
        subst e0 e1
        clear e2
        go_wp2_with fail
        go_ret
        exact ⟨rfl, HB0.out⟩
    · have e1' : (q1 == xa) = false := by simpa using e1
      obtain rfl : rs = false := by rw [HE.out]; exact decide_eq_false (fun h => e1 h.2.1)
      subst e0
      clear e1
      go_wp2_with fail
      go_ret
      exact ⟨rfl, HB0.out⟩
  · have e0' : (q0 == rule) = false := by simpa using e0
    obtain rfl : rs = false := by rw [HE.out]; exact decide_eq_false (fun h => e0 h.1)
    clear e0
    go_wp2_with fail
    go_ret
    exact ⟨rfl, HB0.out⟩
end At
end Go.Proofs.Ythkdeljlhplkgaa
