/- The law's own two valuations. -/
import Derived.Test.YthkdeljlhplkgaaAttrVal
import Derived.IntWalk
namespace Go.Proofs.Ythkdeljlhplkgaa
open Go.RowKit
namespace At

def getSeed (seed : Int) (r : Ref) : Int := ((seed.tmod 1009 + 1009) * (r.at' + 1) + r.attr).tmod 1000003
theorem seed_mod (seed : Int) : -1009 < seed.tmod 1009 ∧ seed.tmod 1009 < 1009 := by
  have h1 := Int.tmod_lt_of_pos seed (show (0 : Int) < 1009 by decide)
  refine ⟨?_, h1⟩
  have h3 := Int.tmod_lt_of_pos (-seed) (show (0 : Int) < 1009 by decide)
  rw [Int.neg_tmod] at h3
  omega
theorem getSeed_raw (seed : Int) (r : Ref) (h : okRefV r) : 0 ≤ (seed.tmod 1009 + 1009) * (r.at' + 1) ∧ (seed.tmod 1009 + 1009) * (r.at' + 1) ≤ 2100000 := by
  obtain ⟨h1, h2, h3, h4⟩ := h
  obtain ⟨m1, m2⟩ := seed_mod seed
  refine ⟨Int.mul_nonneg (by omega) (by omega), ?_⟩
  have := Int.mul_le_mul (show seed.tmod 1009 + 1009 ≤ 2018 by omega) (show r.at' + 1 ≤ 1001 by omega) (by omega) (by omega)
  omega
theorem getSeed_inM (seed : Int) (r : Ref) (h : okRefV r) : inM (getSeed seed r) := by
  obtain ⟨h1, h2⟩ := getSeed_raw seed r h
  have h3 := h.2.2.1
  have h4 := h.2.2.2
  unfold inM getSeed
  rw [Int.tmod_eq_emod_of_nonneg (by omega)]
  omega

theorem sevenE (r : Ref) (W : World) : Calls Try.prog 5 #[.agg #[.int .i64 r.at', .int .i64 r.attr]] W fun e w' => e = .returned (.int .i64 7) ∧ Below W.heap.size W w' := by
  go_enter Try.func5, Try.ntmps5
  go_wp2_with fail
  go_ret
  exact ⟨rfl, (Below.refl _ _).alloc (Nat.le_refl _) _⟩
theorem sevenG (w : World) : GetAt 5 #[] (fun _ => 7) w := fun W r _ _ => sevenE r W

set_option maxHeartbeats 1000000 in
theorem seedE (seed : Int) (sb : Nat) (r : Ref) (hr : okRefV r) (W : World) (hs : W.cell? ⟨sb, 0, none⟩ = some (.int .i64 seed)) :
    Calls Try.prog 8 #[.agg #[.int .i64 r.at', .int .i64 r.attr], .pointer (some ⟨sb, 0, none⟩)] W fun e w' => e = .returned (.int .i64 (getSeed seed r)) ∧ Below W.heap.size W w' := by
  obtain ⟨h1, h2⟩ := getSeed_raw seed r hr
  obtain ⟨m1, m2⟩ := seed_mod seed
  have h3 := hr.2.2.1
  have h4 := hr.2.2.2
  have h5 := hr.1
  have h6 := hr.2.1
  have hE : Hid (getSeed seed r = ((seed.tmod 1009 + 1009) * (r.at' + 1) + r.attr).tmod 1000003) := rfl
  have hm := getSeed_inM seed r hr
  obtain ⟨G, HG⟩ := nameIt (getSeed seed r)
  rw [HG.out] at hE hm ⊢
  obtain ⟨ra, HRA⟩ := nameIt r.at'
  obtain ⟨ri, HRI⟩ := nameIt r.attr
  rw [HRA.out, HRI.out] at hE
  rw [HRA.out] at h1 h2 h5 h6
  rw [HRI.out] at h3 h4
  rw [HRA.out, HRI.out]
  obtain ⟨s0, HS0⟩ := nameIt (seed.tmod 1009)
  rw [HS0.out] at hE h1 h2 m1 m2
  obtain ⟨p, HPR⟩ := nameIt ((s0 + 1009) * (ra + 1))
  rw [HPR.out] at hE h1 h2
  unfold inM at hm
  have w0 : IntKind.i64.wrap s0 = s0 := IntWalk.i64_in _ (by omega)
  have w1 : IntKind.i64.wrap (s0 + 1009) = s0 + 1009 := IntWalk.i64_in _ (by omega)
  have w2 : IntKind.i64.wrap (ra + 1) = ra + 1 := IntWalk.i64_in _ (by omega)
  have w3 : IntKind.i64.wrap ((s0 + 1009) * (ra + 1)) = p := by rw [HPR.out]; exact IntWalk.i64_in _ (by omega)
  have w4 : IntKind.i64.wrap (p + ri) = p + ri := IntWalk.i64_in _ (by omega)
  have w5 : IntKind.i64.wrap ((p + ri).tmod 1000003) = G := by rw [← hE.out]; exact IntWalk.i64_in _ (by omega)
  have hs' : (W.alloc (.cells #[.int .i64 ra, .int .i64 ri] 30)).cell? ⟨sb, 0, none⟩ = some (.int .i64 seed) := (((Below.refl _ _).alloc (Nat.le_refl _) _).cell (lt_of_cell hs)).trans hs
  have w6 : IntKind.i64.wrap (seed.tmod 1009) = s0 := by rw [HS0.out]; exact w0
  have w7 := hE.out.symm
  obtain ⟨W0, HW0⟩ := nameIt (W.alloc (.cells #[.int .i64 ra, .int .i64 ri] 30))
  have X0 : W0.heap[W.heap.size]? = some (.cells #[.int .i64 ra, .int .i64 ri] 30 (0, 0)) := by rw [← HW0.out]; exact bx_new _ _ _ rfl
  have HB : Hid (Below W.heap.size W W0) := by rw [← HW0.out]; exact (Below.refl _ _).alloc (Nat.le_refl _) _
  rw [HW0.out] at hs'
  obtain ⟨x0, x1⟩ := bx_cells2 X0
  have ht := HS0.out
  clear h1 h2 h3 h4 h5 h6 m1 m2 hs X0 hm
  go_enter Try.func8, Try.ntmps8
  go_upto_region 1 with fail
  rw [HW0.out]
  go_wp2_with fail
  go_ret
  exact ⟨by first | rfl | simp, HB.out⟩

theorem seedG (seed : Int) (sb : Nat) (w : World) (hs : w.cell? ⟨sb, 0, none⟩ = some (.int .i64 seed)) : GetAt 8 #[.pointer (some ⟨sb, 0, none⟩)] (getSeed seed) w :=
  fun W r hr hb => seedE seed sb r hr W ((hb.cell (lt_of_cell hs)).trans hs)
end At
end Go.Proofs.Ythkdeljlhplkgaa
