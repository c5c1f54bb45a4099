/- The contract of parlref4.Joined. -/
import Derived.Test.YtfbacnifankfkaaEditCompose
namespace Go.Proofs.Ytfbacnifankfkaa
open Go.RowKit

set_option maxHeartbeats 8000000 in
set_option maxRecDepth 100000 in
theorem joinedR (a : Option Addr) (cap : Nat) (l : List Int) (f1 t1 : Int) (a1 : Option Addr) (l1 : List Int) (c1 : Nat) (f2 t2 : Int) (a2 : Option Addr) (l2 : List Int) (c2 : Nat) (w : World) (h0 : Sl w (.slice a l.length cap) (ints l)) (h1 : Sl w (.slice a1 l1.length c1) (ints l1)) (h2 : Sl w (.slice a2 l2.length c2) (ints l2))
    (b0 : l.length * 8 ≤ 140737488351232) (b1 : l1.length * 8 ≤ 140737488351232) (b2 : l2.length * 8 ≤ 140737488351232) :
    Calls Try.prog 58 #[.slice a l.length cap, .agg #[.int .i64 f1, .int .i64 t1, .slice a1 l1.length c1], .agg #[.int .i64 f2, .int .i64 t2, .slice a2 l2.length c2]] w (OverPost (comp l f1 t1 l1 f2 t2 l2) w) := by
  have H0 := Lib.hid h0
  have H1 := Lib.hid h1
  have H2 := Lib.hid h2
  clear h0 h1 h2
  obtain ⟨F1, HF1⟩ : ∃ F, Hid (fault l.length f1 t1 l1.length = F) := ⟨_, rfl⟩
  go_enter Try.func58, Try.ntmps58
  go_wp2_with fail
  refine (editFault l.length f1 t1 a1 l1.length c1 _ (by omega) (by omega) (by omega)).mono ?_
  rintro e w1 ⟨rfl, hb1⟩
  rw [HF1.out]
  obtain ⟨x1, x2, x3, hB, hsz⟩ := three_boxes w _ _ _ _ _ _ hb1
  have X1 := Lib.hid x1
  have X2 := Lib.hid x2
  have X3 := Lib.hid x3
  have HB := Lib.hid hB
  by_cases hF1 : F1 = 0
  · subst hF1
    obtain ⟨z1, z2, z3, z4⟩ := fault_zero HF1.out
    obtain ⟨f1', rfl⟩ := Int.eq_ofNat_of_zero_le z1
    obtain ⟨t1', rfl⟩ := Int.eq_ofNat_of_zero_le (show 0 ≤ t1 by omega)
    have hxl := edited_len l f1' t1' l1 (by omega) (by omega)
    obtain ⟨p0, p1, p2⟩ := bx_cells3 x1
    clear hb1 x1 x2 x3 hB
    go_wp2_with fail
    refine (editedR a cap l f1' t1' a1 c1 l1 _ (H0.out.keep HB.out) (H1.out.keep HB.out) (by omega) (by omega) (by omega) b0).mono ?_
    rintro e w2 ⟨ax, cx, rfl, ho2, hb2⟩
    obtain ⟨X, HX⟩ : ∃ X, Hid (edited l f1' t1' l1 = X) := ⟨_, rfl⟩
    rw [HX.out] at ho2 hxl ⊢
    have HXL := Lib.hid hxl
    have hx2000 : X.length ≤ 2000 := by omega
    have HS1 := Lib.hid (sl_of_own ho2)
    have HB2 := Lib.hid (HB.out.trans (hb2.mono HB.out.size))
    have y1 := bx_keep X1.out hb2
    have y2 := bx_keep X2.out hb2
    have y3 := bx_keep X3.out hb2
    have Y1 := Lib.hid y1
    have Y2 := Lib.hid y2
    have Y3 := Lib.hid y3
    have hsz2 : w.heap.size + 2 < w2.heap.size := by have := hb2.size; omega
    obtain ⟨F2, HF2⟩ : ∃ F, Hid (fault X.length f2 t2 l2.length = F) := ⟨_, rfl⟩
    clear p0 p1 p2 X1 X2 X3 hb2 ho2 hxl y1 y3
    obtain ⟨q0, q1, q2⟩ := bx_cells3 y2
    clear y2
    go_wp2_with fail
    refine (editFault X.length f2 t2 a2 l2.length c2 _ (by omega) (by omega) (by omega)).mono ?_
    rintro e w3 ⟨rfl, hb3⟩
    rw [HF2.out]
    have HB3 := Lib.hid (HB2.out.trans (hb3.mono HB2.out.size))
    have HS1' := Lib.hid (HS1.out.keep hb3)
    have hsz3 : w.heap.size + 2 < w3.heap.size := by have := hb3.size; omega
    have y1 := bx_keep Y1.out hb3
    have y2 := bx_keep Y2.out hb3
    have y3 := bx_keep Y3.out hb3
    clear q0 q1 q2 Y1 Y2 Y3 hb3 HS1
    have Y1 := Lib.hid y1
    have Y2 := Lib.hid y2
    have Y3 := Lib.hid y3
    by_cases hF2 : F2 = 0
    · subst hF2
      obtain ⟨z5, z6, z7, z8⟩ := fault_zero HF2.out
      obtain ⟨f2', rfl⟩ := Int.eq_ofNat_of_zero_le z5
      obtain ⟨t2', rfl⟩ := Int.eq_ofNat_of_zero_le (show 0 ≤ t2 by omega)
      have hyl := edited_len X f2' t2' l2 (by omega) (by omega)
      obtain ⟨q0, q1, q2⟩ := bx_cells3 y2
      clear y1 y2 y3
      go_wp2_with fail
      refine (editedR ax cx X f2' t2' a2 c2 l2 _ HS1'.out (H2.out.keep HB3.out) (by omega) (by omega) (by omega) (by omega)).mono ?_
      rintro e w4 ⟨ay, cy, rfl, ho4, hb4⟩
      obtain ⟨Y, HY⟩ : ∃ Y, Hid (edited X f2' t2' l2 = Y) := ⟨_, rfl⟩
      rw [HY.out] at ho4 hyl ⊢
      have HYL := Lib.hid hyl
      have hy2000 : Y.length ≤ 2000 := by omega
      have HO4 := Lib.hid ho4
      have hcy : Y.length ≤ cy := (sl_of_own ho4).len.2.1 |> fun h => by simpa [ints] using h
      have HB4 := Lib.hid (HB3.out.trans (hb4.mono HB3.out.size))
      have hsz4 : w.heap.size + 2 < w4.heap.size := by have := hb4.size; omega
      have y1 := bx_keep Y1.out hb4
      have y2 := bx_keep Y2.out hb4
      have y3 := bx_keep Y3.out hb4
      clear q0 q1 q2 Y1 Y2 Y3 ho4 hyl
      obtain ⟨p0, p1, p2⟩ := bx_cells3 y1
      obtain ⟨q0, q1, q2⟩ := bx_cells3 y2
      obtain ⟨r0, r1, r2⟩ := bx_cells3 y3
      obtain ⟨s0, s1, s2⟩ := bx_free3 y3
      have HZ3 : Hid (w3.heap.size > w.heap.size + 2) := hsz3
      clear y1 y2 y3 hb4
      by_cases hmin : f1' ≤ f2' <;> by_cases hov : f1' + l1.length < t2'
      · have hR : (X.length : Int) - (t2' : Int) < (l.length : Int) - (t1' : Int) := by have := HXL.out; omega
        have hR2 : ¬ (l.length : Int) - (t1' : Int) ≤ (X.length : Int) - (t2' : Int) := by omega
        have HRE : Hid (l.length - (t1' + (t2' - (f1' + l1.length))) = X.length - t2') := by have := HXL.out; show _ = _; omega
        have HTI : Hid ((l.length : Int) - ((X.length : Int) - (t2' : Int)) = ((t1' + (t2' - (f1' + l1.length)) : Nat) : Int)) := by have := HXL.out; show _ = _; omega
        have HM := Lib.hid (comp_ok (m := f1') (T := t1' + (t2' - (f1' + l1.length))) HF1.out HX.out HF2.out HY.out (by omega) (by unfold compTo; rw [if_pos (by omega)]; omega))
        have hme : f1' ≤ Y.length - (X.length - t2') := by have := HXL.out; have := HYL.out; omega
        have i0 : 0 ≤ (Y.length : Int) - ((X.length : Int) - (t2' : Int)) := by have := HXL.out; have := HYL.out; omega
        have i1 : (Y.length : Int) - ((X.length : Int) - (t2' : Int)) ≤ (cy : Int) := by omega
        have i2 : (f1' : Int) ≤ (Y.length : Int) - ((X.length : Int) - (t2' : Int)) := by have := HXL.out; have := HYL.out; omega
        rw [HRE.out] at HM
        obtain ⟨vs, HVS, HSL⟩ : ∃ vs, Hid (vs = Value.slice (if cy = f1' then ay else ay.map fun x => x.add f1') (Y.length - (X.length - t2') - f1') (cy - f1')) ∧ Hid (∀ w', Below w.heap.size w w' → w4.grownBy w' (some (w.heap.size + 1 + 1)) → Sl w' vs (ints ((Y.drop f1').take (Y.length - (X.length - t2') - f1')))) := by
          refine ⟨_, rfl, ?_⟩
          intro w' _ hg
          have e : ints ((Y.drop f1').take (Y.length - (X.length - t2') - f1')) = ((ints Y).drop f1').take (Y.length - (X.length - t2') - f1') := by simp [ints]
          rw [e]
          refine (sl_of_own (HO4.out.kept hg (.inr fun e => ?_))).part hme (by omega)
          have h5 : w3.heap.size ≤ w.heap.size + 1 + 1 := (HO4.out.lt _ e).1
          have := HZ3.out
          omega
        have hzl : ((Y.drop f1').take (Y.length - (X.length - t2') - f1')).length = Y.length - (X.length - t2') - f1' := by simp; omega
        by_cases hct : cy = f1'
        all_goals
          first | (rw [if_pos hct] at HVS; have hct' := hct.symm; subst hct'; rw [show Y.length - (X.length - t2') - f1' = 0 by omega, Nat.sub_self] at HVS) | rw [if_neg hct] at HVS
          go_wp2_with fail
          rw [← HVS.out]
          have hg4 := grown3 w4 (w.heap.size + 1 + 1) (.int .i64 f1') (.int .i64 ((l.length : Int) - ((X.length : Int) - (t2' : Int)))) vs
          have hB4 := ((HB4.out.setCell (p := ⟨w.heap.size + 1 + 1, 0, none⟩) (by simp; omega) (.int .i64 f1')).setCell (p := ⟨w.heap.size + 1 + 1, 1, none⟩) (by simp; omega) (.int .i64 ((l.length : Int) - ((X.length : Int) - (t2' : Int))))).setCell (p := ⟨w.heap.size + 1 + 1, 2, none⟩) (by simp; omega) vs
          have hsl := HSL.out _ hB4 hg4
          refine bodyPost_ret (v := .tuple #[.agg #[.int .i64 f1', .int .i64 ((l.length : Int) - ((X.length : Int) - (t2' : Int))), vs], .int .i64 0]) (by simp [results, Try.results58, go_sem, r0, r1, r2]) rfl ?_
          rw [HM.out]
          obtain ⟨av, cv, hv⟩ := hsl.form
          rw [ints_len] at hv
          refine ⟨av, cv, by rw [hv, HTI.out], ?_, hB4⟩
          rw [← hv]
          exact hsl
      · have hR : (l.length : Int) - (t1' : Int) ≤ (X.length : Int) - (t2' : Int) := by have := HXL.out; omega
        have hR2 : ¬ (X.length : Int) - (t2' : Int) < (l.length : Int) - (t1' : Int) := by omega
        have HRE : Hid (l.length - (t1') = l.length - t1') := by have := HXL.out; show _ = _; omega
        have HTI : Hid ((l.length : Int) - ((l.length : Int) - (t1' : Int)) = ((t1' : Nat) : Int)) := by have := HXL.out; show _ = _; omega
        have HM := Lib.hid (comp_ok (m := f1') (T := t1') HF1.out HX.out HF2.out HY.out (by omega) (by unfold compTo; rw [if_neg (by omega)]))
        have hme : f1' ≤ Y.length - (l.length - t1') := by have := HXL.out; have := HYL.out; omega
        have i0 : 0 ≤ (Y.length : Int) - ((l.length : Int) - (t1' : Int)) := by have := HXL.out; have := HYL.out; omega
        have i1 : (Y.length : Int) - ((l.length : Int) - (t1' : Int)) ≤ (cy : Int) := by omega
        have i2 : (f1' : Int) ≤ (Y.length : Int) - ((l.length : Int) - (t1' : Int)) := by have := HXL.out; have := HYL.out; omega
        rw [HRE.out] at HM
        obtain ⟨vs, HVS, HSL⟩ : ∃ vs, Hid (vs = Value.slice (if cy = f1' then ay else ay.map fun x => x.add f1') (Y.length - (l.length - t1') - f1') (cy - f1')) ∧ Hid (∀ w', Below w.heap.size w w' → w4.grownBy w' (some (w.heap.size + 1 + 1)) → Sl w' vs (ints ((Y.drop f1').take (Y.length - (l.length - t1') - f1')))) := by
          refine ⟨_, rfl, ?_⟩
          intro w' _ hg
          have e : ints ((Y.drop f1').take (Y.length - (l.length - t1') - f1')) = ((ints Y).drop f1').take (Y.length - (l.length - t1') - f1') := by simp [ints]
          rw [e]
          refine (sl_of_own (HO4.out.kept hg (.inr fun e => ?_))).part hme (by omega)
          have h5 : w3.heap.size ≤ w.heap.size + 1 + 1 := (HO4.out.lt _ e).1
          have := HZ3.out
          omega
        have hzl : ((Y.drop f1').take (Y.length - (l.length - t1') - f1')).length = Y.length - (l.length - t1') - f1' := by simp; omega
        by_cases hct : cy = f1'
        all_goals
          first | (rw [if_pos hct] at HVS; have hct' := hct.symm; subst hct'; rw [show Y.length - (l.length - t1') - f1' = 0 by omega, Nat.sub_self] at HVS) | rw [if_neg hct] at HVS
          go_wp2_with fail
          rw [← HVS.out]
          have hg4 := grown3 w4 (w.heap.size + 1 + 1) (.int .i64 f1') (.int .i64 ((l.length : Int) - ((l.length : Int) - (t1' : Int)))) vs
          have hB4 := ((HB4.out.setCell (p := ⟨w.heap.size + 1 + 1, 0, none⟩) (by simp; omega) (.int .i64 f1')).setCell (p := ⟨w.heap.size + 1 + 1, 1, none⟩) (by simp; omega) (.int .i64 ((l.length : Int) - ((l.length : Int) - (t1' : Int))))).setCell (p := ⟨w.heap.size + 1 + 1, 2, none⟩) (by simp; omega) vs
          have hsl := HSL.out _ hB4 hg4
          refine bodyPost_ret (v := .tuple #[.agg #[.int .i64 f1', .int .i64 ((l.length : Int) - ((l.length : Int) - (t1' : Int))), vs], .int .i64 0]) (by simp [results, Try.results58, go_sem, r0, r1, r2]) rfl ?_
          rw [HM.out]
          obtain ⟨av, cv, hv⟩ := hsl.form
          rw [ints_len] at hv
          refine ⟨av, cv, by rw [hv, HTI.out], ?_, hB4⟩
          rw [← hv]
          exact hsl
      · have hR : (X.length : Int) - (t2' : Int) < (l.length : Int) - (t1' : Int) := by have := HXL.out; omega
        have hR2 : ¬ (l.length : Int) - (t1' : Int) ≤ (X.length : Int) - (t2' : Int) := by omega
        have HRE : Hid (l.length - (t1' + (t2' - (f1' + l1.length))) = X.length - t2') := by have := HXL.out; show _ = _; omega
        have HTI : Hid ((l.length : Int) - ((X.length : Int) - (t2' : Int)) = ((t1' + (t2' - (f1' + l1.length)) : Nat) : Int)) := by have := HXL.out; show _ = _; omega
        have HM := Lib.hid (comp_ok (m := f2') (T := t1' + (t2' - (f1' + l1.length))) HF1.out HX.out HF2.out HY.out (by omega) (by unfold compTo; rw [if_pos (by omega)]; omega))
        have hme : f2' ≤ Y.length - (X.length - t2') := by have := HXL.out; have := HYL.out; omega
        have i0 : 0 ≤ (Y.length : Int) - ((X.length : Int) - (t2' : Int)) := by have := HXL.out; have := HYL.out; omega
        have i1 : (Y.length : Int) - ((X.length : Int) - (t2' : Int)) ≤ (cy : Int) := by omega
        have i2 : (f2' : Int) ≤ (Y.length : Int) - ((X.length : Int) - (t2' : Int)) := by have := HXL.out; have := HYL.out; omega
        rw [HRE.out] at HM
        obtain ⟨vs, HVS, HSL⟩ : ∃ vs, Hid (vs = Value.slice (if cy = f2' then ay else ay.map fun x => x.add f2') (Y.length - (X.length - t2') - f2') (cy - f2')) ∧ Hid (∀ w', Below w.heap.size w w' → w4.grownBy w' (some (w.heap.size + 1 + 1)) → Sl w' vs (ints ((Y.drop f2').take (Y.length - (X.length - t2') - f2')))) := by
          refine ⟨_, rfl, ?_⟩
          intro w' _ hg
          have e : ints ((Y.drop f2').take (Y.length - (X.length - t2') - f2')) = ((ints Y).drop f2').take (Y.length - (X.length - t2') - f2') := by simp [ints]
          rw [e]
          refine (sl_of_own (HO4.out.kept hg (.inr fun e => ?_))).part hme (by omega)
          have h5 : w3.heap.size ≤ w.heap.size + 1 + 1 := (HO4.out.lt _ e).1
          have := HZ3.out
          omega
        have hzl : ((Y.drop f2').take (Y.length - (X.length - t2') - f2')).length = Y.length - (X.length - t2') - f2' := by simp; omega
        by_cases hct : cy = f2'
        all_goals
          first | (rw [if_pos hct] at HVS; have hct' := hct.symm; subst hct'; rw [show Y.length - (X.length - t2') - f2' = 0 by omega, Nat.sub_self] at HVS) | rw [if_neg hct] at HVS
          go_wp2_with fail
          rw [← HVS.out]
          have hg4 := grown3 w4 (w.heap.size + 1 + 1) (.int .i64 f2') (.int .i64 ((l.length : Int) - ((X.length : Int) - (t2' : Int)))) vs
          have hB4 := ((HB4.out.setCell (p := ⟨w.heap.size + 1 + 1, 0, none⟩) (by simp; omega) (.int .i64 f2')).setCell (p := ⟨w.heap.size + 1 + 1, 1, none⟩) (by simp; omega) (.int .i64 ((l.length : Int) - ((X.length : Int) - (t2' : Int))))).setCell (p := ⟨w.heap.size + 1 + 1, 2, none⟩) (by simp; omega) vs
          have hsl := HSL.out _ hB4 hg4
          refine bodyPost_ret (v := .tuple #[.agg #[.int .i64 f2', .int .i64 ((l.length : Int) - ((X.length : Int) - (t2' : Int))), vs], .int .i64 0]) (by simp [results, Try.results58, go_sem, r0, r1, r2]) rfl ?_
          rw [HM.out]
          obtain ⟨av, cv, hv⟩ := hsl.form
          rw [ints_len] at hv
          refine ⟨av, cv, by rw [hv, HTI.out], ?_, hB4⟩
          rw [← hv]
          exact hsl
      · have hR : (l.length : Int) - (t1' : Int) ≤ (X.length : Int) - (t2' : Int) := by have := HXL.out; omega
        have hR2 : ¬ (X.length : Int) - (t2' : Int) < (l.length : Int) - (t1' : Int) := by omega
        have HRE : Hid (l.length - (t1') = l.length - t1') := by have := HXL.out; show _ = _; omega
        have HTI : Hid ((l.length : Int) - ((l.length : Int) - (t1' : Int)) = ((t1' : Nat) : Int)) := by have := HXL.out; show _ = _; omega
        have HM := Lib.hid (comp_ok (m := f2') (T := t1') HF1.out HX.out HF2.out HY.out (by omega) (by unfold compTo; rw [if_neg (by omega)]))
        have hme : f2' ≤ Y.length - (l.length - t1') := by have := HXL.out; have := HYL.out; omega
        have i0 : 0 ≤ (Y.length : Int) - ((l.length : Int) - (t1' : Int)) := by have := HXL.out; have := HYL.out; omega
        have i1 : (Y.length : Int) - ((l.length : Int) - (t1' : Int)) ≤ (cy : Int) := by omega
        have i2 : (f2' : Int) ≤ (Y.length : Int) - ((l.length : Int) - (t1' : Int)) := by have := HXL.out; have := HYL.out; omega
        rw [HRE.out] at HM
        obtain ⟨vs, HVS, HSL⟩ : ∃ vs, Hid (vs = Value.slice (if cy = f2' then ay else ay.map fun x => x.add f2') (Y.length - (l.length - t1') - f2') (cy - f2')) ∧ Hid (∀ w', Below w.heap.size w w' → w4.grownBy w' (some (w.heap.size + 1 + 1)) → Sl w' vs (ints ((Y.drop f2').take (Y.length - (l.length - t1') - f2')))) := by
          refine ⟨_, rfl, ?_⟩
          intro w' _ hg
          have e : ints ((Y.drop f2').take (Y.length - (l.length - t1') - f2')) = ((ints Y).drop f2').take (Y.length - (l.length - t1') - f2') := by simp [ints]
          rw [e]
          refine (sl_of_own (HO4.out.kept hg (.inr fun e => ?_))).part hme (by omega)
          have h5 : w3.heap.size ≤ w.heap.size + 1 + 1 := (HO4.out.lt _ e).1
          have := HZ3.out
          omega
        have hzl : ((Y.drop f2').take (Y.length - (l.length - t1') - f2')).length = Y.length - (l.length - t1') - f2' := by simp; omega
        by_cases hct : cy = f2'
        all_goals
          first | (rw [if_pos hct] at HVS; have hct' := hct.symm; subst hct'; rw [show Y.length - (l.length - t1') - f2' = 0 by omega, Nat.sub_self] at HVS) | rw [if_neg hct] at HVS
          go_wp2_with fail
          rw [← HVS.out]
          have hg4 := grown3 w4 (w.heap.size + 1 + 1) (.int .i64 f2') (.int .i64 ((l.length : Int) - ((l.length : Int) - (t1' : Int)))) vs
          have hB4 := ((HB4.out.setCell (p := ⟨w.heap.size + 1 + 1, 0, none⟩) (by simp; omega) (.int .i64 f2')).setCell (p := ⟨w.heap.size + 1 + 1, 1, none⟩) (by simp; omega) (.int .i64 ((l.length : Int) - ((l.length : Int) - (t1' : Int))))).setCell (p := ⟨w.heap.size + 1 + 1, 2, none⟩) (by simp; omega) vs
          have hsl := HSL.out _ hB4 hg4
          refine bodyPost_ret (v := .tuple #[.agg #[.int .i64 f2', .int .i64 ((l.length : Int) - ((l.length : Int) - (t1' : Int))), vs], .int .i64 0]) (by simp [results, Try.results58, go_sem, r0, r1, r2]) rfl ?_
          rw [HM.out]
          obtain ⟨av, cv, hv⟩ := hsl.form
          rw [ints_len] at hv
          refine ⟨av, cv, by rw [hv, HTI.out], ?_, hB4⟩
          rw [← hv]
          exact hsl
    · have hne : (F2 != 0) = true := by rw [bne_iff_ne]; exact hF2
      have HM : Hid (comp l f1' t1' l1 f2 t2 l2 = (0, 0, [], F2)) := by
        show _ = _; rw [comp, if_neg (by rw [HF1.out]; simp), Int.toNat_natCast, Int.toNat_natCast, HX.out, if_pos (by rw [HF2.out]; exact hF2), HF2.out]
      have HF := Lib.hid hF2
      obtain ⟨r0, r1, r2⟩ := bx_cells3 y3
      obtain ⟨s0, s1, s2⟩ := bx_free3 y3
      clear hF2 y1 y2 y3
      go_wp2_with fail
      refine bodyPost_ret (v := .tuple #[.agg #[.int .i64 0, .int .i64 0, .slice none 0 0], .int .i64 F2]) (by simp [results, Try.results58, go_sem, r0, r1, r2]) rfl ?_
      rw [HM.out]
      exact ⟨none, 0, rfl, sl_of_own (World.ownsRow_nil _ 0 0 1), ((HB3.out.setCell (by simp; omega) _).setCell (by simp; omega) _).setCell (by simp; omega) _⟩
  · have hne : (F1 != 0) = true := by rw [bne_iff_ne]; exact hF1
    have HM : Hid (comp l f1 t1 l1 f2 t2 l2 = (0, 0, [], F1)) := by
      show _ = _; rw [comp, if_pos (by rw [HF1.out]; exact hF1), HF1.out]
    have HF := Lib.hid hF1
    obtain ⟨r0, r1, r2⟩ := bx_cells3 x3
    obtain ⟨s0, s1, s2⟩ := bx_free3 x3
    clear hF1 hb1 x1 x2 x3 hB
    go_wp2_with fail
    refine bodyPost_ret (v := .tuple #[.agg #[.int .i64 0, .int .i64 0, .slice none 0 0], .int .i64 F1]) (by simp [results, Try.results58, go_sem, r0, r1, r2]) rfl ?_
    rw [HM.out]
    exact ⟨none, 0, rfl, sl_of_own (World.ownsRow_nil _ 0 0 1), ((HB.out.setCell (by simp; omega) _).setCell (by simp; omega) _).setCell (by simp; omega) _⟩
end Go.Proofs.Ytfbacnifankfkaa
