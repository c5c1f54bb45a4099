/- The contracts of edit.Compose and parlref4.Joined. -/
import Derived.Test.YtfbacnifankfkaaEditOver
namespace Go.Proofs.Ytfbacnifankfkaa
open Go.RowKit

/-- the end of the joined edit -/
def compTo (t1 n1 f1 t2 : Int) : Int := if 0 < t2 - (f1 + n1) then t1 + (t2 - (f1 + n1)) else t1

/-- one edit for two, and an error -/
def comp (l : List Int) (f1 t1 : Int) (l1 : List Int) (f2 t2 : Int) (l2 : List Int) : Int × Int × List Int × Int :=
  if fault l.length f1 t1 l1.length ≠ 0 then (0, 0, [], fault l.length f1 t1 l1.length) else
  if fault (edited l f1.toNat t1.toNat l1).length f2 t2 l2.length ≠ 0 then (0, 0, [], fault (edited l f1.toNat t1.toNat l1).length f2 t2 l2.length) else
  (min f1 f2, compTo t1 l1.length f1 t2, ((edited (edited l f1.toNat t1.toNat l1) f2.toNat t2.toNat l2).drop (min f1 f2).toNat).take ((edited (edited l f1.toNat t1.toNat l1) f2.toNat t2.toNat l2).length - (l.length - (compTo t1 l1.length f1 t2).toNat) - (min f1 f2).toNat), 0)

theorem box_plain {w2 w3 : World} {cs : Array Value} {T : TypeId} (hb : Below (w2.alloc (.cells cs T)).heap.size (w2.alloc (.cells cs T)) w3) : w3.heap[w2.heap.size]? = some (.cells cs T (0, 0)) := bx_keep (heap_alloc_new w2 (.cells cs T)) hb

theorem edited_len (l : List Int) (f t : Nat) (n : List Int) (hf : f ≤ t) (ht : t ≤ l.length) : (edited l f t n).length = f + n.length + (l.length - t) := by
  simp [edited]; omega

theorem comp_ok {l : List Int} {f1 t1 : Nat} {l1 : List Int} {f2 t2 : Nat} {l2 X Y : List Int} {m T : Nat} (hF1 : fault l.length f1 t1 l1.length = 0) (hX : edited l f1 t1 l1 = X) (hF2 : fault X.length f2 t2 l2.length = 0) (hY : edited X f2 t2 l2 = Y) (hm : m = min f1 f2) (hT : (T : Int) = compTo t1 l1.length f1 t2) :
    comp l f1 t1 l1 f2 t2 l2 = ((m : Int), (T : Int), (Y.drop m).take (Y.length - (l.length - T) - m), 0) := by
  unfold comp
  simp only [Int.toNat_natCast, hX, hY]
  rw [if_neg (by rw [hF1]; simp), if_neg (by rw [hF2]; simp), ← hT]
  have e : min (f1 : Int) (f2 : Int) = (m : Int) := by omega
  rw [e]; simp

set_option maxHeartbeats 8000000 in
set_option maxRecDepth 100000 in
theorem composeE (a : Option Addr) (cap : Nat) (l : List Int) (f1 t1 : Int) (a1 : Option Addr) (l1 : List Int) (c1 : Nat) (f2 t2 : Int) (a2 : Option Addr) (l2 : List Int) (c2 : Nat) (w : World) (h0 : Sl w (.slice a l.length cap) (ints l)) (h1 : Sl w (.slice a1 l1.length c1) (ints l1)) (h2 : Sl w (.slice a2 l2.length c2) (ints l2))
    (b0 : l.length * 8 ≤ 140737488351232) (b1 : l1.length * 8 ≤ 140737488351232) (b2 : l2.length * 8 ≤ 140737488351232) :
    Calls Try.prog 57 #[.slice a l.length cap, .agg #[.int .i64 f1, .int .i64 t1, .slice a1 l1.length c1], .agg #[.int .i64 f2, .int .i64 t2, .slice a2 l2.length c2]] w (OverPost (comp l f1 t1 l1 f2 t2 l2) w) := by
  have H0 := Lib.hid h0
  have H1 := Lib.hid h1
  have H2 := Lib.hid h2
  have hB0 := (((Below.refl w.heap.size w).alloc (Nat.le_refl _) (.cells #[.int .i64 f1, .int .i64 t1, .slice a1 l1.length c1] 48)).alloc (by simp) (.cells #[.int .i64 f2, .int .i64 t2, .slice a2 l2.length c2] 48)).alloc (by simp; omega) (.cells #[.int .i64 0, .int .i64 0, .slice none 0 0] 48)
  have HB0 := Lib.hid hB0
  clear h0 h1 h2 hB0
  obtain ⟨F1, HF1⟩ : ∃ F, Hid (fault l.length f1 t1 l1.length = F) := ⟨_, rfl⟩
  go_enter Try.func57, Try.ntmps57
  go_wp2_with fail
  refine (applyE a cap l f1 t1 a1 c1 l1 _ (H0.out.keep HB0.out) (H1.out.keep HB0.out) b0 b1).mono ?_
  rintro e w1 ⟨v1, rfl, hs1, hb1⟩
  rw [HF1.out] at hs1 ⊢
  obtain ⟨x1, x2, x3, hB, hsz⟩ := three_boxes w _ _ _ _ _ _ hb1
  have X1 := Lib.hid x1
  have X2 := Lib.hid x2
  have X3 := Lib.hid x3
  have HB := Lib.hid hB
  by_cases hF1 : F1 = 0
  · subst hF1
    rw [if_pos rfl] at hs1
    obtain ⟨z1, z2, z3, z4⟩ := fault_zero HF1.out
    obtain ⟨f1', rfl⟩ := Int.eq_ofNat_of_zero_le z1
    obtain ⟨t1', rfl⟩ := Int.eq_ofNat_of_zero_le (show 0 ≤ t1 by omega)
    rw [Int.toNat_natCast, Int.toNat_natCast] at hs1
    have hxl := edited_len l f1' t1' l1 (by omega) (by omega)
    obtain ⟨X, HX⟩ : ∃ X, Hid (edited l f1' t1' l1 = X) := ⟨_, rfl⟩
    rw [HX.out] at hs1 hxl
    have HXL := Lib.hid hxl
    have hx2000 : X.length ≤ 2000 := by omega
    obtain ⟨ax, cx, rfl⟩ := hs1.form
    rw [ints_len] at hs1 ⊢
    have HS1 := Lib.hid hs1
    obtain ⟨q0, q1, q2⟩ := bx_cells3 x2
    obtain ⟨F2, HF2⟩ : ∃ F, Hid (fault X.length f2 t2 l2.length = F) := ⟨_, rfl⟩
    clear hb1 x1 x2 x3 hB hs1 hxl
    go_wp2_with fail
    refine (applyE ax cx X f2 t2 a2 c2 l2 _ HS1.out (H2.out.keep HB.out) (by omega) b2).mono ?_
    rintro e w2 ⟨v2, rfl, hs2, hb2⟩
    rw [HF2.out] at hs2 ⊢
    have HB2 := Lib.hid (HB.out.trans (hb2.mono HB.out.size))
    have hsz2 : w.heap.size + 2 < w2.heap.size := by have := hb2.size; omega
    have y1 := bx_keep X1.out hb2
    have y2 := bx_keep X2.out hb2
    have y3 := bx_keep X3.out hb2
    have Y3 := Lib.hid y3
    clear q0 q1 q2 X1 X2 X3 hb2
    by_cases hF2 : F2 = 0
    · subst hF2
      rw [if_pos rfl] at hs2
      obtain ⟨z5, z6, z7, z8⟩ := fault_zero HF2.out
      obtain ⟨f2', rfl⟩ := Int.eq_ofNat_of_zero_le z5
      obtain ⟨t2', rfl⟩ := Int.eq_ofNat_of_zero_le (show 0 ≤ t2 by omega)
      rw [Int.toNat_natCast, Int.toNat_natCast] at hs2
      have hyl := edited_len X f2' t2' l2 (by omega) (by omega)
      obtain ⟨Y, HY⟩ : ∃ Y, Hid (edited X f2' t2' l2 = Y) := ⟨_, rfl⟩
      rw [HY.out] at hs2 hyl
      have HYL := Lib.hid hyl
      have hy2000 : Y.length ≤ 2000 := by omega
      obtain ⟨ay, cy, rfl⟩ := hs2.form
      rw [ints_len] at hs2 ⊢
      have HS2 := Lib.hid hs2
      obtain ⟨p0, p1, p2⟩ := bx_cells3 y1
      obtain ⟨q0, q1, q2⟩ := bx_cells3 y2
      clear y1 y2 y3 hs2 hyl
      have k1 : w.heap.size < w2.heap.size := by omega
      have k2 : w.heap.size + 1 < w2.heap.size := by omega
      have k3 : w.heap.size + 1 + 1 < w2.heap.size := by omega
      have hcy : Y.length ≤ cy := HS2.out.len.2.1
      by_cases hmin : f1' ≤ f2' <;> by_cases hov : f1' + l1.length < t2'
      · have hT : (f1' : Int) + (l1.length : Int) < (t2' : Int) := by omega
        have hTl : t1' + (t2' - (f1' + l1.length)) ≤ l.length := by have := HXL.out; omega
        have hme : f1' ≤ Y.length - (l.length - (t1' + (t2' - (f1' + l1.length)))) := by have := HXL.out; have := HYL.out; omega
        have i0 : 0 ≤ (Y.length : Int) - ((l.length : Int) - ((t1' : Int) + ((t2' : Int) - ((f1' : Int) + (l1.length : Int))))) := by have := HXL.out; have := HYL.out; omega
        have i1 : (Y.length : Int) - ((l.length : Int) - ((t1' : Int) + ((t2' : Int) - ((f1' : Int) + (l1.length : Int))))) ≤ (cy : Int) := by omega
        have i2 : (f1' : Int) ≤ (Y.length : Int) - ((l.length : Int) - ((t1' : Int) + ((t2' : Int) - ((f1' : Int) + (l1.length : Int))))) := by omega
        have HM := Lib.hid (comp_ok (m := f1') (T := t1' + (t2' - (f1' + l1.length))) HF1.out HX.out HF2.out HY.out (by omega) (by unfold compTo; rw [if_pos (by omega)]; omega))
        obtain ⟨vs, HVS, HSL⟩ : ∃ vs, Hid (vs = Value.slice (if cy = f1' then ay else ay.map fun x => x.add f1') (Y.length - (l.length - (t1' + (t2' - (f1' + l1.length)))) - f1') (cy - f1')) ∧ Hid (Sl w2 vs (ints ((Y.drop f1').take (Y.length - (l.length - (t1' + (t2' - (f1' + l1.length)))) - f1')))) := by
          refine ⟨_, rfl, ?_⟩
          have e : ints ((Y.drop f1').take (Y.length - (l.length - (t1' + (t2' - (f1' + l1.length)))) - f1')) = ((ints Y).drop f1').take (Y.length - (l.length - (t1' + (t2' - (f1' + l1.length)))) - f1') := by simp [ints]
          rw [e]
          exact HS2.out.part hme (by omega)
        have hlen : ((Y.drop f1').take (Y.length - (l.length - (t1' + (t2' - (f1' + l1.length)))) - f1')).length * 8 ≤ 140737488355328 := by simp; omega
        obtain ⟨Z, HZ⟩ : ∃ Z, Hid ((Y.drop f1').take (Y.length - (l.length - (t1' + (t2' - (f1' + l1.length)))) - f1') = Z) := ⟨_, rfl⟩
        rw [HZ.out] at hlen HSL HM
        by_cases hct : cy = f1'
        all_goals
          first | (rw [if_pos hct] at HVS; have hct' := hct.symm; subst hct'; rw [show Y.length - (l.length - (t1' + (t2' - (f1' + l1.length)))) - f1' = 0 by omega, Nat.sub_self] at HVS) | rw [if_neg hct] at HVS
          rw [HVS.out] at HSL
          go_wp2_with fail
          refine (clone_int _ Z _ (HSL.out.keep ((Below.refl _ _).alloc (Nat.le_refl _) _)) hlen).mono ?_
          rintro e w3 ⟨a3, c3, rfl, ho3, hb3⟩
          have x4 := box_plain hb3
          have hB3 : Below w2.heap.size w2 w3 := ((Below.refl w2.heap.size w2).alloc (Nat.le_refl _) _).trans (hb3.mono (by simp))
          have y3 := bx_keep Y3.out hB3
          obtain ⟨o0, o1, o2⟩ := bx_cells3 x4
          obtain ⟨o3, o4, o5⟩ := bx_free3 x4
          obtain ⟨r0, r1, r2⟩ := bx_cells3 y3
          obtain ⟨s0, s1, s2⟩ := bx_free3 y3
          have HO3 := Lib.hid ho3
          have HB3 := Lib.hid (HB2.out.trans (hB3.mono HB2.out.size))
          have hn1 : ¬ w2.heap.size = w.heap.size + 2 := by omega
          have hn2 : ¬ w.heap.size + 2 = w2.heap.size := by omega
          have hn5 : ¬ w2.heap.size = w.heap.size + 1 + 1 := by omega
          have hn6 : ¬ w.heap.size + 1 + 1 = w2.heap.size := by omega
          clear x4 y3 ho3 hb3 hB3 p0 p1 p2 q0 q1 q2
          go_wp2_with fail
          refine bodyPost_ret (v := .tuple #[.agg #[.int .i64 f1', .int .i64 ((t1' : Int) + ((t2' : Int) - ((f1' : Int) + (l1.length : Int)))), .slice a3 Z.length c3], .int .i64 0]) (by simp [results, Try.results57, go_sem, r0, r1, r2, hn1, hn2]) rfl ?_
          rw [HM.out]
          refine ⟨a3, c3, by rw [show ((t1' : Int) + ((t2' : Int) - ((f1' : Int) + (l1.length : Int)))) = ((t1' + (t2' - (f1' + l1.length)) : Nat) : Int) by omega], sl_of_own (B := w2.heap.size + 1) (e := 3) (n := Z.length) ?_, ?_⟩
          · have ho : w3.ownsRow (w2.heap.size + 1) 3 1 (.slice a3 Z.length c3) Z.length (ints Z) := by have h := HO3.out; simpa using h
            refine (ho.kept (grown_cell w3 ⟨w2.heap.size, 2, none⟩ _) (.inr fun e => ?_)).kept (grown3 _ (w.heap.size + 1 + 1) _ _ _) (.inr fun e => ?_)
            · have h5 : w2.heap.size + 1 ≤ w2.heap.size := (ho.lt _ e).1
              omega
            · have h5 : w2.heap.size + 1 ≤ w.heap.size + 1 + 1 := (ho.lt _ e).1
              omega
          · exact (((HB3.out.setCell (p := ⟨w2.heap.size, 2, none⟩) (Nat.le_of_lt k1) _).setCell (p := ⟨w.heap.size + 1 + 1, 0, none⟩) (by simp; omega) _).setCell (p := ⟨w.heap.size + 1 + 1, 1, none⟩) (by simp; omega) _).setCell (p := ⟨w.heap.size + 1 + 1, 2, none⟩) (by simp; omega) _
      · have hT : ¬ (f1' : Int) + (l1.length : Int) < (t2' : Int) := by omega
        have hTl : t1' ≤ l.length := by have := HXL.out; omega
        have hme : f1' ≤ Y.length - (l.length - (t1')) := by have := HXL.out; have := HYL.out; omega
        have i0 : 0 ≤ (Y.length : Int) - ((l.length : Int) - (t1' : Int)) := by have := HXL.out; have := HYL.out; omega
        have i1 : (Y.length : Int) - ((l.length : Int) - (t1' : Int)) ≤ (cy : Int) := by omega
        have i2 : (f1' : Int) ≤ (Y.length : Int) - ((l.length : Int) - (t1' : Int)) := by omega
        have HM := Lib.hid (comp_ok (m := f1') (T := t1') HF1.out HX.out HF2.out HY.out (by omega) (by unfold compTo; rw [if_neg (by omega)]))
        obtain ⟨vs, HVS, HSL⟩ : ∃ vs, Hid (vs = Value.slice (if cy = f1' then ay else ay.map fun x => x.add f1') (Y.length - (l.length - (t1')) - f1') (cy - f1')) ∧ Hid (Sl w2 vs (ints ((Y.drop f1').take (Y.length - (l.length - (t1')) - f1')))) := by
          refine ⟨_, rfl, ?_⟩
          have e : ints ((Y.drop f1').take (Y.length - (l.length - (t1')) - f1')) = ((ints Y).drop f1').take (Y.length - (l.length - (t1')) - f1') := by simp [ints]
          rw [e]
          exact HS2.out.part hme (by omega)
        have hlen : ((Y.drop f1').take (Y.length - (l.length - (t1')) - f1')).length * 8 ≤ 140737488355328 := by simp; omega
        obtain ⟨Z, HZ⟩ : ∃ Z, Hid ((Y.drop f1').take (Y.length - (l.length - (t1')) - f1') = Z) := ⟨_, rfl⟩
        rw [HZ.out] at hlen HSL HM
        by_cases hct : cy = f1'
        all_goals
          first | (rw [if_pos hct] at HVS; have hct' := hct.symm; subst hct'; rw [show Y.length - (l.length - (t1')) - f1' = 0 by omega, Nat.sub_self] at HVS) | rw [if_neg hct] at HVS
          rw [HVS.out] at HSL
          go_wp2_with fail
          refine (clone_int _ Z _ (HSL.out.keep ((Below.refl _ _).alloc (Nat.le_refl _) _)) hlen).mono ?_
          rintro e w3 ⟨a3, c3, rfl, ho3, hb3⟩
          have x4 := box_plain hb3
          have hB3 : Below w2.heap.size w2 w3 := ((Below.refl w2.heap.size w2).alloc (Nat.le_refl _) _).trans (hb3.mono (by simp))
          have y3 := bx_keep Y3.out hB3
          obtain ⟨o0, o1, o2⟩ := bx_cells3 x4
          obtain ⟨o3, o4, o5⟩ := bx_free3 x4
          obtain ⟨r0, r1, r2⟩ := bx_cells3 y3
          obtain ⟨s0, s1, s2⟩ := bx_free3 y3
          have HO3 := Lib.hid ho3
          have HB3 := Lib.hid (HB2.out.trans (hB3.mono HB2.out.size))
          have hn1 : ¬ w2.heap.size = w.heap.size + 2 := by omega
          have hn2 : ¬ w.heap.size + 2 = w2.heap.size := by omega
          have hn5 : ¬ w2.heap.size = w.heap.size + 1 + 1 := by omega
          have hn6 : ¬ w.heap.size + 1 + 1 = w2.heap.size := by omega
          clear x4 y3 ho3 hb3 hB3 p0 p1 p2 q0 q1 q2
          go_wp2_with fail
          refine bodyPost_ret (v := .tuple #[.agg #[.int .i64 f1', .int .i64 t1', .slice a3 Z.length c3], .int .i64 0]) (by simp [results, Try.results57, go_sem, r0, r1, r2, hn1, hn2]) rfl ?_
          rw [HM.out]
          refine ⟨a3, c3, rfl, sl_of_own (B := w2.heap.size + 1) (e := 3) (n := Z.length) ?_, ?_⟩
          · have ho : w3.ownsRow (w2.heap.size + 1) 3 1 (.slice a3 Z.length c3) Z.length (ints Z) := by have h := HO3.out; simpa using h
            refine (ho.kept (grown_cell w3 ⟨w2.heap.size, 2, none⟩ _) (.inr fun e => ?_)).kept (grown3 _ (w.heap.size + 1 + 1) _ _ _) (.inr fun e => ?_)
            · have h5 : w2.heap.size + 1 ≤ w2.heap.size := (ho.lt _ e).1
              omega
            · have h5 : w2.heap.size + 1 ≤ w.heap.size + 1 + 1 := (ho.lt _ e).1
              omega
          · exact (((HB3.out.setCell (p := ⟨w2.heap.size, 2, none⟩) (Nat.le_of_lt k1) _).setCell (p := ⟨w.heap.size + 1 + 1, 0, none⟩) (by simp; omega) _).setCell (p := ⟨w.heap.size + 1 + 1, 1, none⟩) (by simp; omega) _).setCell (p := ⟨w.heap.size + 1 + 1, 2, none⟩) (by simp; omega) _
      · have hT : (f1' : Int) + (l1.length : Int) < (t2' : Int) := by omega
        have hTl : t1' + (t2' - (f1' + l1.length)) ≤ l.length := by have := HXL.out; omega
        have hme : f2' ≤ Y.length - (l.length - (t1' + (t2' - (f1' + l1.length)))) := by have := HXL.out; have := HYL.out; omega
        have i0 : 0 ≤ (Y.length : Int) - ((l.length : Int) - ((t1' : Int) + ((t2' : Int) - ((f1' : Int) + (l1.length : Int))))) := by have := HXL.out; have := HYL.out; omega
        have i1 : (Y.length : Int) - ((l.length : Int) - ((t1' : Int) + ((t2' : Int) - ((f1' : Int) + (l1.length : Int))))) ≤ (cy : Int) := by omega
        have i2 : (f2' : Int) ≤ (Y.length : Int) - ((l.length : Int) - ((t1' : Int) + ((t2' : Int) - ((f1' : Int) + (l1.length : Int))))) := by omega
        have HM := Lib.hid (comp_ok (m := f2') (T := t1' + (t2' - (f1' + l1.length))) HF1.out HX.out HF2.out HY.out (by omega) (by unfold compTo; rw [if_pos (by omega)]; omega))
        obtain ⟨vs, HVS, HSL⟩ : ∃ vs, Hid (vs = Value.slice (if cy = f2' then ay else ay.map fun x => x.add f2') (Y.length - (l.length - (t1' + (t2' - (f1' + l1.length)))) - f2') (cy - f2')) ∧ Hid (Sl w2 vs (ints ((Y.drop f2').take (Y.length - (l.length - (t1' + (t2' - (f1' + l1.length)))) - f2')))) := by
          refine ⟨_, rfl, ?_⟩
          have e : ints ((Y.drop f2').take (Y.length - (l.length - (t1' + (t2' - (f1' + l1.length)))) - f2')) = ((ints Y).drop f2').take (Y.length - (l.length - (t1' + (t2' - (f1' + l1.length)))) - f2') := by simp [ints]
          rw [e]
          exact HS2.out.part hme (by omega)
        have hlen : ((Y.drop f2').take (Y.length - (l.length - (t1' + (t2' - (f1' + l1.length)))) - f2')).length * 8 ≤ 140737488355328 := by simp; omega
        obtain ⟨Z, HZ⟩ : ∃ Z, Hid ((Y.drop f2').take (Y.length - (l.length - (t1' + (t2' - (f1' + l1.length)))) - f2') = Z) := ⟨_, rfl⟩
        rw [HZ.out] at hlen HSL HM
        by_cases hct : cy = f2'
        all_goals
          first | (rw [if_pos hct] at HVS; have hct' := hct.symm; subst hct'; rw [show Y.length - (l.length - (t1' + (t2' - (f1' + l1.length)))) - f2' = 0 by omega, Nat.sub_self] at HVS) | rw [if_neg hct] at HVS
          rw [HVS.out] at HSL
          go_wp2_with fail
          refine (clone_int _ Z _ (HSL.out.keep ((Below.refl _ _).alloc (Nat.le_refl _) _)) hlen).mono ?_
          rintro e w3 ⟨a3, c3, rfl, ho3, hb3⟩
          have x4 := box_plain hb3
          have hB3 : Below w2.heap.size w2 w3 := ((Below.refl w2.heap.size w2).alloc (Nat.le_refl _) _).trans (hb3.mono (by simp))
          have y3 := bx_keep Y3.out hB3
          obtain ⟨o0, o1, o2⟩ := bx_cells3 x4
          obtain ⟨o3, o4, o5⟩ := bx_free3 x4
          obtain ⟨r0, r1, r2⟩ := bx_cells3 y3
          obtain ⟨s0, s1, s2⟩ := bx_free3 y3
          have HO3 := Lib.hid ho3
          have HB3 := Lib.hid (HB2.out.trans (hB3.mono HB2.out.size))
          have hn1 : ¬ w2.heap.size = w.heap.size + 2 := by omega
          have hn2 : ¬ w.heap.size + 2 = w2.heap.size := by omega
          have hn5 : ¬ w2.heap.size = w.heap.size + 1 + 1 := by omega
          have hn6 : ¬ w.heap.size + 1 + 1 = w2.heap.size := by omega
          clear x4 y3 ho3 hb3 hB3 p0 p1 p2 q0 q1 q2
          go_wp2_with fail
          refine bodyPost_ret (v := .tuple #[.agg #[.int .i64 f2', .int .i64 ((t1' : Int) + ((t2' : Int) - ((f1' : Int) + (l1.length : Int)))), .slice a3 Z.length c3], .int .i64 0]) (by simp [results, Try.results57, go_sem, r0, r1, r2, hn1, hn2]) rfl ?_
          rw [HM.out]
          refine ⟨a3, c3, by rw [show ((t1' : Int) + ((t2' : Int) - ((f1' : Int) + (l1.length : Int)))) = ((t1' + (t2' - (f1' + l1.length)) : Nat) : Int) by omega], sl_of_own (B := w2.heap.size + 1) (e := 3) (n := Z.length) ?_, ?_⟩
          · have ho : w3.ownsRow (w2.heap.size + 1) 3 1 (.slice a3 Z.length c3) Z.length (ints Z) := by have h := HO3.out; simpa using h
            refine (ho.kept (grown_cell w3 ⟨w2.heap.size, 2, none⟩ _) (.inr fun e => ?_)).kept (grown3 _ (w.heap.size + 1 + 1) _ _ _) (.inr fun e => ?_)
            · have h5 : w2.heap.size + 1 ≤ w2.heap.size := (ho.lt _ e).1
              omega
            · have h5 : w2.heap.size + 1 ≤ w.heap.size + 1 + 1 := (ho.lt _ e).1
              omega
          · exact (((HB3.out.setCell (p := ⟨w2.heap.size, 2, none⟩) (Nat.le_of_lt k1) _).setCell (p := ⟨w.heap.size + 1 + 1, 0, none⟩) (by simp; omega) _).setCell (p := ⟨w.heap.size + 1 + 1, 1, none⟩) (by simp; omega) _).setCell (p := ⟨w.heap.size + 1 + 1, 2, none⟩) (by simp; omega) _
      · have hT : ¬ (f1' : Int) + (l1.length : Int) < (t2' : Int) := by omega
        have hTl : t1' ≤ l.length := by have := HXL.out; omega
        have hme : f2' ≤ Y.length - (l.length - (t1')) := by have := HXL.out; have := HYL.out; omega
        have i0 : 0 ≤ (Y.length : Int) - ((l.length : Int) - (t1' : Int)) := by have := HXL.out; have := HYL.out; omega
        have i1 : (Y.length : Int) - ((l.length : Int) - (t1' : Int)) ≤ (cy : Int) := by omega
        have i2 : (f2' : Int) ≤ (Y.length : Int) - ((l.length : Int) - (t1' : Int)) := by omega
        have HM := Lib.hid (comp_ok (m := f2') (T := t1') HF1.out HX.out HF2.out HY.out (by omega) (by unfold compTo; rw [if_neg (by omega)]))
        obtain ⟨vs, HVS, HSL⟩ : ∃ vs, Hid (vs = Value.slice (if cy = f2' then ay else ay.map fun x => x.add f2') (Y.length - (l.length - (t1')) - f2') (cy - f2')) ∧ Hid (Sl w2 vs (ints ((Y.drop f2').take (Y.length - (l.length - (t1')) - f2')))) := by
          refine ⟨_, rfl, ?_⟩
          have e : ints ((Y.drop f2').take (Y.length - (l.length - (t1')) - f2')) = ((ints Y).drop f2').take (Y.length - (l.length - (t1')) - f2') := by simp [ints]
          rw [e]
          exact HS2.out.part hme (by omega)
        have hlen : ((Y.drop f2').take (Y.length - (l.length - (t1')) - f2')).length * 8 ≤ 140737488355328 := by simp; omega
        obtain ⟨Z, HZ⟩ : ∃ Z, Hid ((Y.drop f2').take (Y.length - (l.length - (t1')) - f2') = Z) := ⟨_, rfl⟩
        rw [HZ.out] at hlen HSL HM
        by_cases hct : cy = f2'
        all_goals
          first | (rw [if_pos hct] at HVS; have hct' := hct.symm; subst hct'; rw [show Y.length - (l.length - (t1')) - f2' = 0 by omega, Nat.sub_self] at HVS) | rw [if_neg hct] at HVS
          rw [HVS.out] at HSL
          go_wp2_with fail
          refine (clone_int _ Z _ (HSL.out.keep ((Below.refl _ _).alloc (Nat.le_refl _) _)) hlen).mono ?_
          rintro e w3 ⟨a3, c3, rfl, ho3, hb3⟩
          have x4 := box_plain hb3
          have hB3 : Below w2.heap.size w2 w3 := ((Below.refl w2.heap.size w2).alloc (Nat.le_refl _) _).trans (hb3.mono (by simp))
          have y3 := bx_keep Y3.out hB3
          obtain ⟨o0, o1, o2⟩ := bx_cells3 x4
          obtain ⟨o3, o4, o5⟩ := bx_free3 x4
          obtain ⟨r0, r1, r2⟩ := bx_cells3 y3
          obtain ⟨s0, s1, s2⟩ := bx_free3 y3
          have HO3 := Lib.hid ho3
          have HB3 := Lib.hid (HB2.out.trans (hB3.mono HB2.out.size))
          have hn1 : ¬ w2.heap.size = w.heap.size + 2 := by omega
          have hn2 : ¬ w.heap.size + 2 = w2.heap.size := by omega
          have hn5 : ¬ w2.heap.size = w.heap.size + 1 + 1 := by omega
          have hn6 : ¬ w.heap.size + 1 + 1 = w2.heap.size := by omega
          clear x4 y3 ho3 hb3 hB3 p0 p1 p2 q0 q1 q2
          go_wp2_with fail
          refine bodyPost_ret (v := .tuple #[.agg #[.int .i64 f2', .int .i64 t1', .slice a3 Z.length c3], .int .i64 0]) (by simp [results, Try.results57, go_sem, r0, r1, r2, hn1, hn2]) rfl ?_
          rw [HM.out]
          refine ⟨a3, c3, rfl, sl_of_own (B := w2.heap.size + 1) (e := 3) (n := Z.length) ?_, ?_⟩
          · have ho : w3.ownsRow (w2.heap.size + 1) 3 1 (.slice a3 Z.length c3) Z.length (ints Z) := by have h := HO3.out; simpa using h
            refine (ho.kept (grown_cell w3 ⟨w2.heap.size, 2, none⟩ _) (.inr fun e => ?_)).kept (grown3 _ (w.heap.size + 1 + 1) _ _ _) (.inr fun e => ?_)
            · have h5 : w2.heap.size + 1 ≤ w2.heap.size := (ho.lt _ e).1
              omega
            · have h5 : w2.heap.size + 1 ≤ w.heap.size + 1 + 1 := (ho.lt _ e).1
              omega
          · exact (((HB3.out.setCell (p := ⟨w2.heap.size, 2, none⟩) (Nat.le_of_lt k1) _).setCell (p := ⟨w.heap.size + 1 + 1, 0, none⟩) (by simp; omega) _).setCell (p := ⟨w.heap.size + 1 + 1, 1, none⟩) (by simp; omega) _).setCell (p := ⟨w.heap.size + 1 + 1, 2, none⟩) (by simp; omega) _
    · have hne : (F2 != 0) = true := by rw [bne_iff_ne]; exact hF2
      have HM : Hid (comp l f1' t1' l1 f2 t2 l2 = (0, 0, [], F2)) := by
        show _ = _; rw [comp, if_neg (by rw [HF1.out]; simp), Int.toNat_natCast, Int.toNat_natCast, HX.out, if_pos (by rw [HF2.out]; exact hF2), HF2.out]
      have HF := Lib.hid hF2
      obtain ⟨r0, r1, r2⟩ := bx_cells3 y3
      obtain ⟨s0, s1, s2⟩ := bx_free3 y3
      clear hF2 y1 y2 y3 hs2
      go_wp2_with fail
      refine bodyPost_ret (v := .tuple #[.agg #[.int .i64 0, .int .i64 0, .slice none 0 0], .int .i64 F2]) (by simp [results, Try.results57, go_sem, r0, r1, r2]) rfl ?_
      rw [HM.out]
      exact ⟨none, 0, rfl, sl_of_own (World.ownsRow_nil _ 0 0 1), ((HB2.out.setCell (by simp; omega) _).setCell (by simp; omega) _).setCell (by simp; omega) _⟩
  · have hne : (F1 != 0) = true := by rw [bne_iff_ne]; exact hF1
    have HM : Hid (comp l f1 t1 l1 f2 t2 l2 = (0, 0, [], F1)) := by
      show _ = _; rw [comp, if_pos (by rw [HF1.out]; exact hF1), HF1.out]
    have HF := Lib.hid hF1
    obtain ⟨r0, r1, r2⟩ := bx_cells3 x3
    obtain ⟨s0, s1, s2⟩ := bx_free3 x3
    clear hF1 hb1 x1 x2 x3 hB hs1
    go_wp2_with fail
    refine bodyPost_ret (v := .tuple #[.agg #[.int .i64 0, .int .i64 0, .slice none 0 0], .int .i64 F1]) (by simp [results, Try.results57, go_sem, r0, r1, r2]) rfl ?_
    rw [HM.out]
    exact ⟨none, 0, rfl, sl_of_own (World.ownsRow_nil _ 0 0 1), ((HB.out.setCell (by simp; omega) _).setCell (by simp; omega) _).setCell (by simp; omega) _⟩
end Go.Proofs.Ytfbacnifankfkaa
