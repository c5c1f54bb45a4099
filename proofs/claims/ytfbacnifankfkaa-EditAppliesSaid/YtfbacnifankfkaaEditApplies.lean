/- The walk of the law EditApplies. -/
import Derived.Test.YtfbacnifankfkaaEditWalk
import Derived.BigRegion
namespace Go.Proofs.Ytfbacnifankfkaa
open Go.RowKit
namespace EditApplies

theorem first (w : World) (g : Nat) (hg : g = w.heap.size) :
    Calls Try.prog 24 #[.slice (some ⟨g, 0, none⟩) 2 2, .agg #[.int .i64 1, .int .i64 1, .slice (some ⟨g + 1, 0, none⟩) 1 1]] ((w.alloc (.cells #[.int .i64 1, .int .i64 2] 3)).alloc (.cells #[.int .i64 5] 3)) fun e w' =>
      ∃ v, e = .returned (.tuple #[v, .int .i64 0]) ∧ Sl w' v (ints [1, 5, 2]) ∧ Below w.heap.size w w' := by
  have hb1 : Below w.heap.size w (w.alloc (.cells #[.int .i64 1, .int .i64 2] 3)) := (Below.refl _ _).alloc (Nat.le_refl _) _
  have hb2 := hb1.alloc hb1.size (.cells #[.int .i64 5] 3)
  have s1 := sl_lit (w := w) (v := #[.int .i64 1, .int .i64 2]) (e := 3) hg (by simp [maxLen])
  have s2 := sl_lit (w := w.alloc (.cells #[.int .i64 1, .int .i64 2] 3)) (v := #[.int .i64 5]) (e := 3) (g := g + 1) (by simp [hg]) (by simp [maxLen])
  have h := applyE (some ⟨g, 0, none⟩) 2 [1, 2] 1 1 (some ⟨g + 1, 0, none⟩) 1 [5] _ (s1.keep ((Below.refl _ _).alloc (Nat.le_refl _) (.cells #[.int .i64 5] 3))) s2 (by simp) (by simp)
  refine h.mono ?_
  rintro e w' ⟨v, rfl, hs, hb⟩
  exact ⟨v, rfl, hs, hb2.trans (hb.mono hb2.size)⟩

set_option maxHeartbeats 2000000 in
set_option maxRecDepth 100000 in
theorem main (a : Option Addr) (cap : Nat) (l : List Int) (f t : Int) (an : Option Addr) (cn : Nat) (n : List Int) (w : World) (hl : Sl w (.slice a l.length cap) (ints l)) (hn : Sl w (.slice an n.length cn) (ints n))
    (hbl : l.length * 8 ≤ 140737488351232) (hbn : n.length * 8 ≤ 140737488351232) :
    Calls Try.prog 7 #[.slice a l.length cap, .agg #[.int .i64 f, .int .i64 t, .slice an n.length cn]] w fun e w' => e = .returned (.bool true) ∧ Below w.heap.size w w' := by
  have HL := Lib.hid hl
  have HN := Lib.hid hn
  have hc := hl.len.2
  unfold maxLen at hc
  obtain ⟨hc1, hc2⟩ := hc
  clear hl hn
  obtain ⟨F, HF⟩ : ∃ F, Hid (fault l.length f t n.length = F) := ⟨_, rfl⟩
  obtain ⟨w0, HW0⟩ : ∃ w0, Hid (w0 = w.alloc (.cells #[.int .i64 f, .int .i64 t, .slice an n.length cn] 48)) := ⟨_, rfl⟩
  have HB0 : Hid (Below w.heap.size w w0) := by rw [HW0.out]; exact (Below.refl _ _).alloc (Nat.le_refl _) _
  have HC : Hid (∀ wr, Below w0.heap.size w0 wr → wr.cell? ⟨w.heap.size, 0, none⟩ = some (.int .i64 f) ∧ wr.cell? ⟨w.heap.size, 0 + 1, none⟩ = some (.int .i64 t) ∧ wr.cell? ⟨w.heap.size, 0 + 2, none⟩ = some (.slice an n.length cn)) := by
    rw [HW0.out]; exact fun wr h => ⟨by rw [box_cells h]; rfl, by rw [box_cells h]; rfl, by rw [box_cells h]; rfl⟩
  have HS0 : Hid (w.heap.size + 1 = w0.heap.size) := by rw [HW0.out]; show _ = _; simp
  go_enter Try.func7, Try.ntmps7
  go_wp2_with fail
  rw [← HW0.out]
  refine (first w0 (w.heap.size + 1) HS0.out).mono ?_
  rintro e w1 ⟨v1, rfl, hs1, hb1⟩
  have HS1 := Lib.hid hs1
  have HB1 := Lib.hid hb1
  clear hs1 hb1 HW0
  go_wp2_with fail
  refine (equal v1 _ [1, 5, 2] [1, 5, 2] _ (HS1.out.keep ((Below.refl _ _).alloc (Nat.le_refl _) _)) (sl_lit (v := #[.int .i64 1, .int .i64 5, .int .i64 2]) rfl (by simp [maxLen]))).mono ?_
  rintro e w2 ⟨rfl, hb2⟩
  have HB2 : Hid (Below w0.heap.size w0 w2) := by
    have h3 := HB1.out.alloc HB1.out.size (.cells #[.int .i64 1, .int .i64 5, .int .i64 2] 3)
    exact h3.trans (hb2.mono h3.size)
  clear hb2 HB1 HS1
  have hT : (([1, 5, 2] : List Int) == [1, 5, 2]) = true := by decide
  rw [hT]
  clear hT
  obtain ⟨c0, c1, c2⟩ := HC.out w2 HB2.out
  have hFF : (F != F) = false := by simp
  go_wp2_with fail
  refine (editFault l.length f t an n.length cn _ (by omega) (by omega) (by omega)).mono ?_
  rintro e w3 ⟨rfl, hb3⟩
  rw [HF.out]
  have HB3 := Lib.hid (HB2.out.trans (hb3.mono HB2.out.size))
  clear hb3 HB2 c0 c1 c2
  obtain ⟨c0, c1, c2⟩ := HC.out w3 HB3.out
  have HBL3 := Lib.hid (HB0.out.trans (HB3.out.mono HB0.out.size))
  go_wp2_with fail
  refine (applyE a cap l f t an cn n _ (HL.out.keep HBL3.out) (HN.out.keep HBL3.out) hbl hbn).mono ?_
  rintro e w4 ⟨v4, rfl, hs4, hb4⟩
  rw [HF.out] at hs4 ⊢
  have HS4 := Lib.hid hs4
  have HB4 := Lib.hid (HB3.out.trans (hb4.mono HB3.out.size))
  clear hs4 hb4 HB3 HBL3 c0 c1 c2
  obtain ⟨c0, c1, c2⟩ := HC.out w4 HB4.out
  have HBL4 := Lib.hid (HB0.out.trans (HB4.out.mono HB0.out.size))
  go_wp2_with fail
  refine (inverseE a cap l f t an cn n _ (HL.out.keep HBL4.out) (HN.out.keep HBL4.out) hbl hbn).mono ?_
  rintro e w5 ⟨v5, rfl, hs5, hb5⟩
  rw [HF.out] at hs5 ⊢
  have HS5 := Lib.hid hs5
  have HS4' := Lib.hid (HS4.out.keep hb5)
  have HB5 := Lib.hid (HB4.out.trans (hb5.mono HB4.out.size))
  clear hs5 hb5 HB4 HBL4 c0 c1 c2 HS4
  obtain ⟨c0, c1, c2⟩ := HC.out w5 HB5.out
  have hz5 : w.heap.size < w5.heap.size := by have := HS0.out; have := HB5.out.size; omega
  by_cases h0 : F = 0
  · subst h0
    rw [if_pos rfl] at HS4' HS5 ⊢
    obtain ⟨z1, z2, z3, z4⟩ := fault_zero HF.out
    obtain ⟨f', rfl⟩ := Int.eq_ofNat_of_zero_le z1
    obtain ⟨t', rfl⟩ := Int.eq_ofNat_of_zero_le (show 0 ≤ t by omega)
    rw [Int.toNat_natCast, Int.toNat_natCast] at HS4' HS5
    obtain ⟨X, HX⟩ : ∃ X, Hid ((l.drop f').take (t' - f') = X) := ⟨_, rfl⟩
    obtain ⟨Y, HY⟩ : ∃ Y, Hid (edited l f' t' n = Y) := ⟨_, rfl⟩
    rw [HY.out] at HS4'
    rw [HX.out] at HS5
    obtain ⟨a4, k4, rfl⟩ := HS4'.out.form
    obtain ⟨a5, k5, rfl⟩ := HS5.out.form
    rw [ints_len] at HS4' HS5 ⊢
    go_wp2_with fail
    refine (check l.length f' t' an n.length cn _ (by omega) (by omega) (by omega)).mono ?_
    rintro e w6 ⟨rfl, hb6⟩
    rw [HF.out]
    obtain ⟨y0, y1, y2⟩ : w6.cell? ⟨w5.heap.size, 0, none⟩ = some (.int .i64 f') ∧ w6.cell? ⟨w5.heap.size, 0 + 1, none⟩ = some (.int .i64 (f' + n.length)) ∧ w6.cell? ⟨w5.heap.size, 0 + 2, none⟩ = some (.slice a5 X.length k5) :=
      ⟨by rw [box_cells hb6]; rfl, by rw [box_cells hb6]; rfl, by rw [box_cells hb6]; rfl⟩
    have HB56 : Hid (Below w5.heap.size w5 w6) := by
      have h := (Below.refl w5.heap.size w5).alloc (Nat.le_refl _) (.cells #[.int .i64 f', .int .i64 (f' + n.length), .slice a5 X.length k5] 48)
      exact h.trans (hb6.mono h.size)
    have HB6 := Lib.hid (HB5.out.trans (HB56.out.mono HB5.out.size))
    have hz6 : w5.heap.size < w6.heap.size := by have := hb6.size; simp at this; omega
    clear hb6 c0 c1 c2
    obtain ⟨c0, c1, c2⟩ := HC.out w6 HB6.out
    have HBL6 := Lib.hid (HB0.out.trans (HB6.out.mono HB0.out.size))
    obtain ⟨vs, HVS, HSL⟩ : ∃ vs, Hid (vs = Value.slice (if cap = f' then a else a.map fun x => x.add f') (t' - f') (cap - f')) ∧ Hid (Sl w6 vs (ints X)) := by
      refine ⟨_, rfl, ?_⟩
      have e : ints X = ((ints l).drop f').take (t' - f') := by rw [← HX.out]; simp [ints]
      rw [e]
      exact (HL.out.keep HBL6.out).part (by omega) (by omega)
    have i1 : (f' : Int) ≤ (t' : Int) := by omega
    have i2 : (t' : Int) ≤ (cap : Int) := by omega
    have hwr : IntKind.i64.wrap ((f' : Int) + (n.length : Int)) = (f' : Int) + (n.length : Int) := IntWalk.i64_in _ (by omega)
    have hz0 : w.heap.size < w6.heap.size := by omega
    by_cases hct : cap = f'
    all_goals
      first | (rw [if_pos hct] at HVS; have hct' := hct.symm; subst hct'; rw [Nat.sub_self] at HVS) | rw [if_neg hct] at HVS
      rw [HVS.out] at HSL
      go_wp2_with fail
      go_region
      go_wp2_with fail
      obtain ⟨W6, HW6⟩ : ∃ W6, Hid (W6 = (w6.alloc (.cells #[.int .i64 f', .int .i64 (f' + n.length), vs] 48)).drew) := ⟨_, rfl⟩
      rw [HVS.out] at HW6
      rw [← HW6.out]
      have HB67 : Hid (Below w6.heap.size w6 W6) := by rw [HW6.out]; exact ((Below.refl _ _).alloc (Nat.le_refl _) _).drew
      have HSZ : Hid (w6.heap.size < W6.heap.size) := by rw [HW6.out]; show _ < (World.alloc _ _).heap.size; simp
      have x0 : W6.cell? ⟨w6.heap.size, 0, none⟩ = some (.int .i64 f') := by rw [HW6.out]; simp [go_sem]
      have x1 : W6.cell? ⟨w6.heap.size, 0 + 1, none⟩ = some (.int .i64 (f' + n.length)) := by rw [HW6.out]; simp [go_sem]
      have x2 : W6.cell? ⟨w6.heap.size, 0 + 2, none⟩ = some vs := by rw [HW6.out, HVS.out]; simp [go_sem]
      rw [HVS.out] at x2
      have X0 := Lib.hid x0
      have X1 := Lib.hid x1
      have X2 := Lib.hid x2
      have Y0 := Lib.hid y0
      have Y1 := Lib.hid y1
      have Y2 := Lib.hid y2
      clear HW6 x0 x1 x2 c0 c1 c2 y0 y1 y2
      have HBW6 := Lib.hid (HBL6.out.trans (HB67.out.mono HBL6.out.size))
      refine (editedR a _ l f' t' an cn n W6 (HL.out.keep HBW6.out) (HN.out.keep HBW6.out) (by omega) (by omega) (by omega) hbl).mono ?_
      rintro e w7 ⟨a7, k7, rfl, ho7, hb7⟩
      rw [HY.out] at ho7 ⊢
      have HS7 := Lib.hid (sl_of_own ho7)
      have HB7 := Lib.hid (HB67.out.trans (hb7.mono HB67.out.size))
      have HB7W := Lib.hid hb7
      clear ho7 hb7
      go_wp2_with fail
      have hEq := (equal (.slice a4 Y.length k4) (.slice a7 Y.length k7) Y Y w7 ((HS4'.out.keep HB56.out).keep HB7.out) HS7.out)
      rw [← ints_len Y] at hEq
      rw [ints_len Y] at hEq
      refine (show Calls Try.prog 19 #[.slice a4 (ints Y).length k4, .slice a7 Y.length k7] w7 _ from by rw [ints_len]; exact hEq).mono ?_
      rintro e w8 ⟨rfl, hb8⟩
      have HB8 := Lib.hid (HB7.out.trans (hb8.mono HB7.out.size))
      have HB8W := Lib.hid (HB7W.out.trans (hb8.mono HB7W.out.size))
      clear hb8
      have hT : (Y == Y) = true := by simp
      rw [hT]
      have y0 : w8.cell? ⟨w5.heap.size, 0, none⟩ = some (.int .i64 f') := (HB8.out.cell (p := ⟨w5.heap.size, 0, none⟩) hz6).trans Y0.out
      have y1 : w8.cell? ⟨w5.heap.size, 0 + 1, none⟩ = some (.int .i64 (f' + n.length)) := (HB8.out.cell (p := ⟨w5.heap.size, 0 + 1, none⟩) hz6).trans Y1.out
      have y2 : w8.cell? ⟨w5.heap.size, 0 + 2, none⟩ = some (.slice a5 X.length k5) := (HB8.out.cell (p := ⟨w5.heap.size, 0 + 2, none⟩) hz6).trans Y2.out
      have x0 := (HB8W.out.cell (p := ⟨w6.heap.size, 0, none⟩) HSZ.out).trans X0.out
      have x1 := (HB8W.out.cell (p := ⟨w6.heap.size, 0 + 1, none⟩) HSZ.out).trans X1.out
      have x2 := (HB8W.out.cell (p := ⟨w6.heap.size, 0 + 2, none⟩) HSZ.out).trans X2.out
      have hTS : sameEd f' (f' + n.length) X f' (f' + n.length) X = true := by simp [sameEd]
      have HSE := Lib.hid (sameEdit f' (f' + n.length) f' (f' + n.length) _ _ X X w8 ((HS5.out.keep HB56.out).keep HB8.out) (HSL.out.keep HB8.out))
      rw [hTS] at HSE
      clear hT hTS
      go_wp2_with fail
      refine HSE.out.mono ?_
      rintro e w9 ⟨rfl, hb9⟩
      have HB9 := Lib.hid (HBL6.out.trans ((HB8.out.trans (hb9.mono HB8.out.size)).mono HBL6.out.size))
      clear hb9 x0 x1 x2 y0 y1 y2
      go_wp2_with fail
      go_ret
      exact ⟨rfl, HB9.out⟩
  · have h0b : (F != 0) = true := by rw [bne_iff_ne]; exact h0
    rw [if_neg h0] at HS4' HS5 ⊢
    have H0 := Lib.hid h0
    clear h0
    obtain ⟨a4, k4, rfl⟩ := HS4'.out.form
    obtain ⟨a5, k5, rfl⟩ := HS5.out.form
    rw [ints_len] at HS4' HS5 ⊢
    go_wp2_with fail
    refine (check l.length f t an n.length cn _ (by omega) (by omega) (by omega)).mono ?_
    rintro e w6 ⟨rfl, hb6⟩
    rw [HF.out]
    obtain ⟨y0, y1, y2⟩ : w6.cell? ⟨w5.heap.size, 0, none⟩ = some (.int .i64 0) ∧ w6.cell? ⟨w5.heap.size, 0 + 1, none⟩ = some (.int .i64 0) ∧ w6.cell? ⟨w5.heap.size, 0 + 2, none⟩ = some (.slice a5 0 k5) :=
      ⟨by rw [box_cells hb6]; rfl, by rw [box_cells hb6]; rfl, by rw [box_cells hb6]; rfl⟩
    have HB56 : Hid (Below w5.heap.size w5 w6) := by
      have h := (Below.refl w5.heap.size w5).alloc (Nat.le_refl _) (.cells #[.int .i64 0, .int .i64 0, .slice a5 0 k5] 48)
      exact h.trans (hb6.mono h.size)
    have HB6 := Lib.hid (HB5.out.trans (HB56.out.mono HB5.out.size))
    clear hb6 c0 c1 c2
    go_wp2_with fail
    refine (sameEdit 0 0 0 0 _ _ [] [] w6 (HS5.out.keep HB56.out) (sl_of_own (World.ownsRow_nil _ 0 0 1))).mono ?_
    rintro e w7 ⟨rfl, hb7⟩
    have HB7 := Lib.hid (HB6.out.trans (hb7.mono HB6.out.size))
    have hT : sameEd 0 0 [] 0 0 [] = true := by decide
    rw [hT]
    clear hb7 hT
    go_wp2_with fail
    go_ret
    exact ⟨rfl, HB0.out.trans (HB7.out.mono HB0.out.size)⟩

theorem walk (v0 : Value) (l : List Int) (f t : Int) (v1 : Value) (n : List Int) (w : World) (h0 : Sl w v0 (ints l)) (b0 : l.length * 8 ≤ 140737488351232) (_ : ∀ z ∈ l, (Lit.int .i64 z).wf = true) (h1 : Sl w v1 (ints n)) (b1 : n.length * 8 ≤ 140737488351232) :
    Calls Try.prog 7 #[v0, .agg #[.int .i64 f, .int .i64 t, v1]] w fun e w' => e = .returned (.bool true) ∧ Below w.heap.size w w' := by
  obtain ⟨a, cap, rfl⟩ := h0.form
  obtain ⟨an, cn, rfl⟩ := h1.form
  rw [ints_len] at h0 h1 ⊢
  rw [ints_len]
  exact main a cap l f t an cn n w h0 h1 b0 b1
end EditApplies
end Go.Proofs.Ytfbacnifankfkaa
