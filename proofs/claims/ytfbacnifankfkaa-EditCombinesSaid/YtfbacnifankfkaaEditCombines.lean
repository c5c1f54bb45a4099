/- The walk of the law EditCombines. -/
import Derived.Test.YtfbacnifankfkaaEditJoined
import Derived.Test.YtfbacnifankfkaaChangeWalk
namespace Go.Proofs.Ytfbacnifankfkaa
open Go.RowKit
namespace EditCombines

theorem first (w : World) (g : Nat) (hg : g = w.heap.size) :
    Calls Try.prog 56 #[.slice (some ⟨g, 0, none⟩) 2 2, .slice (some ⟨g + 1, 0, none⟩) 2 2] ((w.alloc (.cells #[.int .i64 1, .int .i64 2] 3)).alloc (.cells #[.int .i64 1, .int .i64 3] 3)) fun e w' =>
      ∃ a cap, e = .returned (.agg #[.int .i64 1, .int .i64 2, .slice a 1 cap]) ∧ Sl w' (.slice a 1 cap) (ints [3]) ∧ Below w.heap.size w w' := by
  have hb1 : Below w.heap.size w (w.alloc (.cells #[.int .i64 1, .int .i64 2] 3)) := (Below.refl _ _).alloc (Nat.le_refl _) _
  have hb2 := hb1.alloc hb1.size (.cells #[.int .i64 1, .int .i64 3] 3)
  have s1 := sl_lit (w := w) (v := #[.int .i64 1, .int .i64 2]) (e := 3) hg (by simp [maxLen])
  have s2 := sl_lit (w := w.alloc (.cells #[.int .i64 1, .int .i64 2] 3)) (v := #[.int .i64 1, .int .i64 3]) (e := 3) (g := g + 1) (by simp [hg]) (by simp [maxLen])
  have h := betweenE (some ⟨g, 0, none⟩) 2 [1, 2] (some ⟨g + 1, 0, none⟩) 2 [1, 3] _ (s1.keep ((Below.refl _ _).alloc (Nat.le_refl _) (.cells #[.int .i64 1, .int .i64 3] 3))) s2 (by simp) (by simp)
  refine h.mono ?_
  rintro e w' ⟨a, c, rfl, hs, hb⟩
  exact ⟨a, c, rfl, hs, hb2.trans (hb.mono hb2.size)⟩

set_option maxHeartbeats 4000000 in
set_option maxRecDepth 100000 in
theorem main (a : Option Addr) (cap : Nat) (l : List Int) (f1 t1 : Int) (a1 : Option Addr) (l1 : List Int) (c1 : Nat) (f2 t2 : Int) (a2 : Option Addr) (l2 : List Int) (c2 : Nat) (av : Option Addr) (cv : Nat) (v : List Int) (w : World) (h0 : Sl w (.slice a l.length cap) (ints l)) (h1 : Sl w (.slice a1 l1.length c1) (ints l1)) (h2 : Sl w (.slice a2 l2.length c2) (ints l2)) (h3 : Sl w (.slice av v.length cv) (ints v))
    (b0 : l.length * 8 ≤ 140737488351232) (b1 : l1.length * 8 ≤ 140737488351232) (b2 : l2.length * 8 ≤ 140737488351232) (b3 : v.length * 8 ≤ 140737488351232) :
    Calls Try.prog 12 #[.slice a l.length cap, .agg #[.int .i64 f1, .int .i64 t1, .slice a1 l1.length c1], .agg #[.int .i64 f2, .int .i64 t2, .slice a2 l2.length c2], .slice av v.length cv] w fun e w' => e = .returned (.bool true) ∧ Below w.heap.size w w' := by
  have H0 := Lib.hid h0
  have H1 := Lib.hid h1
  have H2 := Lib.hid h2
  have H3 := Lib.hid h3
  clear h0 h1 h2 h3
  obtain ⟨w0, HW0⟩ : ∃ w0, Hid (w0 = (w.alloc (.cells #[.int .i64 f1, .int .i64 t1, .slice a1 l1.length c1] 48)).alloc (.cells #[.int .i64 f2, .int .i64 t2, .slice a2 l2.length c2] 48)) := ⟨_, rfl⟩
  have HB0 : Hid (Below w.heap.size w w0) := by rw [HW0.out]; exact ((Below.refl _ _).alloc (Nat.le_refl _) _).alloc (by simp) _
  have HA : Hid (w0.heap[w.heap.size]? = some (.cells #[.int .i64 f1, .int .i64 t1, .slice a1 l1.length c1] 48 (0, 0))) := by
    rw [HW0.out]; exact bx_keep (heap_alloc_new w _) ((Below.refl _ _).alloc (Nat.le_refl _) _)
  have HBb : Hid (w0.heap[w.heap.size + 1]? = some (.cells #[.int .i64 f2, .int .i64 t2, .slice a2 l2.length c2] 48 (0, 0))) := by
    rw [HW0.out]
    have := heap_alloc_new (w.alloc (.cells #[.int .i64 f1, .int .i64 t1, .slice a1 l1.length c1] 48)) (.cells #[.int .i64 f2, .int .i64 t2, .slice a2 l2.length c2] 48)
    show _ = _
    simpa using this
  have HS0 : Hid (w.heap.size + 1 + 1 = w0.heap.size) := by rw [HW0.out]; show _ = _; simp
  go_enter Try.func12, Try.ntmps12
  go_wp2_with fail
  rw [← HW0.out]
  refine (first w0 (w.heap.size + 1 + 1) HS0.out).mono ?_
  rintro e w1 ⟨x1, k1, rfl, hs1, hb1⟩
  have HS1 := Lib.hid hs1
  have HB1 := Lib.hid hb1
  clear hs1 hb1 HW0
  go_wp2_with fail
  have hbl := HB1.out.alloc HB1.out.size (.cells #[.int .i64 3] 3)
  refine (sameEdit 1 2 1 2 _ _ [3] [3] _ (HS1.out.keep ((Below.refl _ _).alloc (Nat.le_refl _) _)) (sl_lit (v := #[.int .i64 3]) rfl (by simp [maxLen]))).mono ?_
  rintro e w2 ⟨rfl, hb2⟩
  have HB2 := Lib.hid (hbl.trans (hb2.mono hbl.size))
  have hT : sameEd 1 2 [3] 1 2 [3] = true := by decide
  rw [hT]
  clear hT hbl hb2 HB1 HS1
  have x1 := bx_keep HA.out HB2.out
  have x2 := bx_keep HBb.out HB2.out
  obtain ⟨p0, p1, p2⟩ := bx_cells3 x1
  obtain ⟨q0, q1, q2⟩ := bx_cells3 x2
  clear x1 x2
  have HBW2 := Lib.hid (HB0.out.trans (HB2.out.mono HB0.out.size))
  go_wp2_with fail
  refine (composeE a cap l f1 t1 a1 l1 c1 f2 t2 a2 l2 c2 _ (H0.out.keep HBW2.out) (H1.out.keep HBW2.out) (H2.out.keep HBW2.out) b0 b1 b2).mono ?_
  rintro e w3 ⟨ax, kx, rfl, hs3, hb3⟩
  obtain ⟨cf, ct, cl, ce, HC⟩ : ∃ cf ct cl ce, Hid (comp l f1 t1 l1 f2 t2 l2 = (cf, ct, cl, ce)) := ⟨_, _, _, _, rfl⟩
  rw [HC.out] at hs3 ⊢
  dsimp only at hs3 ⊢
  have HB3 := Lib.hid (HB2.out.trans (hb3.mono HB2.out.size))
  have HS3 := Lib.hid hs3
  clear p0 p1 p2 q0 q1 q2 hs3 hb3 HB2 HBW2
  have hz3 := HB3.out.size
  have h00 := HS0.out
  have k3a : w.heap.size < w3.heap.size := by omega
  have k3b : w.heap.size + 1 < w3.heap.size := by omega
  clear h00
  obtain ⟨p0, p1, p2⟩ := bx_cells3 (bx_keep HA.out HB3.out)
  obtain ⟨q0, q1, q2⟩ := bx_cells3 (bx_keep HBb.out HB3.out)
  go_wp2_with fail
  have hB3x := (Below.refl w3.heap.size w3).alloc (Nat.le_refl _) (.cells #[.int .i64 cf, .int .i64 ct, .slice ax cl.length kx] 48)
  have hBW3 := (HB0.out.trans (HB3.out.mono HB0.out.size)).trans (hB3x.mono (HB0.out.trans (HB3.out.mono HB0.out.size)).size)
  refine (joinedR a cap l f1 t1 a1 l1 c1 f2 t2 a2 l2 c2 _ (H0.out.keep hBW3) (H1.out.keep hBW3) (H2.out.keep hBW3) b0 b1 b2).mono ?_
  rintro e w4 ⟨ay, ky, rfl, hs4, hb4⟩
  rw [HC.out] at hs4 ⊢
  dsimp only at hs4 ⊢
  have X3 := Lib.hid (box_plain hb4)
  have hB34 : Below w3.heap.size w3 w4 := hB3x.trans (hb4.mono hB3x.size)
  have HB34 := Lib.hid hB34
  have HB4 := Lib.hid (HB3.out.trans (hB34.mono HB3.out.size))
  have HS4 := Lib.hid hs4
  have HS3' := Lib.hid (HS3.out.keep hB34)
  have k34 : w3.heap.size < w4.heap.size := by have := hb4.size; simp at this; omega
  clear p0 p1 p2 q0 q1 q2 hs4 hb4 hB3x hBW3 hB34 HS3
  obtain ⟨y0, y1, y2⟩ := bx_cells3 X3.out
  have hcc : (ce != ce) = false := by simp
  go_wp2_with fail
  have hB4y := (Below.refl w4.heap.size w4).alloc (Nat.le_refl _) (.cells #[.int .i64 cf, .int .i64 ct, .slice ay cl.length ky] 48)
  refine (sameEdit cf ct cf ct _ _ cl cl _ (HS3'.out.keep hB4y) (HS4.out.keep hB4y)).mono ?_
  rintro e w5 ⟨rfl, hb5⟩
  have hB45 := hB4y.trans (hb5.mono hB4y.size)
  have HB5 := Lib.hid (HB4.out.trans (hB45.mono HB4.out.size))
  have hT : sameEd cf ct cl cf ct cl = true := by simp [sameEd]
  rw [hT]
  clear hT hB4y hb5 hB45 y0 y1 y2 HS3' HS4 X3 HB34
  have HBW5 := Lib.hid (HB0.out.trans (HB5.out.mono HB0.out.size))
  go_wp2_with fail
  refine (betweenE a cap l av cv v _ (H0.out.keep HBW5.out) (H3.out.keep HBW5.out) b0 b3).mono ?_
  rintro e w6 ⟨a6, k6, rfl, hs6, hb6⟩
  have HB6 := Lib.hid (HB5.out.trans (hb6.mono HB5.out.size))
  have HS6 := Lib.hid hs6
  have HBW6 := Lib.hid (HBW5.out.trans (hb6.mono HBW5.out.size))
  obtain ⟨N, HN⟩ : ∃ N : Int, Hid ((Btw.lcp l v : Int) = N) := ⟨_, rfl⟩
  obtain ⟨T, HT⟩ : ∃ T : Int, Hid ((l.length : Int) - (Btw.suf l v (Btw.lcp l v) : Nat) = T) := ⟨_, rfl⟩
  obtain ⟨Z, HZ⟩ : ∃ Z, Hid ((v.drop (Btw.lcp l v)).take (v.length - Btw.suf l v (Btw.lcp l v) - Btw.lcp l v) = Z) := ⟨_, rfl⟩
  rw [HN.out, HT.out, HZ.out]
  rw [HZ.out] at HS6
  clear hs6 hb6
  go_wp2_with fail
  refine (changeR a cap l av cv v _ (H0.out.keep HBW6.out) (H3.out.keep HBW6.out) b0 b3).mono ?_
  rintro e w7 ⟨a7, k7, rfl, hs7, hb7⟩
  rw [HZ.out] at hs7
  rw [HN.out, HT.out, HZ.out]
  have HB7 := Lib.hid (HB6.out.trans (hb7.mono HB6.out.size))
  have HS7 := Lib.hid hs7
  have HS6' := Lib.hid (HS6.out.keep hb7)
  clear hs7 hb7 HS6
  go_wp2_with fail
  refine (sameEdit N T N T _ _ Z Z _ HS6'.out HS7.out).mono ?_
  rintro e w8 ⟨rfl, hb8⟩
  have HB8 := Lib.hid (HB7.out.trans (hb8.mono HB7.out.size))
  have hT : sameEd N T Z N T Z = true := by simp [sameEd]
  rw [hT]
  clear hT hb8 HS6' HS7 HBW5 HBW6 HB3 HB4 HB5 HB6 HB7 hcc hz3 k3a k3b k34
  obtain ⟨p0, p1, p2⟩ := bx_cells3 (bx_keep HA.out HB8.out)
  obtain ⟨q0, q1, q2⟩ := bx_cells3 (bx_keep HBb.out HB8.out)
  obtain ⟨F1, HF1⟩ : ∃ F, Hid (fault l.length f1 t1 l1.length = F) := ⟨_, rfl⟩
  obtain ⟨F2, HF2⟩ : ∃ F, Hid (fault l.length f2 t2 l2.length = F) := ⟨_, rfl⟩
  go_wp2_with fail
  refine (editFault l.length f1 t1 a1 l1.length c1 _ (by omega) (by omega) (by omega)).mono ?_
  rintro e w9 ⟨rfl, hb9⟩
  rw [HF1.out]
  have HB9 := Lib.hid (HB8.out.trans (hb9.mono HB8.out.size))
  clear p0 p1 p2 q0 q1 q2 hb9
  obtain ⟨p0, p1, p2⟩ := bx_cells3 (bx_keep HA.out HB9.out)
  obtain ⟨q0, q1, q2⟩ := bx_cells3 (bx_keep HBb.out HB9.out)
  have HBW9 := Lib.hid (HB0.out.trans (HB9.out.mono HB0.out.size))
  have k9 : w.heap.size + 1 < w9.heap.size := by have h1 := HS0.out; have h2 := HB9.out.size; omega
  have k9' : w.heap.size < w9.heap.size := by omega
  obtain ⟨of, ot, ol, oe, HOV⟩ : ∃ of ot ol oe, Hid (over l.length f1 t1 l1.length f2 t2 l2 = (of, ot, ol, oe)) := ⟨_, _, _, _, rfl⟩
  by_cases hF1 : F1 = 0
  · subst hF1
    obtain ⟨z1, z2, z3, z4⟩ := fault_zero HF1.out
    have hT0 : ((0 : Int) == 0) = true := by decide
    go_wp2_with fail
    refine (editFault l.length f2 t2 a2 l2.length c2 _ (by omega) (by omega) (by omega)).mono ?_
    rintro e wa ⟨rfl, hba⟩
    rw [HF2.out]
    have HBA := Lib.hid (HB9.out.trans (hba.mono HB9.out.size))
    have HBWA := Lib.hid (HBW9.out.trans (hba.mono HBW9.out.size))
    have ka : w.heap.size + 1 < wa.heap.size := by have := hba.size; omega
    have ka' : w.heap.size < wa.heap.size := by omega
    clear p0 p1 p2 q0 q1 q2 hba HB9 HBW9 k9 k9'
    obtain ⟨p0, p1, p2⟩ := bx_cells3 (bx_keep HA.out HBA.out)
    obtain ⟨q0, q1, q2⟩ := bx_cells3 (bx_keep HBb.out HBA.out)
    by_cases hF2 : F2 = 0
    · subst hF2
      obtain ⟨z5, z6, z7, z8⟩ := fault_zero HF2.out
      have hBz := (Below.refl wa.heap.size wa).alloc (Nat.le_refl _) (.cells #[.int .i64 0, .int .i64 0, .slice none 0 0] 48)
      have hBWz := HBWA.out.trans (hBz.mono HBWA.out.size)
      have HMV := Lib.hid (moved f1 t1 f2 t2 a1 a2 l1.length l2 c1 c2 _ (H2.out.keep hBWz) z1 z2 (by omega) z5 z6 (by omega) (by omega))
      have HBZ := Lib.hid hBz
      clear hBz hBWz
      cases hm : mv f1 t1 l1.length f2 t2 with
      | none =>
        rw [hm] at HMV
        have HM := Lib.hid hm
        clear hm
        go_wp2_with fail
        refine HMV.out.mono ?_
        rintro e wm ⟨rfl, hbm⟩
        have Z0 := Lib.hid (box_plain hbm)
        have HBM := Lib.hid (HBZ.out.trans (hbm.mono HBZ.out.size))
        have HBM0 := Lib.hid (HBA.out.trans (HBM.out.mono HBA.out.size))
        have HBWM := Lib.hid (HBWA.out.trans (HBM.out.mono HBWA.out.size))
        have km1 : wa.heap.size < wm.heap.size := by have := hbm.size; simp at this; omega
        clear hbm p0 p1 p2 q0 q1 q2 HMV
        obtain ⟨p0, p1, p2⟩ := bx_cells3 (bx_keep HA.out HBM0.out)
        obtain ⟨q0, q1, q2⟩ := bx_cells3 (bx_keep HBb.out HBM0.out)
        obtain ⟨z0', z1', z2'⟩ := bx_cells3 Z0.out
        obtain ⟨s0, s1, s2⟩ := bx_free3 Z0.out
        have n1 : ¬ w.heap.size = wa.heap.size := by omega
        have n2 : ¬ wa.heap.size = w.heap.size := by omega
        have n3 : ¬ w.heap.size + 1 = wa.heap.size := by omega
        have n4 : ¬ wa.heap.size = w.heap.size + 1 := by omega
        have n5 : w.heap.size < wm.heap.size := by omega
        have n6 : w.heap.size + 1 < wm.heap.size := by omega
        have n7 : ¬ wm.heap.size = wa.heap.size := by omega
        have n8 : ¬ wa.heap.size = wm.heap.size := by omega
        have hov : over l.length f1 t1 l1.length f2 t2 l2 = (0, 0, [], 8) := by rw [over, if_neg (by rw [HF1.out]; simp), if_neg (by rw [HF2.out]; simp), HM.out]
        rw [HOV.out] at hov
        simp only [Prod.mk.injEq] at hov
        obtain ⟨rfl, rfl, rfl, rfl⟩ := hov
        go_wp2_with fail
        have hBWV := ((HBWM.out.setCell (p := ⟨wa.heap.size, 0, none⟩) (Nat.le_of_lt ka') (.int .i64 0)).setCell (p := ⟨wa.heap.size, 1, none⟩) (Nat.le_of_lt ka') (.int .i64 0)).setCell (p := ⟨wa.heap.size, 2, none⟩) (Nat.le_of_lt ka') (.slice none 0 0)
        have hBWX := hBWV.alloc hBWV.size (.cells #[.int .i64 0, .int .i64 0, .slice none 0 0] 48)
        have hz := set3 Z0.out (.int .i64 0) (.int .i64 0) (.slice none 0 0)
        refine (overE l.length f1 t1 f2 t2 a1 a2 l1.length _ c1 c2 _ (H2.out.keep hBWX) (by omega) (by omega) (by omega) b2).mono ?_
        rintro e wo ⟨ao, ko, rfl, hso, hbo⟩
        rw [HOV.out] at hso ⊢
        dsimp only at hso ⊢
        have Z1 := Lib.hid (bx_keep (bx_keep hz ((Below.refl _ _).alloc (Nat.le_refl _) _)) hbo)
        have HSO := Lib.hid hso
        have HBO := Lib.hid (hBWX.trans (hbo.mono hBWX.size))
        have ko1 : wa.heap.size < wo.heap.size := (Array.getElem?_eq_some_iff.1 Z1.out).1
        clear hBWV hBWX hz hso hbo p0 p1 p2 q0 q1 q2 z0' z1' z2' s0 s1 s2
        obtain ⟨z0, z1, z2⟩ := bx_cells3 Z1.out
        go_wp2_with fail
        have hBu := (Below.refl wo.heap.size wo).alloc (Nat.le_refl _) (.cells #[.int .i64 0, .int .i64 0, .slice ao (([] : List Int)).length ko] 48)
        refine (sameEdit 0 0 0 0 _ _ (([] : List Int)) (([] : List Int)) _ (HSO.out.keep hBu) (sl_of_own (World.ownsRow_nil _ 0 0 1))).mono ?_
        rintro e wf ⟨rfl, hbf⟩
        have hT : sameEd 0 0 (([] : List Int)) 0 0 (([] : List Int)) = true := by simp [sameEd]
        rw [hT]
        have HBF := Lib.hid (HBO.out.trans ((hBu.trans (hbf.mono hBu.size)).mono HBO.out.size))
        clear hT hBu hbf z0 z1 z2
        go_wp2_with fail
        go_ret
        exact ⟨rfl, HBF.out⟩
      | some ft =>
        obtain ⟨mf, mt⟩ := ft
        rw [hm] at HMV
        have HM := Lib.hid hm
        clear hm
        go_wp2_with fail
        refine HMV.out.mono ?_
        rintro e wm ⟨rfl, hbm⟩
        have Z0 := Lib.hid (box_plain hbm)
        have HBM := Lib.hid (HBZ.out.trans (hbm.mono HBZ.out.size))
        have HBM0 := Lib.hid (HBA.out.trans (HBM.out.mono HBA.out.size))
        have HBWM := Lib.hid (HBWA.out.trans (HBM.out.mono HBWA.out.size))
        have km1 : wa.heap.size < wm.heap.size := by have := hbm.size; simp at this; omega
        clear hbm p0 p1 p2 q0 q1 q2 HMV
        obtain ⟨p0, p1, p2⟩ := bx_cells3 (bx_keep HA.out HBM0.out)
        obtain ⟨q0, q1, q2⟩ := bx_cells3 (bx_keep HBb.out HBM0.out)
        obtain ⟨z0', z1', z2'⟩ := bx_cells3 Z0.out
        obtain ⟨s0, s1, s2⟩ := bx_free3 Z0.out
        have n1 : ¬ w.heap.size = wa.heap.size := by omega
        have n2 : ¬ wa.heap.size = w.heap.size := by omega
        have n3 : ¬ w.heap.size + 1 = wa.heap.size := by omega
        have n4 : ¬ wa.heap.size = w.heap.size + 1 := by omega
        have n5 : w.heap.size < wm.heap.size := by omega
        have n6 : w.heap.size + 1 < wm.heap.size := by omega
        have n7 : ¬ wm.heap.size = wa.heap.size := by omega
        have n8 : ¬ wa.heap.size = wm.heap.size := by omega
        have hov : over l.length f1 t1 l1.length f2 t2 l2 = (mf, mt, l2, 0) := by rw [over, if_neg (by rw [HF1.out]; simp), if_neg (by rw [HF2.out]; simp), HM.out]
        rw [HOV.out] at hov
        simp only [Prod.mk.injEq] at hov
        obtain ⟨rfl, rfl, rfl, rfl⟩ := hov
        go_wp2_with fail
        have hBWV := ((HBWM.out.setCell (p := ⟨wa.heap.size, 0, none⟩) (Nat.le_of_lt ka') (.int .i64 of)).setCell (p := ⟨wa.heap.size, 1, none⟩) (Nat.le_of_lt ka') (.int .i64 ot)).setCell (p := ⟨wa.heap.size, 2, none⟩) (Nat.le_of_lt ka') (.slice a2 ol.length c2)
        have hBWX := hBWV.alloc hBWV.size (.cells #[.int .i64 of, .int .i64 ot, .slice a2 ol.length c2] 48)
        have hz := set3 Z0.out (.int .i64 of) (.int .i64 ot) (.slice a2 ol.length c2)
        refine (overE l.length f1 t1 f2 t2 a1 a2 l1.length _ c1 c2 _ (H2.out.keep hBWX) (by omega) (by omega) (by omega) b2).mono ?_
        rintro e wo ⟨ao, ko, rfl, hso, hbo⟩
        rw [HOV.out] at hso ⊢
        dsimp only at hso ⊢
        have Z1 := Lib.hid (bx_keep (bx_keep hz ((Below.refl _ _).alloc (Nat.le_refl _) _)) hbo)
        have HSO := Lib.hid hso
        have HBO := Lib.hid (hBWX.trans (hbo.mono hBWX.size))
        have ko1 : wa.heap.size < wo.heap.size := (Array.getElem?_eq_some_iff.1 Z1.out).1
        clear hBWV hBWX hz hso hbo p0 p1 p2 q0 q1 q2 z0' z1' z2' s0 s1 s2
        obtain ⟨z0, z1, z2⟩ := bx_cells3 Z1.out
        go_wp2_with fail
        have hBu := (Below.refl wo.heap.size wo).alloc (Nat.le_refl _) (.cells #[.int .i64 of, .int .i64 ot, .slice ao (ol).length ko] 48)
        refine (sameEdit of ot of ot _ _ (ol) (ol) _ (HSO.out.keep hBu) (H2.out.keep (HBO.out.trans (hBu.mono HBO.out.size)))).mono ?_
        rintro e wf ⟨rfl, hbf⟩
        have hT : sameEd of ot (ol) of ot (ol) = true := by simp [sameEd]
        rw [hT]
        have HBF := Lib.hid (HBO.out.trans ((hBu.trans (hbf.mono hBu.size)).mono HBO.out.size))
        clear hT hBu hbf z0 z1 z2
        go_wp2_with fail
        go_ret
        exact ⟨rfl, HBF.out⟩
    · have hov : over l.length f1 t1 l1.length f2 t2 l2 = (0, 0, [], F2) := by rw [over, if_neg (by rw [HF1.out]; simp), if_pos (by rw [HF2.out]; exact hF2), HF2.out]
      rw [HOV.out] at hov
      simp only [Prod.mk.injEq] at hov
      obtain ⟨rfl, rfl, rfl, rfl⟩ := hov
      have hne : (oe == 0) = false := by simp [hF2]
      have hoo : (oe == oe) = true := by simp
      have HF := Lib.hid hF2
      clear hF2
      go_wp2_with fail
      have hBz := (Below.refl wa.heap.size wa).alloc (Nat.le_refl _) (.cells #[.int .i64 0, .int .i64 0, .slice none 0 0] 48)
      have hBWz := HBWA.out.trans (hBz.mono HBWA.out.size)
      refine (overE l.length f1 t1 f2 t2 a1 a2 l1.length l2 c1 c2 _ (H2.out.keep hBWz) (by omega) (by omega) (by omega) b2).mono ?_
      rintro e wo ⟨ao, ko, rfl, hso, hbo⟩
      rw [HOV.out] at hso ⊢
      dsimp only at hso ⊢
      have Z1 := Lib.hid (box_plain hbo)
      have HSO := Lib.hid hso
      have HBO := Lib.hid (hBWz.trans (hbo.mono hBWz.size))
      have ko1 : wa.heap.size < wo.heap.size := by have := hbo.size; simp at this; omega
      clear hBz hBWz hso hbo
      obtain ⟨z0, z1, z2⟩ := bx_cells3 Z1.out
      go_wp2_with fail
      have hBu := (Below.refl wo.heap.size wo).alloc (Nat.le_refl _) (.cells #[.int .i64 0, .int .i64 0, .slice ao 0 ko] 48)
      refine (sameEdit 0 0 0 0 _ _ [] [] _ (HSO.out.keep hBu) (sl_of_own (World.ownsRow_nil _ 0 0 1))).mono ?_
      rintro e wf ⟨rfl, hbf⟩
      have hT : sameEd 0 0 [] 0 0 [] = true := by decide
      rw [hT]
      have HBF := Lib.hid (HBO.out.trans ((hBu.trans (hbf.mono hBu.size)).mono HBO.out.size))
      clear hT hBu hbf z0 z1 z2
      go_wp2_with fail
      go_ret
      exact ⟨rfl, HBF.out⟩
  · have hov : over l.length f1 t1 l1.length f2 t2 l2 = (0, 0, [], F1) := by rw [over, if_pos (by rw [HF1.out]; exact hF1), HF1.out]
    rw [HOV.out] at hov
    simp only [Prod.mk.injEq] at hov
    obtain ⟨rfl, rfl, rfl, rfl⟩ := hov
    have hne : (oe == 0) = false := by simp [hF1]
    have hoo : (oe == oe) = true := by simp
    have HF := Lib.hid hF1
    clear hF1
    go_wp2_with fail
    have hBz := (Below.refl w9.heap.size w9).alloc (Nat.le_refl _) (.cells #[.int .i64 0, .int .i64 0, .slice none 0 0] 48)
    have hBWz := HBW9.out.trans (hBz.mono HBW9.out.size)
    refine (overE l.length f1 t1 f2 t2 a1 a2 l1.length l2 c1 c2 _ (H2.out.keep hBWz) (by omega) (by omega) (by omega) b2).mono ?_
    rintro e wo ⟨ao, ko, rfl, hso, hbo⟩
    rw [HOV.out] at hso ⊢
    dsimp only at hso ⊢
    have Z1 := Lib.hid (box_plain hbo)
    have HSO := Lib.hid hso
    have HBO := Lib.hid (hBWz.trans (hbo.mono hBWz.size))
    have ko1 : w9.heap.size < wo.heap.size := by have := hbo.size; simp at this; omega
    clear hBz hBWz hso hbo
    obtain ⟨z0, z1, z2⟩ := bx_cells3 Z1.out
    go_wp2_with fail
    have hBu := (Below.refl wo.heap.size wo).alloc (Nat.le_refl _) (.cells #[.int .i64 0, .int .i64 0, .slice ao 0 ko] 48)
    refine (sameEdit 0 0 0 0 _ _ [] [] _ (HSO.out.keep hBu) (sl_of_own (World.ownsRow_nil _ 0 0 1))).mono ?_
    rintro e wf ⟨rfl, hbf⟩
    have hT : sameEd 0 0 [] 0 0 [] = true := by decide
    rw [hT]
    have HBF := Lib.hid (HBO.out.trans ((hBu.trans (hbf.mono hBu.size)).mono HBO.out.size))
    clear hT hBu hbf z0 z1 z2
    go_wp2_with fail
    go_ret
    exact ⟨rfl, HBF.out⟩

theorem walk (v0 : Value) (l : List Int) (f1 t1 : Int) (v1 : Value) (l1 : List Int) (f2 t2 : Int) (v2 : Value) (l2 : List Int) (v3 : Value) (v : List Int) (w : World) (h0 : Sl w v0 (ints l)) (b0 : l.length * 8 ≤ 140737488351232) (_ : ∀ z ∈ l, (Lit.int .i64 z).wf = true) (h1 : Sl w v1 (ints l1)) (b1 : l1.length * 8 ≤ 140737488351232)
    (h2 : Sl w v2 (ints l2)) (b2 : l2.length * 8 ≤ 140737488351232) (h3 : Sl w v3 (ints v)) (b3 : v.length * 8 ≤ 140737488351232) (_ : ∀ z ∈ v, (Lit.int .i64 z).wf = true) :
    Calls Try.prog 12 #[v0, .agg #[.int .i64 f1, .int .i64 t1, v1], .agg #[.int .i64 f2, .int .i64 t2, v2], v3] w fun e w' => e = .returned (.bool true) ∧ Below w.heap.size w w' := by
  obtain ⟨a, cap, rfl⟩ := h0.form
  obtain ⟨a1, c1, rfl⟩ := h1.form
  obtain ⟨a2, c2, rfl⟩ := h2.form
  obtain ⟨a3, c3, rfl⟩ := h3.form
  rw [ints_len] at h0 h1 h2 h3
  simp only [ints_len]
  exact main a cap l f1 t1 a1 l1 c1 f2 t2 a2 l2 c2 a3 c3 v w h0 h1 h2 h3 b0 b1 b2 b3
end EditCombines
end Go.Proofs.Ytfbacnifankfkaa
