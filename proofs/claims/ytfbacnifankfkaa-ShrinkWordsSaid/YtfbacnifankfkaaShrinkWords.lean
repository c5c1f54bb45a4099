/- The walk of the law ShrinkWords. -/
import Derived.Test.YtfbacnifankfkaaHard
import Derived.Test.YtfbacnifankfkaaLowerWalk
import Derived.Test.YtfbacnifankfkaaLoweredWalk
import Derived.Test.YtfbacnifankfkaaShrunkWalk
namespace Go.Proofs.Ytfbacnifankfkaa
open Go.RowKit
namespace ShrinkWords

def has2 (l : List Int) : Bool := l.any fun y => 2 == y
theorem has2E (v : Value) (l : List Int) (w : World) (hl : Sl w v (ints l)) :
    Calls Try.prog 63 #[v] w fun e w' => e = .returned (.bool (has2 l)) ∧ Below w.heap.size w w' := by
  obtain ⟨a, cap, rfl⟩ := hl.form
  rw [ints_len] at hl ⊢
  have HL := Lib.hid hl
  clear hl
  go_enter Try.func63, Try.ntmps63
  go_wp2_with fail
  refine (containsInt a cap l 2 w HL.out).mono ?_
  rintro e w1 ⟨rfl, rfl⟩
  go_wp2
  go_ret
  exact ⟨rfl, Below.refl _ _⟩

theorem first (w : World) : Calls Try.prog 62 #[.slice (some ⟨w.heap.size, 0, none⟩) 3 3, .func (.func 63) #[] #[]] (w.alloc (.cells #[.int .i64 1, .int .i64 2, .int .i64 3] 3)) fun e w' =>
    ∃ v, e = .returned (.tuple #[v, .int .i64 0]) ∧ Sl w' v (ints [2]) ∧ Below w.heap.size w w' := by
  have hs := sl_lit (w := w) (v := #[.int .i64 1, .int .i64 2, .int .i64 3]) (e := 3) rfl (by simp [maxLen])
  have hb : Below w.heap.size w (w.alloc (.cells #[.int .i64 1, .int .i64 2, .int .i64 3] 3)) := (Below.refl _ _).alloc (Nat.le_refl _) _
  refine (wordE 63 #[] has2 (some ⟨w.heap.size, 0, none⟩) 3 [1, 2, 3] _ (fun _ _ => by kernel_rfl) (fun W v l _ h => has2E v l W h) hs).mono ?_
  rintro e w' ⟨v, rfl, h1, h2⟩
  rw [show wordErr has2 [1, 2, 3] = 0 by decide]
  rw [show wordRes has2 [1, 2, 3] = [2] by decide] at h1
  exact ⟨v, rfl, h1, hb.trans (h2.mono hb.size)⟩

theorem hardE (x y : Int) (w : World) : Calls Try.prog 65 #[.int .i64 x, .int .i64 y] w fun e w' =>
    e = .returned (.func (.func 104) #[] #[.pointer (some ⟨w.heap.size, 0, none⟩), .pointer (some ⟨w.heap.size + 1, 0, none⟩)]) ∧ w' = (w.alloc (.cells #[.int .i64 x] 3)).alloc (.cells #[.int .i64 y] 3) := by
  go_enter Try.func65, Try.ntmps65
  go_wp2
  go_ret
  exact ⟨rfl, rfl⟩

theorem fails (x y : Int) (w w' : World) (hw : w' = (w.alloc (.cells #[.int .i64 x] 3)).alloc (.cells #[.int .i64 y] 3)) (x0 : 0 ≤ x) (x1 : x ≤ 7) (y0 : 0 ≤ y) (y1 : y ≤ 7) :
    FailsAt 104 #[.pointer (some ⟨w.heap.size, 0, none⟩), .pointer (some ⟨w.heap.size + 1, 0, none⟩)] (hardF x y) w' := by
  intro W v l hb hl
  obtain ⟨a, cap, rfl⟩ := hl.form
  rw [ints_len] at hl ⊢
  have e1 : w'.cell? ⟨w.heap.size, 0, none⟩ = some (.int .i64 x) := by rw [hw]; simp [go_sem]
  have e2 : w'.cell? ⟨w.heap.size + 1, 0, none⟩ = some (.int .i64 y) := by rw [hw]; simp [go_sem]
  exact hardC _ _ _ _ x y a cap l W hl (by rw [hb.cell (lt_of_cell e1)]; exact e1) (by rw [hb.cell (lt_of_cell e2)]; exact e2) x0 x1 y0 y1

theorem badE (x : Int) (w : World) : Calls Try.prog 68 #[.int .i64 x] w fun e w' => e = .returned (.bool (badT x)) ∧ Below w.heap.size w w' := by
  by_cases h : x < 0
  · have h1 : decide (x < 0) = true := by simpa using h
    go_enter Try.func68, Try.ntmps68
    go_wp2
    go_ret
    exact ⟨by simp [badT, h], Below.refl _ _⟩
  · have h1 : decide (x < 0) = false := by simpa using h
    go_enter Try.func68, Try.ntmps68
    go_wp2
    go_ret
    exact ⟨by rw [show badT x = decide (7 < x) by rw [Bool.eq_iff_iff]; simp [badT]; omega]; rfl, Below.refl _ _⟩

theorem and7 (p : Int) : 0 ≤ bits .and .i64 p 7 ∧ bits .and .i64 p 7 ≤ 7 := by
  have h2 : (BitVec.ofInt 64 (7 : Int)).toNat = 7 := by decide
  have hx : (BitVec.ofInt 64 p).toNat &&& 7 ≤ 7 := Nat.and_le_right
  have e : bits .and .i64 p 7 = IntKind.i64.wrap (((BitVec.ofInt 64 p).toNat &&& 7 : Nat) : Int) := by
    show IntKind.i64.wrap ((BitVec.ofInt 64 p &&& BitVec.ofInt 64 (7:Int)).toNat : Int) = _
    rw [BitVec.toNat_and, h2]
  rw [e, IntWalk.i64_in _ (by omega)]; omega

theorem err_large {F : List Int → Bool} {l : List Int} (h : 60 < l.length) : wordErr F l = 2 ∧ wordRes F l = [] ∧ lowerErr F l = 2 ∧ lowerRes F l = [] := by
  simp [wordErr, wordRes, lowerErr, lowerRes, h]
theorem err_bad {F : List Int → Bool} {l : List Int} (h : ¬ 60 < l.length) (hb : l.any badT = true) : lowerErr F l = 1 ∧ lowerRes F l = [] := by
  simp [lowerErr, lowerRes, h, hb]
theorem err_state {F : List Int → Bool} {l : List Int} (h : ¬ 60 < l.length) (hF : F l = false) : wordErr F l = 7 ∧ wordRes F l = [] := by
  simp [wordErr, wordRes, h, hF]
theorem err_state2 {F : List Int → Bool} {l : List Int} (h : ¬ 60 < l.length) (hb : l.any badT = false) (hF : F l = false) : lowerErr F l = 7 ∧ lowerRes F l = [] := by
  simp [lowerErr, lowerRes, h, hF, hb]
theorem err_ok {F : List Int → Bool} {l : List Int} (h : ¬ 60 < l.length) (hF : F l = true) : wordErr F l = 0 ∧ wordRes F l = shrunk F 61 l := by
  simp [wordErr, wordRes, h, hF]
theorem err_ok2 {F : List Int → Bool} {l : List Int} (h : ¬ 60 < l.length) (hb : l.any badT = false) (hF : F l = true) : lowerErr F l = 0 ∧ lowerRes F l = lowered F (sm l + 1) l := by
  simp [lowerErr, lowerRes, h, hF, hb]

set_option maxHeartbeats 4000000 in
set_option maxRecDepth 100000 in
theorem main (a : Option Addr) (cap : Nat) (l : List Int) (p q : Int) (w : World) (hl : Sl w (.slice a l.length cap) (ints l)) :
    Calls Try.prog 13 #[.slice a l.length cap, .int .i64 p, .int .i64 q] w fun e w' => e = .returned (.bool true) ∧ Below w.heap.size w w' := by
  have HL := Lib.hid hl
  have hc := hl.len.2
  unfold maxLen at hc
  obtain ⟨hc1, hc2⟩ := hc
  clear hl
  obtain ⟨x, HX⟩ := nameIt (bits .and .i64 p 7)
  obtain ⟨y, HY⟩ := nameIt (bits .and .i64 q 7)
  obtain ⟨x0, x1⟩ := and7 p
  obtain ⟨y0, y1⟩ := and7 q
  rw [HX.out] at x0 x1
  rw [HY.out] at y0 y1
  go_enter Try.func13, Try.ntmps13
  go_wp2_with fail
  refine (first w).mono ?_
  rintro e w1 ⟨v1, rfl, hs1, hb1⟩
  have HS1 := Lib.hid hs1
  have HB1 := Lib.hid hb1
  clear hs1 hb1
  go_wp2_with fail
  refine (equal v1 _ [2] [2] _ (HS1.out.keep ((Below.refl _ _).alloc (Nat.le_refl _) _)) (sl_lit (v := #[.int .i64 2]) rfl (by simp [maxLen]))).mono ?_
  rintro e w2 ⟨rfl, hb2⟩
  have hbl := HB1.out.alloc HB1.out.size (.cells #[.int .i64 2] 3)
  have HB2 := Lib.hid (hbl.trans (hb2.mono hbl.size))
  rw [show (([2] : List Int) == [2]) = true by decide]
  clear hbl hb2 HB1 HS1
  go_wp2_with fail
  rw [HX.out, HY.out]
  refine (hardE x y w2).mono ?_
  rintro e w3 ⟨rfl, hw3⟩
  have hf3 := fails x y w2 w3 hw3 x0 x1 y0 y1
  have HB3 : Hid (Below w.heap.size w w3) := by
    rw [hw3]; exact (HB2.out.alloc HB2.out.size _).alloc (by have := HB2.out.size; simp; omega) _
  obtain ⟨lb, HLB⟩ := nameIt (#[.pointer (some ⟨w2.heap.size, 0, none⟩), .pointer (some ⟨w2.heap.size + 1, 0, none⟩)] : Array Value)
  obtain ⟨F, HFN⟩ := nameIt (hardF x y)
  rw [HLB.out, HFN.out] at hf3
  rw [HLB.out]
  have HF := Lib.hid hf3
  clear hw3 hf3 HLB HFN HX HY x0 x1 y0 y1 HB2
  go_wp2_with fail
  refine (wordE 104 lb F a cap l w3 (fun _ _ => by kernel_rfl) HF.out (HL.out.keep HB3.out)).mono ?_
  rintro e w4 ⟨v4, rfl, hs4, hb4⟩
  obtain ⟨a4, k4, rfl⟩ := hs4.form
  rw [ints_len] at hs4 ⊢
  obtain ⟨R1, HR1⟩ := nameIt (wordRes F l)
  obtain ⟨E1, HE1⟩ := nameIt (wordErr F l)
  rw [HR1.out] at hs4
  rw [HR1.out, HE1.out]
  have HS4 := Lib.hid hs4
  have HB34 := Lib.hid hb4
  have HB4 := Lib.hid (HB3.out.trans (hb4.mono HB3.out.size))
  clear hs4 hb4
  go_wp2_with fail
  refine (lowerE 104 lb F a cap l w4 (fun _ _ => by kernel_rfl) (HF.out.later HB34.out) (HL.out.keep HB4.out)).mono ?_
  rintro e w5 ⟨v5, rfl, hs5, hb5⟩
  obtain ⟨a5, k5, rfl⟩ := hs5.form
  rw [ints_len] at hs5 ⊢
  obtain ⟨R2, HR2⟩ := nameIt (lowerRes F l)
  obtain ⟨E2, HE2⟩ := nameIt (lowerErr F l)
  rw [HR2.out] at hs5
  rw [HR2.out, HE2.out]
  have HS5 := Lib.hid hs5
  have HS45 := Lib.hid (HS4.out.keep hb5)
  have HB35 := Lib.hid (HB34.out.trans (hb5.mono HB34.out.size))
  have HB5 := Lib.hid (HB4.out.trans (hb5.mono HB4.out.size))
  clear hs5 hb5 HS4 HB34 HB4
  by_cases hlen : 60 < l.length
  · have hlen' : 60 < (l.length : Int) := by omega
    obtain ⟨e1, e2, e3, e4⟩ := err_large (F := F) hlen
    obtain rfl : E1 = 2 := by rw [← HE1.out, e1]
    obtain rfl : R1 = [] := by rw [← HR1.out, e2]
    obtain rfl : E2 = 2 := by rw [← HE2.out, e3]
    obtain rfl : R2 = [] := by rw [← HR2.out, e4]
    clear e1 e2 e3 e4
    go_wp2
    go_ret
    exact ⟨rfl, HB5.out⟩
  have hlen' : ¬ 60 < (l.length : Int) := by omega
  go_wp2_with fail
  refine (containsFunc 68 #[] badT _ _ l w5 (fun _ _ => by kernel_rfl) (fun W x _ _ => badE x W) (HL.out.keep HB5.out)).mono ?_
  rintro e w6 ⟨rfl, hb6⟩
  have HB36 := Lib.hid (HB35.out.trans (hb6.mono HB35.out.size))
  have HB6 := Lib.hid (HB5.out.trans (hb6.mono HB5.out.size))
  have HS46 := Lib.hid (HS45.out.keep hb6)
  have HS56 := Lib.hid (HS5.out.keep hb6)
  clear hb6 HB35 HB5 HS45 HS5
  cases hbad : l.any badT with
  | true =>
    obtain ⟨e3, e4⟩ := err_bad (F := F) hlen hbad
    obtain rfl : E2 = 1 := by rw [← HE2.out, e3]
    obtain rfl : R2 = [] := by rw [← HR2.out, e4]
    clear e3 e4 hbad
    go_wp2_with fail
    refine (HF.out w6 _ l HB36.out (HL.out.keep HB6.out)).mono ?_
    rintro e w7 ⟨rfl, hb7⟩
    have HB37 := Lib.hid (HB36.out.trans (hb7.mono HB36.out.size))
    have HB7 := Lib.hid (HB6.out.trans (hb7.mono HB6.out.size))
    have HS47 := Lib.hid (HS46.out.keep hb7)
    clear hb7
    cases hFl : F l with
    | false =>
      obtain ⟨e1, e2⟩ := err_state hlen hFl
      obtain rfl : E1 = 7 := by rw [← HE1.out, e1]
      obtain rfl : R1 = [] := by rw [← HR1.out, e2]
      clear e1 e2 hFl
      go_wp2
      go_ret
      exact ⟨rfl, HB7.out⟩
    | true =>
      obtain ⟨e1, e2⟩ := err_ok hlen hFl
      obtain rfl : E1 = 0 := by rw [← HE1.out, e1]
      have HRR : Hid (shrunk F 61 l = R1) := by show _ = _; rw [← HR1.out, e2]
      clear e1 e2 hFl
      go_wp2_with fail
      refine (shrunkE 104 lb F (fun _ _ => by kernel_rfl) 61 a cap l w7 (HF.out.later HB37.out) (HL.out.keep HB7.out) (by omega) (by omega)).mono ?_
      rintro e w8 ⟨v8, rfl, hs8, hb8⟩
      rw [HRR.out] at hs8
      have HS8 := Lib.hid hs8
      have HS48 := Lib.hid (HS47.out.keep hb8)
      have HB8 := Lib.hid (HB7.out.trans (hb8.mono HB7.out.size))
      clear hs8 hb8
      go_wp2_with fail
      refine (equal _ v8 R1 R1 _ HS48.out HS8.out).mono ?_
      rintro e w9 ⟨rfl, hb9⟩
      rw [show (R1 == R1) = true by simp]
      have HB9 := Lib.hid (HB8.out.trans (hb9.mono HB8.out.size))
      clear hb9
      go_wp2
      go_ret
      exact ⟨rfl, HB9.out⟩
  | false =>
    have HBD := Lib.hid hbad
    clear hbad
    go_wp2_with fail
    refine (HF.out w6 _ l HB36.out (HL.out.keep HB6.out)).mono ?_
    rintro e w7 ⟨rfl, hb7⟩
    have HB37 := Lib.hid (HB36.out.trans (hb7.mono HB36.out.size))
    have HB7 := Lib.hid (HB6.out.trans (hb7.mono HB6.out.size))
    have HS47 := Lib.hid (HS46.out.keep hb7)
    have HS57 := Lib.hid (HS56.out.keep hb7)
    clear hb7
    cases hFl : F l with
    | false =>
      obtain ⟨e1, e2⟩ := err_state hlen hFl
      obtain ⟨e3, e4⟩ := err_state2 hlen HBD.out hFl
      obtain rfl : E1 = 7 := by rw [← HE1.out, e1]
      obtain rfl : R1 = [] := by rw [← HR1.out, e2]
      obtain rfl : E2 = 7 := by rw [← HE2.out, e3]
      obtain rfl : R2 = [] := by rw [← HR2.out, e4]
      clear e1 e2 e3 e4 hFl
      go_wp2
      go_ret
      exact ⟨rfl, HB7.out⟩
    | true =>
      obtain ⟨e1, e2⟩ := err_ok hlen hFl
      obtain ⟨e3, e4⟩ := err_ok2 hlen HBD.out hFl
      obtain rfl : E1 = 0 := by rw [← HE1.out, e1]
      have HRR : Hid (shrunk F 61 l = R1) := by show _ = _; rw [← HR1.out, e2]
      obtain rfl : E2 = 0 := by rw [← HE2.out, e3]
      have HRL : Hid (lowered F (sm l + 1) l = R2) := by show _ = _; rw [← HR2.out, e4]
      clear e1 e2 e3 e4 hFl
      go_wp2_with fail
      refine (shrunkE 104 lb F (fun _ _ => by kernel_rfl) 61 a cap l w7 (HF.out.later HB37.out) (HL.out.keep HB7.out) (by omega) (by omega)).mono ?_
      rintro e w8 ⟨v8, rfl, hs8, hb8⟩
      rw [HRR.out] at hs8
      have HS8 := Lib.hid hs8
      have HS48 := Lib.hid (HS47.out.keep hb8)
      have HS58 := Lib.hid (HS57.out.keep hb8)
      have HB38 := Lib.hid (HB37.out.trans (hb8.mono HB37.out.size))
      have HB8 := Lib.hid (HB7.out.trans (hb8.mono HB7.out.size))
      clear hs8 hb8
      go_wp2_with fail
      refine (equal _ v8 R1 R1 _ HS48.out HS8.out).mono ?_
      rintro e w9 ⟨rfl, hb9⟩
      rw [show (R1 == R1) = true by simp]
      have HS59 := Lib.hid (HS58.out.keep hb9)
      have HB39 := Lib.hid (HB38.out.trans (hb9.mono HB38.out.size))
      have HB9 := Lib.hid (HB8.out.trans (hb9.mono HB8.out.size))
      clear hb9
      go_wp2_with fail
      refine (loweredE 104 lb F (fun _ _ => by kernel_rfl) (sm l + 1) a cap l w9 (HF.out.later HB39.out) (HL.out.keep HB9.out) (by omega) (small_of HBD.out) (by omega)).mono ?_
      rintro e w10 ⟨v10, rfl, hs10, hb10⟩
      rw [HRL.out] at hs10
      have HS10 := Lib.hid hs10
      have HS5A := Lib.hid (HS59.out.keep hb10)
      have HB10 := Lib.hid (HB9.out.trans (hb10.mono HB9.out.size))
      clear hs10 hb10
      go_wp2_with fail
      refine (equal _ v10 R2 R2 _ HS5A.out HS10.out).mono ?_
      rintro e w11 ⟨rfl, hb11⟩
      rw [show (R2 == R2) = true by simp]
      have HB11 := Lib.hid (HB10.out.trans (hb11.mono HB10.out.size))
      clear hb11
      go_wp2
      go_ret
      exact ⟨rfl, HB11.out⟩

theorem walk (v : Value) (l : List Int) (p q : Int) (w : World) (hl : Sl w v (ints l)) (_ : l.length * 8 ≤ 140737488351232) (_ : ∀ z ∈ l, (Lit.int .i64 z).wf = true) (_ : (Lit.int .i64 p).wf = true) (_ : (Lit.int .i64 q).wf = true) :
    Calls Try.prog 13 #[v, .int .i64 p, .int .i64 q] w fun e w' => e = .returned (.bool true) ∧ Below w.heap.size w w' := by
  obtain ⟨a, cap, rfl⟩ := hl.form
  rw [ints_len] at hl ⊢
  exact main a cap l p q w hl
end ShrinkWords
end Go.Proofs.Ytfbacnifankfkaa
