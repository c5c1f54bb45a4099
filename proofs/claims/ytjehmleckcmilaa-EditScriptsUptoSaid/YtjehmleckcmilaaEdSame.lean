/- The contracts of SameEdit and of slices.EqualFunc with it, of equal edits. -/
import Derived.Test.YtjehmleckcmilaaScript
import Derived.Test.YtjehmleckcmilaaEditRun
import Derived.Test.YtjehmleckcmilaaEditFault
import Derived.Test.YtjehmleckcmilaaEditRan
namespace Go.Proofs.Ytjehmleckcmilaa
open Go.RowKit

set_option maxHeartbeats 1000000 in
set_option maxRecDepth 100000 in
theorem sameEditE (x : Ed) (v v' : Value) (w : World) (hv : Rd AnyB w (D.ints x.new) [v]) (hv' : Rd AnyB w (D.ints x.new) [v']) :
    Calls Try.prog 36 #[.agg #[.int .i64 x.f, .int .i64 x.t, v], .agg #[.int .i64 x.f, .int .i64 x.t, v']] w fun e w' => e = .returned (.bool true) ∧ Below w.heap.size w w' := by
  obtain ⟨a, n, cap, rfl⟩ : ∃ a n cap, v = .slice a n cap := by obtain ⟨a, c, e, _⟩ := hv.form; exact ⟨_, _, _, e⟩
  obtain ⟨a', n', cap', rfl⟩ : ∃ a n cap, v' = .slice a n cap := by obtain ⟨a, c, e, _⟩ := hv'.form; exact ⟨_, _, _, e⟩
  obtain ⟨q0, HQ0⟩ := nameIt x.f
  obtain ⟨q1, HQ1⟩ := nameIt x.t
  obtain ⟨w0, HW0⟩ := nameIt ((w.alloc (.cells #[.int .i64 q0, .int .i64 q1, .slice a n cap] 67)).alloc (.cells #[.int .i64 q0, .int .i64 q1, .slice a' n' cap'] 67))
  have HB0 : Hid (Below w.heap.size w w0) := by rw [← HW0.out]; exact ((Below.refl _ _).alloc (Nat.le_refl _) _).alloc (by simp) _
  have X1 : Hid (w0.heap[w.heap.size]? = some (.cells #[.int .i64 q0, .int .i64 q1, .slice a n cap] 67 (0, 0))) := by
    rw [← HW0.out]; exact bx_keep (bx_new _ _ _ rfl) ((Below.refl _ _).alloc (Nat.le_refl _) _)
  have X2 : Hid (w0.heap[w.heap.size + 1]? = some (.cells #[.int .i64 q0, .int .i64 q1, .slice a' n' cap'] 67 (0, 0))) := by
    rw [← HW0.out]; exact bx_new _ _ _ (by simp)
  have heq := equal _ _ _ _ w0 (sl_rd (hv.below HB0.out)) (sl_rd (hv'.below HB0.out))
  simp only [beq_self_eq_true] at heq
  have HEQ := Lib.hid heq
  rw [HQ0.out, HQ1.out]
  obtain ⟨x0, x1, x2⟩ := bx_cells3 X1.out
  obtain ⟨y0, y1, y2⟩ := bx_cells3 X2.out
  have hb0 : (q0 == q0) = true := by simp
  have hb1 : (q1 == q1) = true := by simp
  clear hv hv' heq
  go_enter Try.func36, Try.ntmps36
  go_upto_region 1 with fail
  rw [HW0.out]
  go_wp2_with fail
  refine HEQ.out.mono ?_
  rintro e w1 ⟨rfl, hb1⟩
  have HB1 : Hid (Below w.heap.size w w1) := HB0.out.trans (hb1.mono HB0.out.size)
  clear hb1
  go_wp2_with fail
  go_ret
  exact ⟨rfl, HB1.out⟩

set_option maxHeartbeats 1000000 in
set_option maxRecDepth 100000 in
theorem eqEds (l : List Ed) (a a' : Option Addr) (n n' cap cap' : Nat) (w : World) (hl : Rd AnyB w (.sl (l.map Ed.d)) [.slice a n cap]) (hm : Rd AnyB w (.sl (l.map Ed.d)) [.slice a' n' cap']) :
    Calls Try.prog 34 #[.slice a n cap, .slice a' n' cap', .func (.func 36) #[] #[]] w fun e w' => e = .returned (.bool true) ∧ Below w.heap.size w w' := by
  have HL := Lib.hid hl
  have HM := Lib.hid hm
  obtain ⟨hn, hn1, hn2⟩ := hl.bounds
  obtain ⟨hn', hn1', hn2'⟩ := hm.bounds
  obtain rfl : n' = n := by rw [hn, hn']
  rw [List.length_map] at hn
  have HN := Lib.hid hn
  unfold maxLen at hn2 hn2'
  have hnb : ((n' : Int) != (n' : Int)) = false := by simp
  clear hl hm hn hn'
  have eg : ∀ args w, (callFunc 36 args).run Try.prog w = .ok (.enter 36 args) w := fun _ _ => by kernel_rfl
  go_enter Try.func34, Try.ntmps34
  go_wp2_with fail
  go_loopg [17] n' (fun gg v17 wr => ∃ i : Nat, i ≤ n' ∧ n' - i ≤ gg ∧ v17 = .int .i64 i ∧ Hid (Below w.heap.size w wr))
  case atStart => exact ⟨0, by omega, by omega, rfl, Below.refl _ _⟩
  case round =>
    obtain ⟨i, hi, hg, rfl, HB⟩ := hrel
    by_cases hlt : i < n'
    · have hlt' : (i : Int) < (n' : Int) := by omega
      have hil : i < l.length := by rw [← HN.out]; exact hlt
      obtain ⟨b, off, v, hae, -, hbl, k0, k1, k2, hkid⟩ := Rd.ed_at (HL.out.below HB.out) hil
      obtain ⟨av, nv, cv, rfl⟩ : ∃ a n cap, v = .slice a n cap := by obtain ⟨a, c, e, _⟩ := hkid.form; exact ⟨_, _, _, e⟩
      obtain ⟨b', off', v', hae', -, hbl', j0, j1, j2, hkid'⟩ := Rd.ed_at (HM.out.below HB.out) hil
      obtain ⟨av', nv', cv', rfl⟩ : ∃ a n cap, v' = .slice a n cap := by obtain ⟨a, c, e, _⟩ := hkid'.form; exact ⟨_, _, _, e⟩
      obtain ⟨q0, HQ0⟩ := nameIt (l[i]'hil).f
      obtain ⟨q1, HQ1⟩ := nameIt (l[i]'hil).t
      obtain ⟨w0, HW0⟩ := nameIt ((wr.alloc (.cells #[.int .i64 q0, .int .i64 q1, .slice av nv cv] 67)).alloc (.cells #[.int .i64 q0, .int .i64 q1, .slice av' nv' cv'] 67))
      have HB0 : Hid (Below wr.heap.size wr w0) := by rw [← HW0.out]; exact ((Below.refl _ _).alloc (Nat.le_refl _) _).alloc (by simp) _
      have hcf := sameEditE l[i] _ _ w0 (hkid.below HB0.out) (hkid'.below HB0.out)
      have X1 : Hid (w0.heap[wr.heap.size]? = some (.cells #[.int .i64 q0, .int .i64 q1, .slice av nv cv] 67 (0, 0))) := by
        rw [← HW0.out]; exact bx_keep (bx_new _ _ _ rfl) ((Below.refl _ _).alloc (Nat.le_refl _) _)
      have X2 : Hid (w0.heap[wr.heap.size + 1]? = some (.cells #[.int .i64 q0, .int .i64 q1, .slice av' nv' cv'] 67 (0, 0))) := by
        rw [← HW0.out]; exact bx_new _ _ _ (by simp)
      rw [HQ0.out] at k0 j0 hcf
      rw [HQ1.out] at k1 j1 hcf
      have HCF := Lib.hid hcf
      obtain ⟨x0, x1, x2⟩ := bx_cells3 X1.out
      obtain ⟨y0, y1, y2⟩ := bx_cells3 X2.out
      have hne : ¬ b' = wr.heap.size := by omega
      subst hae hae'
      clear hcf hkid hkid'
      go_upto_region 7 with fail
      rw [HW0.out]
      go_wp2_with fail
      refine HCF.out.mono ?_
      rintro e w1 ⟨rfl, hb1⟩
      have HB1 : Hid (Below w.heap.size w w1) := by
        have h := HB.out.trans (HB0.out.mono HB.out.size)
        exact h.trans (hb1.mono h.size)
      clear hb1 k0 k1 k2 j0 j1 j2
      go_wp2_with fail
      go_roundg (n' - (i + 1))
      case measure => omega
      case rel => exact ⟨i + 1, by omega, by omega, by go_num, HB1⟩
    · have hlt' : ¬ (i : Int) < (n' : Int) := by omega
      go_wp2_with fail
      go_ret
      exact ⟨rfl, HB.out⟩

theorem lit_dist : distOf [1, 2, 3] [1, 4, 3, 5] = 3 ∧ bigErr [1, 2, 3] [1, 4, 3, 5] = 0 := by
  refine ⟨?_, by decide⟩
  simp [distOf, cAt, Cs.cs]
  try omega
theorem big_ok {l r : List Int} (h : ¬ (200 < l.length ∨ 200 < r.length)) : bigErr l r = 0 ∧ scrOf l r = scr l r ∧ distOf l r = cAt l r 0 0 := by
  simp only [bigErr, scrOf, distOf, if_neg h, and_self]
theorem big_no {l r : List Int} (h : 200 < l.length ∨ 200 < r.length) : bigErr l r = 2 ∧ scrOf l r = [] ∧ distOf l r = 0 := by
  simp only [bigErr, scrOf, distOf, if_pos h, and_self]
theorem runErr_ok {l : List Int} {es : List Ed} (h : runErr l es = 0) : okEds l.length (-1) es = true ∧ ranOf l es = back l es := by
  constructor
  · unfold runErr at h
    by_cases h1 : okEds l.length (-1) es = true
    · exact h1
    · rw [if_neg h1] at h; cases h
  · unfold ranOf; rw [if_pos h]
theorem ranOf_bad {l : List Int} {es : List Ed} (h : runErr l es ≠ 0) : ranOf l es = [] := by unfold ranOf; rw [if_neg h]
end Go.Proofs.Ytjehmleckcmilaa
