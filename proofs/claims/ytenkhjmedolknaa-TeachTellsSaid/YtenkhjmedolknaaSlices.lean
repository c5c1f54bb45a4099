/- Contracts of the library's generic functions over slices of ints: Equal, Delete. -/
import Derived.Test.YtenkhjmedolknaaRows
import Derived.Test.YtenkhjmedolknaaLibTwo
namespace Go.Proofs.Ytenkhjmedolknaa
open Go.RowKit

def ints (l : List Int) : List Value := l.map (Value.int .i64)
theorem ints_len (l : List Int) : (ints l).length = l.length := by simp [ints]
theorem ints_get (l : List Int) (i : Nat) (h : i < (ints l).length) : (ints l)[i] = .int .i64 (l[i]'(by simpa [ints] using h)) := by simp [ints]
theorem ints_append (a b : List Int) : ints (a ++ b) = ints a ++ ints b := by simp [ints]

theorem elInt : ElemT Try.prog 22 3 1 8 := ElemT.mk' (z := .int .i64 0) Try.underlying22 (by kernel_rfl) rfl (by decide)

set_option maxHeartbeats 400000 in
theorem equal_ne (a a' : Option Addr) (n n' cap cap' : Nat) (w : World) (h : n ≠ n') (hn : n ≤ maxLen) (hn' : n' ≤ maxLen) :
    Calls Try.prog 15 #[.slice a n cap, .slice a' n' cap'] w fun e w' => e = .returned (.bool false) ∧ w = w' := by
  unfold maxLen at hn hn'
  have hb : ((n : Int) != (n' : Int)) = true := by rw [bne_iff_ne]; omega
  go_enter Try.func15, Try.ntmps15
  go_wp2
  go_ret
  exact ⟨rfl, rfl⟩

set_option maxHeartbeats 400000 in
theorem equal_eq (a a' : Option Addr) (cap cap' : Nat) (x y : List Int) (w : World) (hl : x.length = y.length) (hx : Sl w (.slice a x.length cap) (ints x)) (hy : Sl w (.slice a' x.length cap') (ints y)) :
    Calls Try.prog 15 #[.slice a x.length cap, .slice a' x.length cap'] w fun e w' => e = .returned (.bool (x == y)) ∧ Below w.heap.size w w' := by
  have HX := Lib.hid hx
  have HY := Lib.hid hy
  have hm := (hx.len).2
  have HL := Lib.hid hl
  clear hx hy hl
  unfold maxLen at hm
  obtain ⟨hm1, hm2⟩ := hm
  have hb : ((x.length : Int) != (x.length : Int)) = false := by simp
  go_enter Try.func15, Try.ntmps15
  go_wp2
  go_loopw [13] (fun t wr => ∃ k : Nat, k ≤ x.length ∧ t = .int .i64 k ∧ Hid (x.take k = y.take k) ∧ Hid (Below w.heap.size w wr)) (fun t _ => x.length - (intOf t).toNat)
  case atStart => exact ⟨0, by omega, rfl, rfl, Below.refl _ _⟩
  case round =>
    obtain ⟨k, hk, rfl, HT, HB⟩ := hrel
    by_cases hlt : k < x.length
    · obtain ⟨b, off, rfl, hc⟩ := (HX.out.keep HB.out).at hlt
      obtain ⟨b', off', rfl, hc'⟩ := (HY.out.keep HB.out).at hlt
      have hcell := hc k (by rw [ints_len]; exact hlt)
      have hcell' := hc' k (by rw [ints_len, ← HL.out]; exact hlt)
      rw [ints_get] at hcell hcell'
      clear hc hc'
      have h1 : (k : Int) < (x.length : Int) := by omega
      have HS : Hid (∀ p q, x[k] = p → y[k]'(by rw [← HL.out]; exact hlt) = q → (p = q → x.take (k + 1) = y.take (k + 1)) ∧ (p ≠ q → (x == y) = false)) := by
        intro p q hp hq
        constructor
        · intro e
          rw [List.take_succ_eq_append_getElem hlt, List.take_succ_eq_append_getElem (by rw [← HL.out]; exact hlt), HT.out, hp, hq, e]
        · intro e
          rw [beq_eq_false_iff_ne]
          intro exy
          subst exy
          exact e (hp.symm.trans hq)
      generalize hp : x[k] = p at *
      generalize hq : y[k]'(by rw [← HL.out]; exact hlt) = q at *
      have HS2 := Lib.hid (HS.out p q rfl rfl)
      clear HS hp hq
      by_cases hpq : p = q
      · subst hpq
        have hne : (p != p) = false := by simp
        have HE := Lib.hid (HS2.out.1 rfl)
        clear HS2
        go_wp2
        go_quiet (fail)
        go_wp2
        exact ⟨⟨k + 1, by omega, by go_num, HE.out, HB.out.trans ((below_drewN wr _).mono HB.out.size)⟩, by simp [intOf]; omega⟩
      · have hne : (p != q) = true := by rw [bne_iff_ne]; exact hpq
        have HE := Lib.hid (HS2.out.2 hpq)
        have HPQ := Lib.hid hpq
        clear HS2 hpq
        go_wp2
        go_quiet (fail)
        go_wp2
        go_ret
        rw [HE.out]
        exact ⟨rfl, HB.out.trans ((below_drewN wr _).mono HB.out.size)⟩
    · have HE : Hid ((x == y) = true) := by
        show _ = _
        have := HT.out
        rw [List.take_of_length_le (by omega), List.take_of_length_le (by have := HL.out; omega)] at this
        rw [this]; simp
      go_wp2
      go_ret
      rw [HE.out]
      exact ⟨rfl, HB.out⟩

/-- slices.Equal at []int -/
theorem equal (v v' : Value) (x y : List Int) (w : World) (hx : Sl w v (ints x)) (hy : Sl w v' (ints y)) :
    Calls Try.prog 15 #[v, v'] w fun e w' => e = .returned (.bool (x == y)) ∧ Below w.heap.size w w' := by
  obtain ⟨a, cap, rfl⟩ := hx.form
  obtain ⟨a', cap', rfl⟩ := hy.form
  rw [ints_len] at hx hy ⊢
  rw [ints_len]
  by_cases h : x.length = y.length
  · rw [← h] at hy ⊢
    exact equal_eq a a' cap cap' x y w h hx hy
  · refine (equal_ne a a' _ _ cap cap' w h ?_ ?_).mono ?_
    · exact Nat.le_trans hx.len.2.1 hx.len.2.2
    · exact Nat.le_trans hy.len.2.1 hy.len.2.2
    · rintro e w' ⟨rfl, rfl⟩
      have : (x == y) = false := by rw [beq_eq_false_iff_ne]; intro e; exact h (by rw [e])
      rw [this]
      exact ⟨rfl, Below.refl _ _⟩

end Go.Proofs.Ytenkhjmedolknaa
