/- slices.Equal over equal rows of truth values; the lengths of parllaw5.plain. -/
import Derived.Test.YtjehmleckcmilaaLensSet
import Derived.Test.YtjehmleckcmilaaPlain
namespace Go.Proofs.Ytjehmleckcmilaa
open Go.RowKit
namespace Ln

theorem bls_len (l : List Bool) : (bls l).length = l.length := by simp [bls]
theorem bls_get (l : List Bool) (i : Nat) (h : i < (bls l).length) : (bls l)[i] = .bool (l[i]'(by simpa [bls] using h)) := by simp [bls]
set_option maxHeartbeats 1000000 in
set_option maxRecDepth 100000 in
theorem equalB (l : List Bool) (v v' : Value) (w : World) (hl : Sl w v (bls l)) (hm : Sl w v' (bls l)) :
    Calls Try.prog 43 #[v, v'] w fun e w' => e = .returned (.bool true) ∧ Below w.heap.size w w' := by
  obtain ⟨a, cap, rfl⟩ := hl.form
  obtain ⟨a', cap', rfl⟩ := hm.form
  have HL := Lib.hid hl
  have HM := Lib.hid hm
  have h1 := hl.len.2
  have h2 := hm.len.2
  unfold maxLen at h1 h2
  obtain ⟨h11, h12⟩ := h1
  obtain ⟨h21, h22⟩ := h2
  rw [bls_len] at HL HM h11 h21
  rw [bls_len]
  obtain ⟨n, HN⟩ := nameIt l.length
  rw [HN.out] at HL HM h11 h21
  rw [HN.out]
  have hnb : ((n : Int) != (n : Int)) = false := by simp
  clear hl hm
  go_enter Try.func43, Try.ntmps43
  go_wp2_with fail
  go_loopg [13] n (fun gg v13 wr => ∃ i : Nat, i ≤ n ∧ n - i ≤ gg ∧ v13 = .int .i64 i ∧ Hid (Below w.heap.size w wr))
  case atStart => exact ⟨0, by omega, by omega, rfl, Below.refl _ _⟩
  case round =>
    obtain ⟨i, hi, hg, rfl, HB⟩ := hrel
    by_cases hlt : i < n
    · have hlt' : (i : Int) < (n : Int) := by omega
      have hi0 : (0 : Int) ≤ (i : Int) := by omega
      have hil : i < l.length := by rw [HN.out]; exact hlt
      obtain ⟨b, off, he, hc⟩ := (HL.out.keep HB.out).at hlt
      obtain ⟨b', off', he', hc'⟩ := (HM.out.keep HB.out).at hlt
      have e0 := hc i (by rw [bls_len]; exact hil)
      have e1 := hc' i (by rw [bls_len]; exact hil)
      rw [bls_get] at e0 e1
      obtain ⟨x, HX⟩ := nameIt (l[i]'hil)
      rw [HX.out] at e0 e1
      have hne : (x != x) = false := by simp
      subst he he'
      clear hc hc'
      go_wp2_with fail
      go_quiet (fail)
      go_wp2_with fail
      go_roundg (n - (i + 1))
      case measure => omega
      case rel => exact ⟨i + 1, by omega, by omega, by go_num, HB.out.trans ((below_drewN _ _).mono HB.out.size)⟩
    · have hlt' : ¬ (i : Int) < (n : Int) := by omega
      go_wp2_with fail
      go_ret
      exact ⟨rfl, HB.out⟩
theorem plain_pos {i d l : Nat} (h : It plG.rules i d l) : 1 ≤ d → 1 ≤ l := by
  induction h with
  | start => omega
  | term => intro _; omega
  | @non i d l j k s h1 hs ht h2 he ih1 ih2 =>
    intro _
    by_cases hd : 1 ≤ d
    · have := ih1 hd; omega
    · have hi := h1.lt
      obtain rfl : d = 0 := by omega
      have hi2 : i = 0 ∨ i = 1 := by simp [plG] at hi; omega
      exfalso
      rcases hi2 with rfl | rfl
      · simp [rt, plG] at hs
        subst hs; cases ht
      · simp [rt, plG] at hs
        subst hs; cases ht
theorem plain_lens : lensL plG.rules 1 0 = [false, true] := by
  have h0 : ¬ Has plG.rules 0 0 := by
    rintro ⟨j, h1, _⟩
    have hj := h1.lt
    have h2 := plain_pos h1
    have hj2 : j = 0 ∨ j = 1 := by simp [plG] at hj; omega
    rcases hj2 with rfl | rfl
    · have := h2 (by simp [rt, plG]); omega
    · have := h2 (by simp [rt, plG]); omega
  have h1 : Has plG.rules 0 1 := by
    refine ⟨0, ?_, by simp [lft, plG]⟩
    have : (rt plG.rules 0).length = 0 + 1 := by simp [rt, plG]
    rw [this]
    exact .term (s := ⟨true, 0⟩) (.start (by simp [plG])) (by simp [rt, plG]) rfl
  unfold lensL
  simp [List.range_succ, h0, h1]
end Ln
end Go.Proofs.Ytjehmleckcmilaa
