/- The condition of words of the law ShrinkWords. -/
import Derived.Test.YtfbacnifankfkaaShrinkWalk
import Derived.Test.YtfbacnifankfkaaPreds
namespace Go.Proofs.Ytfbacnifankfkaa
open Go.RowKit

theorem hardSum_at (l : List Int) (n : Int) (i : Nat) (h : i < l.length) : hardSum i n (l.drop i) = hardSum (i + 1) (wrap64 (n + wrap64 (l[i] * (1 + (i : Int) % 2)))) (l.drop (i + 1)) := by
  rw [List.drop_eq_getElem_cons h, hardSum]

set_option maxHeartbeats 1000000 in
theorem hardC (b1 o1 b2 o2 : Nat) (x y : Int) (a : Option Addr) (cap : Nat) (l : List Int) (w : World) (hl : Sl w (.slice a l.length cap) (ints l)) (c1 : w.cell? ⟨b1, o1, none⟩ = some (.int .i64 x)) (c2 : w.cell? ⟨b2, o2, none⟩ = some (.int .i64 y))
    (x0 : 0 ≤ x) (x1 : x ≤ 7) (y0 : 0 ≤ y) (y1 : y ≤ 7) :
    Calls Try.prog 104 #[.slice a l.length cap, .pointer (some ⟨b1, o1, none⟩), .pointer (some ⟨b2, o2, none⟩)] w fun e w' => e = .returned (.bool (hardF x y l)) ∧ Below w.heap.size w w' := by
  have HL := Lib.hid hl
  have hc := hl.len.2
  unfold maxLen at hc
  obtain ⟨hc1, hc2⟩ := hc
  clear hl
  go_enter Try.func104, Try.ntmps104
  go_wp2
  go_loopg [5, 10] l.length (fun gg v5 v10 wr => ∃ (i : Nat) (n : Int), i ≤ l.length ∧ l.length - i ≤ gg ∧ v10 = .int .i64 i ∧ v5 = .int .i64 n ∧ wr = w ∧ Hid (hardSum i n (l.drop i) = hardSum 0 0 l))
  case atStart => exact ⟨0, 0, by omega, by omega, rfl, rfl, rfl, rfl⟩
  case round =>
    obtain ⟨i, n, hi, hg, rfl, rfl, rfl, HN⟩ := hrel
    by_cases hlt : i < l.length
    · have hlt' : (i : Int) < (l.length : Int) := by omega
      obtain ⟨ba, oa, hae, hca⟩ := HL.out.at hlt
      have c3 := hca i (by rw [ints_len]; exact hlt)
      rw [ints_get] at c3
      have HN2 := HN.out
      rw [hardSum_at l n i hlt] at HN2
      obtain ⟨z, HX⟩ := nameIt (l[i]'hlt)
      rw [HX.out] at c3 HN2
      have HN3 := Lib.hid HN2
      subst hae
      clear hca HN2 HN
      go_wp2
      go_roundg (l.length - (i + 1))
      case measure => omega
      case rel => exact ⟨i + 1, _, by omega, by omega, by go_num, rfl, rfl, HN3.out⟩
    · have hlt' : ¬ (i : Int) < (l.length : Int) := by omega
      have HE := HN.out
      rw [List.drop_of_length_le (by omega), hardSum] at HE
      have HE' := Lib.hid HE
      clear HE HN
      by_cases h0 : 0 < l.length
      · have h0' : decide (0 < (l.length : Int)) = true := by simpa using h0
        have h0'' : 0 < (l.length : Int) := by omega
        go_wp2
        go_ret
        exact ⟨by unfold hardF; rw [← HE'.out]; simp [h0], Below.refl _ _⟩
      · have h0' : decide (0 < (l.length : Int)) = false := by simpa using h0
        have h0'' : ¬ 0 < (l.length : Int) := by omega
        go_wp2
        go_ret
        exact ⟨by unfold hardF; simp [h0], Below.refl _ _⟩
end Go.Proofs.Ytfbacnifankfkaa
