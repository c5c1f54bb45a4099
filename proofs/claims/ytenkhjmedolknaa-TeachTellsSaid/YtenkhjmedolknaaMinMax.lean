/- slices.Min and Max of whole numbers. -/
import Derived.Test.YtenkhjmedolknaaSlices
import Derived.Deep.LoopGhost
import Derived.Lib.MinMax
namespace Go.Proofs.Ytenkhjmedolknaa
open Go.RowKit

def minI (l : List Int) (i : Nat) : Int := (l.take i).foldl min (l.headD 0)
def maxI (l : List Int) (i : Nat) : Int := (l.take i).foldl max (l.headD 0)
def minL (l : List Int) : Int := l.foldl min (l.headD 0)
def maxL (l : List Int) : Int := l.foldl max (l.headD 0)
theorem foldl_min_lt (c : Int) : ∀ (l : List Int) (a : Int), l.foldl min a < c ↔ a < c ∨ ∃ v ∈ l, v < c
  | [], a => by simp
  | x :: l, a => by
    rw [List.foldl_cons, foldl_min_lt c l]
    simp only [List.mem_cons, exists_eq_or_imp]
    constructor
    · rintro (h | h)
      · by_cases e : a < c
        · exact .inl e
        · exact .inr (.inl (by omega))
      · exact .inr (.inr h)
    · rintro (h | h | h)
      · exact .inl (by omega)
      · exact .inl (by omega)
      · exact .inr h
theorem foldl_max_le (c : Int) : ∀ (l : List Int) (a : Int), c ≤ l.foldl max a ↔ c ≤ a ∨ ∃ v ∈ l, c ≤ v
  | [], a => by simp
  | x :: l, a => by
    rw [List.foldl_cons, foldl_max_le c l]
    simp only [List.mem_cons, exists_eq_or_imp]
    constructor
    · rintro (h | h)
      · by_cases e : c ≤ a
        · exact .inl e
        · exact .inr (.inl (by omega))
      · exact .inr (.inr h)
    · rintro (h | h | h)
      · exact .inl (by omega)
      · exact .inl (by omega)
      · exact .inr h
theorem minL_lt {l : List Int} (h : 0 < l.length) (c : Int) : minL l < c ↔ ∃ v ∈ l, v < c := by
  cases l with
  | nil => simp at h
  | cons x l =>
    unfold minL
    rw [foldl_min_lt]
    simp
theorem maxL_le {l : List Int} (h : 0 < l.length) (c : Int) : c ≤ maxL l ↔ ∃ v ∈ l, c ≤ v := by
  cases l with
  | nil => simp at h
  | cons x l =>
    unfold maxL
    rw [foldl_max_le]
    simp
theorem minI_step {l : List Int} {i : Nat} (h : i < l.length) : minI l (i + 1) = min (minI l i) l[i] := by
  unfold minI
  rw [List.take_succ_eq_append_getElem h, List.foldl_append]
  rfl
theorem maxI_step {l : List Int} {i : Nat} (h : i < l.length) : maxI l (i + 1) = max (maxI l i) l[i] := by
  unfold maxI
  rw [List.take_succ_eq_append_getElem h, List.foldl_append]
  rfl
theorem minI_one {l : List Int} (h : 0 < l.length) : minI l 1 = l[0] := by
  cases l with
  | nil => simp at h
  | cons x l => simp [minI]
theorem maxI_one {l : List Int} (h : 0 < l.length) : maxI l 1 = l[0] := by
  cases l with
  | nil => simp at h
  | cons x l => simp [maxI]
theorem minI_all (l : List Int) : minI l l.length = minL l := by unfold minI minL; rw [List.take_length]
theorem maxI_all (l : List Int) : maxI l l.length = maxL l := by unfold maxI maxL; rw [List.take_length]

set_option maxHeartbeats 1000000 in
theorem minE (l : List Int) (h0 : 0 < l.length) (a : Option Addr) (cap : Nat) (w : World) (hl : Sl w (.slice a l.length cap) (ints l)) :
    Calls Try.prog 24 #[.slice a l.length cap] w fun e w' => e = .returned (.int .i64 (minL l)) ∧ w' = w := by
  have HL := Lib.hid hl
  have hc := hl.len.2
  unfold maxLen at hc
  obtain ⟨hc1, hc2⟩ := hc
  have HS := Lib.hid (fun (i : Nat) (h : i < l.length) => @minI_step l i h)
  have H1 := Lib.hid (minI_one h0)
  have HW := Lib.hid (minI_all l)
  obtain ⟨b, off, hae, hca⟩ := hl.at h0
  have c0 := hca 0 (by rw [ints_len]; exact h0)
  rw [ints_get, Nat.add_zero] at c0
  obtain ⟨v0, HV0⟩ := nameIt (l[0]'h0)
  rw [HV0.out] at c0 H1
  have HCA := Lib.hid hca
  obtain ⟨R, HR⟩ := nameIt (minL l)
  rw [HR.out] at HW ⊢
  subst hae
  have h1 : (0 : Int) < (l.length : Int) := by omega
  have h2 : ¬ (l.length : Int) < 1 := by omega
  clear hl hca
  go_enter Try.func24, Try.ntmps24
  go_wp2_with fail
  go_loopg [3, 4] l.length (fun gg v3 v4 wr => ∃ i : Nat, 1 ≤ i ∧ i ≤ l.length ∧ l.length - i ≤ gg ∧ v3 = .int .i64 (minI l i) ∧ v4 = .int .i64 i ∧ wr = w)
  case atStart => exact ⟨1, by omega, by omega, by omega, by rw [H1.out], rfl, rfl⟩
  case round =>
    obtain ⟨i, hi1, hi, hg, rfl, rfl, rfl⟩ := hrel
    by_cases hlt : i < l.length
    · have hlt' : (i : Int) < (l.length : Int) := by omega
      have hi0 : (0 : Int) ≤ (i : Int) := by omega
      have c1 := HCA.out i (by rw [ints_len]; exact hlt)
      rw [ints_get] at c1
      have HN := Lib.hid (HS.out i hlt)
      obtain ⟨y, HY⟩ := nameIt (l[i]'hlt)
      rw [HY.out] at c1 HN
      obtain ⟨m, HM⟩ := nameIt (minI l i)
      rw [HM.out] at HN ⊢
      have HMM : min m y = minI l (i + 1) := HN.out.symm
      obtain ⟨m2, HM2⟩ := nameIt (minI l (i + 1))
      rw [HM2.out] at HMM
      go_wp2_with fail
      go_roundg (l.length - (i + 1))
      case measure => omega
      case rel => exact ⟨i + 1, by omega, by omega, by omega, by rw [HM2.out, ← HMM], by go_num, rfl⟩
    · obtain rfl : i = l.length := by omega
      have hlt' : ¬ (l.length : Int) < (l.length : Int) := by omega
      rw [HW.out]
      go_wp2_with fail
      go_ret
      exact ⟨rfl, rfl⟩

set_option maxHeartbeats 1000000 in
theorem maxE (l : List Int) (h0 : 0 < l.length) (a : Option Addr) (cap : Nat) (w : World) (hl : Sl w (.slice a l.length cap) (ints l)) :
    Calls Try.prog 25 #[.slice a l.length cap] w fun e w' => e = .returned (.int .i64 (maxL l)) ∧ w' = w := by
  have HL := Lib.hid hl
  have hc := hl.len.2
  unfold maxLen at hc
  obtain ⟨hc1, hc2⟩ := hc
  have HS := Lib.hid (fun (i : Nat) (h : i < l.length) => @maxI_step l i h)
  have H1 := Lib.hid (maxI_one h0)
  have HW := Lib.hid (maxI_all l)
  obtain ⟨b, off, hae, hca⟩ := hl.at h0
  have c0 := hca 0 (by rw [ints_len]; exact h0)
  rw [ints_get, Nat.add_zero] at c0
  obtain ⟨v0, HV0⟩ := nameIt (l[0]'h0)
  rw [HV0.out] at c0 H1
  have HCA := Lib.hid hca
  obtain ⟨R, HR⟩ := nameIt (maxL l)
  rw [HR.out] at HW ⊢
  subst hae
  have h1 : (0 : Int) < (l.length : Int) := by omega
  have h2 : ¬ (l.length : Int) < 1 := by omega
  clear hl hca
  go_enter Try.func25, Try.ntmps25
  go_wp2_with fail
  go_loopg [3, 4] l.length (fun gg v3 v4 wr => ∃ i : Nat, 1 ≤ i ∧ i ≤ l.length ∧ l.length - i ≤ gg ∧ v3 = .int .i64 (maxI l i) ∧ v4 = .int .i64 i ∧ wr = w)
  case atStart => exact ⟨1, by omega, by omega, by omega, by rw [H1.out], rfl, rfl⟩
  case round =>
    obtain ⟨i, hi1, hi, hg, rfl, rfl, rfl⟩ := hrel
    by_cases hlt : i < l.length
    · have hlt' : (i : Int) < (l.length : Int) := by omega
      have hi0 : (0 : Int) ≤ (i : Int) := by omega
      have c1 := HCA.out i (by rw [ints_len]; exact hlt)
      rw [ints_get] at c1
      have HN := Lib.hid (HS.out i hlt)
      obtain ⟨y, HY⟩ := nameIt (l[i]'hlt)
      rw [HY.out] at c1 HN
      obtain ⟨m, HM⟩ := nameIt (maxI l i)
      rw [HM.out] at HN ⊢
      have HMM : max m y = maxI l (i + 1) := HN.out.symm
      obtain ⟨m2, HM2⟩ := nameIt (maxI l (i + 1))
      rw [HM2.out] at HMM
      go_wp2_with fail
      go_roundg (l.length - (i + 1))
      case measure => omega
      case rel => exact ⟨i + 1, by omega, by omega, by omega, by rw [HM2.out, ← HMM], by go_num, rfl⟩
    · obtain rfl : i = l.length := by omega
      have hlt' : ¬ (l.length : Int) < (l.length : Int) := by omega
      rw [HW.out]
      go_wp2_with fail
      go_ret
      exact ⟨rfl, rfl⟩
end Go.Proofs.Ytenkhjmedolknaa
