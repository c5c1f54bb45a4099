/- The contracts of cmp.Compare, cmp.Or, slices.Compare of whole numbers. -/
import Derived.Test.YthkdeljlhplkgaaSlicesTwo
import Derived.Deep.LoopGhost
import Derived.Deep.Cut
import Derived.Shelf.Abstract
namespace Go.Proofs.Ythkdeljlhplkgaa
open Go.RowKit

def cmp3 (a b : Int) : Int := if a < b then -1 else if b < a then 1 else 0
theorem cmp3_self (a : Int) : cmp3 a a = 0 := by simp [cmp3]
theorem cmp3_zero {a b : Int} (h : cmp3 a b = 0) : a = b := by
  unfold cmp3 at h
  by_cases h1 : a < b
  · simp [h1] at h
  · by_cases h2 : b < a
    · simp [h1, h2] at h
    · omega
def cmpL : List Int → List Int → Int
  | [], [] => 0
  | [], _ :: _ => -1
  | _ :: _, [] => 1
  | x :: l, y :: m => if cmp3 x y = 0 then cmpL l m else cmp3 x y
def orL : List Int → Int
  | [] => 0
  | x :: l => if x = 0 then orL l else x

theorem cmpL_at {l m : List Int} {i : Nat} (h : i < l.length) (h2 : i < m.length) : cmpL (l.drop i) (m.drop i) = if cmp3 l[i] m[i] = 0 then cmpL (l.drop (i + 1)) (m.drop (i + 1)) else cmp3 l[i] m[i] := by
  rw [List.drop_eq_getElem_cons h, List.drop_eq_getElem_cons h2, cmpL]
theorem cmpL_long {l m : List Int} {i : Nat} (h : i < l.length) (h2 : m.length ≤ i) : cmpL (l.drop i) (m.drop i) = 1 := by
  rw [List.drop_eq_getElem_cons h, List.drop_of_length_le h2, cmpL]
theorem cmpL_short {l m : List Int} {i : Nat} (h : l.length ≤ i) (h2 : i < m.length) : cmpL (l.drop i) (m.drop i) = -1 := by
  rw [List.drop_eq_getElem_cons h2, List.drop_of_length_le h, cmpL]
theorem cmpL_end {l m : List Int} {i : Nat} (h : l.length ≤ i) (h2 : m.length ≤ i) : cmpL (l.drop i) (m.drop i) = 0 := by
  rw [List.drop_of_length_le h2, List.drop_of_length_le h, cmpL]

set_option maxHeartbeats 400000 in
theorem isNaN (x : Int) (w : World) : Calls Try.prog 26 #[.int .i64 x] w fun e w' => e = .returned (.bool false) ∧ w = w' := by
  have h : (x != x) = false := by simp
  go_enter Try.func26, Try.ntmps26
  go_wp2
  go_ret
  exact ⟨rfl, rfl⟩

set_option maxHeartbeats 400000 in
theorem compareInt (x y : Int) (w : World) : Calls Try.prog 17 #[.int .i64 x, .int .i64 y] w fun e w' => e = .returned (.int .i64 (cmp3 x y)) ∧ w = w' := by
  obtain ⟨c, HC⟩ := nameIt (cmp3 x y)
  have hc : (x < y ∧ c = -1) ∨ (¬ x < y ∧ y < x ∧ c = 1) ∨ (¬ x < y ∧ ¬ y < x ∧ c = 0) := by
    have := HC.out
    unfold cmp3 at this
    split at this
    · exact .inl ⟨by assumption, this.symm⟩
    · split at this
      · exact .inr (.inl ⟨by assumption, by assumption, this.symm⟩)
      · exact .inr (.inr ⟨by assumption, by assumption, this.symm⟩)
  rw [HC.out]
  rcases hc with ⟨h1, rfl⟩ | ⟨h1, h2, rfl⟩ | ⟨h1, h2, rfl⟩
  all_goals
    go_enter Try.func17, Try.ntmps17
    go_wp2_with (go_at_call 26; (with_reducible refine (isNaN _ _).mono ?_); rintro e w' ⟨rfl, rfl⟩)
    go_ret
    exact ⟨rfl, rfl⟩

set_option maxHeartbeats 1000000 in
theorem orInt (v : Value) (l : List Int) (w : World) (hl : Sl w v (ints l)) :
    Calls Try.prog 16 #[v] w fun e w' => e = .returned (.int .i64 (orL l)) ∧ w = w' := by
  obtain ⟨a, cap, rfl⟩ := hl.form
  rw [ints_len] at hl
  rw [ints_len]
  have hc := hl.len.2
  unfold maxLen at hc
  obtain ⟨hc1, hc2⟩ := hc
  have HL := Lib.hid hl
  clear hl
  go_enter Try.func16, Try.ntmps16
  go_wp2
  go_loopg [8] l.length (fun gg v8 wr => ∃ i : Nat, i ≤ l.length ∧ l.length - i ≤ gg ∧ v8 = .int .i64 i ∧ wr = w ∧ Hid (orL (l.drop i) = orL l))
  case atStart => exact ⟨0, by omega, by omega, rfl, rfl, rfl⟩
  case round =>
    obtain ⟨i, hi, hg, rfl, rfl, HE⟩ := hrel
    by_cases hlt : i < l.length
    · have hlt' : (i : Int) < (l.length : Int) := by omega
      obtain ⟨ba, oa, hae, hca⟩ := HL.out.at hlt
      have c1 := hca i (by rw [ints_len]; exact hlt)
      rw [ints_get] at c1
      have h1 := HE.out
      rw [List.drop_eq_getElem_cons hlt, orL] at h1
      obtain ⟨x, HX⟩ := nameIt (l[i]'hlt)
      rw [HX.out] at c1 h1
      have H1 := Lib.hid h1
      subst hae
      clear hca h1
      by_cases h0 : x = 0
      · subst h0
        have h2 := H1.out
        rw [if_pos rfl] at h2
        have HE2 := Lib.hid h2
        clear h2
        go_wp2
        go_roundg (l.length - (i + 1))
        case measure => omega
        case rel => exact ⟨i + 1, by omega, by omega, by go_num, rfl, HE2⟩
      · have h2 := H1.out
        rw [if_neg h0] at h2
        have HE2 := Lib.hid h2
        have hcb : (x != 0) = true := by simpa using h0
        clear h2 h0
        go_wp2
        go_ret
        exact ⟨by rw [← HE2.out]; rfl, rfl⟩
    · have hlt' : ¬ (i : Int) < (l.length : Int) := by omega
      have HE2 : Hid (orL l = 0) := by show _ = _; rw [← HE.out, List.drop_of_length_le (by omega), orL]
      go_wp2
      go_ret
      exact ⟨by rw [HE2.out]; rfl, rfl⟩
end Go.Proofs.Ythkdeljlhplkgaa
