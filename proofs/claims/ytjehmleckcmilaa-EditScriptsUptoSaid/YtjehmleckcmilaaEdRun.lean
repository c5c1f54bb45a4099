/- Edits that refer to the same word: the plain law. -/
import Derived.Test.YtjehmleckcmilaaEdList
import Derived.Test.YtjehmleckcmilaaEditApply
namespace Go.Proofs.Ytjehmleckcmilaa
open Go.RowKit

/-- the edits lie one behind the other within n elements, and behind last -/
def okEds (n : Int) : Int → List Ed → Bool
  | _, [] => true
  | last, e :: es => decide (last < e.f) && decide (e.f ≤ e.t) && decide (e.t ≤ n) && okEds n e.t es
/-- the word behind them, from the last edit to the first -/
def back (w : List Int) (es : List Ed) : List Int := es.foldr (fun e acc => edited acc e.f.toNat e.t.toNat e.new) w
/-- the word behind them from place p on, from the first edit to the last -/
def ranAt (w : List Int) : Nat → List Ed → List Int
  | p, [] => w.drop p
  | p, e :: es => (w.drop p).take (e.f.toNat - p) ++ (e.new ++ ranAt w e.t.toNat es)

theorem back_ran (w : List Int) : ∀ (es : List Ed) (last : Int) (p : Nat), okEds w.length last es = true → (p : Int) ≤ last + 1 → p ≤ w.length → back w es = w.take p ++ ranAt w p es
  | [], last, p, _, _, hp => by simp [back, ranAt]
  | e :: es, last, p, h, hp, hq => by
    simp [okEds] at h
    obtain ⟨⟨⟨h1, h2⟩, h3⟩, h4⟩ := h
    have ih := back_ran w es e.t e.t.toNat h4 (by omega) (by omega)
    have hb : back w (e :: es) = edited (back w es) e.f.toNat e.t.toNat e.new := rfl
    rw [hb, ih, ranAt]
    have e1 : (w.take e.t.toNat ++ ranAt w e.t.toNat es).take e.f.toNat = w.take e.f.toNat := by
      rw [List.take_append_of_le_length (by simp; omega), List.take_take]
      congr 1; omega
    have e2 : (w.take e.t.toNat ++ ranAt w e.t.toNat es).drop e.t.toNat = ranAt w e.t.toNat es := by
      rw [List.drop_append_of_le_length (by simp; omega), List.drop_eq_nil_of_le (by simp; omega), List.nil_append]
    have e3 : w.take e.f.toNat = w.take p ++ (w.drop p).take (e.f.toNat - p) := by
      have : e.f.toNat = p + (e.f.toNat - p) := by omega
      conv => lhs; rw [this]
      exact List.take_add
    unfold edited
    rw [e1, e2, e3]
    simp
theorem back_len {w : List Int} {es : List Ed} {t : Int} (h : okEds w.length t es = true) (h0 : 0 ≤ t) (ht : t ≤ w.length) : t.toNat ≤ (back w es).length := by
  rw [back_ran w es t t.toNat h (by omega) (by omega)]
  simp; omega
def newSum (es : List Ed) : Nat := (es.map fun e => e.new.length).sum
theorem back_bound (w : List Int) (n : Int) : ∀ (es : List Ed) (last : Int), okEds n last es = true → (back w es).length ≤ w.length + newSum es
  | [], _, _ => by simp [back, newSum]
  | e :: es, last, h => by
    simp [okEds] at h
    obtain ⟨⟨⟨h1, h2⟩, h3⟩, h4⟩ := h
    have ih := back_bound w n es e.t h4
    have hb : back w (e :: es) = edited (back w es) e.f.toNat e.t.toNat e.new := rfl
    rw [hb]
    have e1 : newSum (e :: es) = e.new.length + newSum es := by simp [newSum]
    rw [e1]
    simp [edited]
    omega
theorem newSum_drop (es : List Ed) (i : Nat) : newSum (es.drop i) ≤ newSum es := by
  induction es generalizing i with
  | nil => simp
  | cons e es ih =>
    cases i with
    | zero => simp
    | succ i => simp only [List.drop_succ_cons]; have := ih i; simp only [newSum, List.map_cons, List.sum_cons] at this ⊢; omega
theorem newSum_mem {es : List Ed} {i : Nat} (hi : i < es.length) : es[i].new.length ≤ newSum es := by
  have h := newSum_drop es i
  rw [List.drop_eq_getElem_cons hi] at h
  simp only [newSum, List.map_cons, List.sum_cons] at h ⊢
  omega
theorem okEds_at {n : Int} : ∀ {es : List Ed} {last : Int} {i : Nat}, okEds n last es = true → (hi : i < es.length) → last < es[i].f ∧ es[i].f ≤ es[i].t ∧ es[i].t ≤ n ∧ okEds n es[i].t (es.drop (i + 1)) = true
  | [], _, _, _, hi => by simp at hi
  | e :: es, last, 0, h, _ => by
    simp [okEds] at h
    obtain ⟨⟨⟨h1, h2⟩, h3⟩, h4⟩ := h
    exact ⟨h1, h2, h3, h4⟩
  | e :: es, last, i + 1, h, hi => by
    simp [okEds] at h
    obtain ⟨⟨⟨h1, h2⟩, h3⟩, h4⟩ := h
    have ih := okEds_at (i := i) h4 (by simpa using hi)
    simp
    exact ⟨by omega, ih.2.1, ih.2.2.1, ih.2.2.2⟩
theorem back_drop (w : List Int) {es : List Ed} {i : Nat} (hi : i < es.length) : back w (es.drop i) = edited (back w (es.drop (i + 1))) es[i].f.toNat es[i].t.toNat es[i].new := by
  rw [List.drop_eq_getElem_cons hi]
  rfl
/-- one step of the check -/
theorem okEds_step (n last : Int) {es : List Ed} {i : Nat} (hi : i < es.length) : okEds n last (es.drop i) = (decide (last < es[i].f) && decide (es[i].f ≤ es[i].t) && decide (es[i].t ≤ n) && okEds n es[i].t (es.drop (i + 1))) := by
  rw [List.drop_eq_getElem_cons hi]
  rfl
def runErr (l : List Int) (es : List Ed) : Int := if okEds l.length (-1) es = true then (if 2000 < (back l es).length then 2 else 0) else 1
def ranOf (l : List Int) (es : List Ed) : List Int := if runErr l es = 0 then back l es else []
end Go.Proofs.Ytjehmleckcmilaa
