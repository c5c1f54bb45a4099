/- Shrinking of words, in plain Lean. -/
import Derived.Test.YtfbacnifankfkaaSlicesTwo
namespace Go.Proofs.Ytfbacnifankfkaa
open Go.RowKit (wrap64)

/-- the word without its element i -/
def del (l : List Int) (i : Nat) : List Int := l.take i ++ l.drop (i + 1)
theorem del_len (l : List Int) (i : Nat) (h : i < l.length) : (del l i).length + 1 = l.length := by
  unfold del; simp; omega

def shrunk (F : List Int → Bool) : Nat → List Int → List Int
  | 0, l => l
  | n + 1, l => match (List.range l.length).find? (fun i => F (del l i)) with
    | some i => shrunk F n (del l i)
    | none => l

theorem shrunk_hit {F : List Int → Bool} {n : Nat} {l : List Int} {i : Nat} (hi : i < l.length) (hF : F (del l i) = true) (hn : ∀ j, j < i → F (del l j) = false) : shrunk F (n + 1) l = shrunk F n (del l i) := by
  have h : (List.range l.length).find? (fun i => F (del l i)) = some i := by
    rw [List.find?_range_eq_some]
    exact ⟨hF, by simpa using hi, fun j hj => by simp [hn j hj]⟩
  rw [shrunk, h]

theorem shrunk_end {F : List Int → Bool} {n : Nat} {l : List Int} (hn : ∀ j, j < l.length → F (del l j) = false) : shrunk F n l = l := by
  cases n with
  | zero => rfl
  | succ n =>
    have h : (List.range l.length).find? (fun i => F (del l i)) = none := by
      rw [List.find?_range_eq_none]
      intro j hj; simp [hn j hj]
    rw [shrunk, h]

/-- the first smaller terminal at the place i -/
def lowAt (F : List Int → Bool) (l : List Int) (i : Nat) : Option Nat := (List.range (l.getD i 0).toNat).find? (fun s => F (l.set i s))
def lowOne (F : List Int → Bool) (l : List Int) : Option (List Int) :=
  match (List.range l.length).find? (fun i => (lowAt F l i).isSome) with
  | none => none
  | some i => (lowAt F l i).map fun (s : Nat) => l.set i (s : Int)
def lowered (F : List Int → Bool) : Nat → List Int → List Int
  | 0, l => l
  | n + 1, l => match lowOne F l with
    | some x => lowered F n x
    | none => l

theorem lowAt_none {F : List Int → Bool} {l : List Int} {i : Nat} (h : ∀ s : Nat, s < (l.getD i 0).toNat → F (l.set i s) = false) : lowAt F l i = none := by
  unfold lowAt
  rw [List.find?_range_eq_none]
  intro j hj; simp [h j hj]
theorem lowAt_some {F : List Int → Bool} {l : List Int} {i s : Nat} (hs : s < (l.getD i 0).toNat) (hF : F (l.set i s) = true) (h : ∀ t : Nat, t < s → F (l.set i t) = false) : lowAt F l i = some s := by
  unfold lowAt
  rw [List.find?_range_eq_some]
  exact ⟨hF, by simpa using hs, fun j hj => by simp [h j hj]⟩
theorem lowOne_some {F : List Int → Bool} {l : List Int} {i s : Nat} (hi : i < l.length) (hlt : ∀ j, j < i → lowAt F l j = none) (h : lowAt F l i = some s) : lowOne F l = some (l.set i s) := by
  have e : (List.range l.length).find? (fun i => (lowAt F l i).isSome) = some i := by
    rw [List.find?_range_eq_some]
    exact ⟨by simp [h], by simpa using hi, fun j hj => by simp [hlt j hj]⟩
  simp only [lowOne, e, h, Option.map_some]
theorem lowOne_none {F : List Int → Bool} {l : List Int} (hlt : ∀ j, j < l.length → lowAt F l j = none) : lowOne F l = none := by
  have e : (List.range l.length).find? (fun i => (lowAt F l i).isSome) = none := by
    rw [List.find?_range_eq_none]
    intro j hj; simp [hlt j hj]
  simp only [lowOne, e]

theorem lowered_some {F : List Int → Bool} {n : Nat} {l x : List Int} (h : lowOne F l = some x) : lowered F (n + 1) l = lowered F n x := by rw [lowered, h]
theorem lowered_none {F : List Int → Bool} {n : Nat} {l : List Int} (h : lowOne F l = none) : lowered F n l = l := by
  cases n with
  | zero => rfl
  | succ n => rw [lowered, h]

/-- the sum of the terminals -/
def sm (l : List Int) : Nat := (l.map Int.toNat).sum
theorem sm_set {l : List Int} {i s : Nat} (hi : i < l.length) (hs : s < (l.getD i 0).toNat) : sm (l.set i s) < sm l := by
  induction l generalizing i with
  | nil => simp at hi
  | cons x l ih =>
    cases i with
    | zero => simp [sm] at hs ⊢; omega
    | succ i =>
      have := ih (i := i) (by simpa using hi) (by simpa using hs)
      simp [sm] at this ⊢; omega
def small (l : List Int) : Prop := ∀ x ∈ l, 0 ≤ x ∧ x ≤ 7
theorem small_set {l : List Int} {i s : Nat} (hl : small l) (hi : i < l.length) (hs : s < (l.getD i 0).toNat) : small (l.set i s) := by
  intro x hx
  rcases List.mem_or_eq_of_mem_set hx with h | h
  · exact hl x h
  · have h1 : l.getD i 0 = l[i] := by simp [List.getD, hi]
    have := hl l[i] (List.getElem_mem hi)
    rw [h1] at hs
    omega
theorem sm_le {l : List Int} (hl : small l) : sm l ≤ 7 * l.length := by
  induction l with
  | nil => simp [sm]
  | cons x l ih =>
    have := ih fun y hy => hl y (List.mem_cons_of_mem _ hy)
    have := hl x List.mem_cons_self
    simp [sm] at *; omega
theorem lowOne_less {F : List Int → Bool} {l x : List Int} (hl : small l) (h : lowOne F l = some x) : sm x < sm l ∧ small x ∧ x.length = l.length := by
  unfold lowOne at h
  cases e : (List.range l.length).find? (fun i => (lowAt F l i).isSome) with
  | none => rw [e] at h; simp at h
  | some i =>
    rw [e] at h
    change (lowAt F l i).map _ = _ at h
    rw [List.find?_range_eq_some] at e
    have hi : i < l.length := by simpa using e.2.1
    cases e2 : lowAt F l i with
    | none => rw [e2] at h; simp at h
    | some s =>
      rw [e2] at h
      simp at h
      subst h
      unfold lowAt at e2
      rw [List.find?_range_eq_some] at e2
      have hs : s < (l.getD i 0).toNat := by simpa using e2.2.1
      exact ⟨sm_set hi hs, small_set hl hi hs, by simp⟩

/-- the condition of words of the law -/
def hardSum : Nat → Int → List Int → Int
  | _, n, [] => n
  | i, n, x :: l => hardSum (i + 1) (wrap64 (n + wrap64 (x * (1 + (i : Int) % 2)))) l
def hardF (a b : Int) (l : List Int) : Bool :=
  decide (0 < l.length) && ((wrap64 (hardSum 0 0 l + wrap64 (l.length * a))).tmod 3 == (b % 3 + 3) % 3)

end Go.Proofs.Ytfbacnifankfkaa
