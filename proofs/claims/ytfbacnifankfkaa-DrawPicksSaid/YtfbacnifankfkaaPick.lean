/- Plain functions: which weight is chosen; its laws. -/
import Derived.Test.YtfbacnifankfkaaDraw
namespace Go.Proofs.Ytfbacnifankfkaa.Draw

def badW (x : Int) : Bool := decide (x < 0) || decide (1000000 < x)
/-- the index of the weight into which the number x falls -/
def idx : List Int → Int → Nat
  | [], _ => 0
  | w :: ws, x => if x < w then 0 else idx ws (x - w) + 1
def sum (ws : List Int) : Int := ws.foldl (· + ·) 0

theorem sum_snoc (ws : List Int) (w : Int) : sum (ws ++ [w]) = sum ws + w := by simp [sum, List.foldl_append]
theorem foldl_add (ws : List Int) (a : Int) : ws.foldl (· + ·) a = a + ws.foldl (· + ·) 0 := by
  induction ws generalizing a with
  | nil => simp
  | cons w ws ih => rw [List.foldl_cons, List.foldl_cons, ih, ih (0 + w)]; omega
theorem sum_cons (w : Int) (ws : List Int) : sum (w :: ws) = w + sum ws := by
  unfold sum; rw [List.foldl_cons, foldl_add]; omega
theorem sum_append (a b : List Int) : sum (a ++ b) = sum a + sum b := by
  unfold sum; rw [List.foldl_append, foldl_add]

theorem sum_nonneg {ws : List Int} (h : ∀ x ∈ ws, badW x = false) : 0 ≤ sum ws ∧ sum ws ≤ 1000000 * ws.length := by
  induction ws with
  | nil => simp [sum]
  | cons w ws ih =>
    rw [sum_cons]
    have h1 := ih (fun x hx => h x (by simp [hx]))
    have h2 := h w (by simp)
    simp [badW] at h2
    simp only [List.length_cons]
    omega

/-- the search for the index, step by step -/
theorem idx_of {ws : List Int} {i : Nat} (hi : i < ws.length) {x : Int} (h0 : ∀ j, j < i → sum (ws.take (j + 1)) ≤ x) (h1 : x < sum (ws.take (i + 1))) : idx ws x = i := by
  induction ws generalizing i x with
  | nil => simp at hi
  | cons w ws ih =>
    unfold idx
    cases i with
    | zero =>
      simp [sum_cons, sum] at h1
      rw [if_pos h1]
    | succ i =>
      have h2 := h0 0 (by omega)
      simp [sum_cons, sum] at h2
      rw [if_neg (by omega), ih (i := i) (by simpa using hi)]
      · intro j hj
        have h3 := h0 (j + 1) (by omega)
        rw [List.take_succ_cons, sum_cons] at h3
        omega
      · rw [List.take_succ_cons, sum_cons] at h1
        omega

/-- each index as often as its weight says -/
def marks : Nat → List Int → List Int
  | _, [] => []
  | k, w :: ws => List.replicate w.toNat (k : Int) ++ marks (k + 1) ws

theorem marks_append (k : Nat) (a b : List Int) : marks k (a ++ b) = marks k a ++ marks (k + a.length) b := by
  induction a generalizing k with
  | nil => simp [marks]
  | cons w ws ih => simp [marks, ih, Nat.add_assoc, Nat.add_comm 1]

theorem marks_length {k : Nat} {ws : List Int} (h : ∀ x ∈ ws, badW x = false) : ((marks k ws).length : Int) = sum ws := by
  induction ws generalizing k with
  | nil => simp [marks, sum]
  | cons w ws ih =>
    have h1 := ih (k := k + 1) (fun x hx => h x (by simp [hx]))
    have h2 := h w (by simp)
    simp [badW] at h2
    rw [sum_cons, marks, List.length_append, List.length_replicate]
    omega

theorem marks_get {k : Nat} {ws : List Int} (h : ∀ x ∈ ws, badW x = false) {y : Nat} (hy : (y : Int) < sum ws) : (marks k ws)[y]? = some ((k + idx ws y : Nat) : Int) := by
  induction ws generalizing k y with
  | nil => simp [sum] at hy; omega
  | cons w ws ih =>
    have h2 := h w (by simp)
    simp [badW] at h2
    rw [sum_cons] at hy
    unfold marks idx
    by_cases hlt : (y : Int) < w
    · rw [if_pos hlt, List.getElem?_append_left (by simp; omega), List.getElem?_replicate, if_pos (by omega)]; rfl
    · rw [if_neg hlt, List.getElem?_append_right (by simp; omega), List.length_replicate]
      have h3 := ih (k := k + 1) (y := y - w.toNat) (fun x hx => h x (by simp [hx])) (by omega)
      rw [h3]
      have : ((y - w.toNat : Nat) : Int) = (y : Int) - w := by omega
      rw [this]
      congr 2; omega
theorem marks_le {k : Nat} {ws : List Int} (h : ∀ x ∈ ws, 0 ≤ x ∧ x ≤ 5000) : (marks k ws).length ≤ 5000 * ws.length := by
  induction ws generalizing k with
  | nil => simp [marks]
  | cons w ws ih =>
    have h1 := ih (k := k + 1) (fun x hx => h x (by simp [hx]))
    have h2 := h w (by simp)
    rw [marks, List.length_append, List.length_replicate, List.length_cons]
    omega

theorem marks_snoc {k : Nat} {ws : List Int} {w : Int} : marks 0 (ws ++ [w]) = marks 0 ws ++ List.replicate w.toNat (ws.length : Int) := by
  rw [marks_append]; simp [marks]
end Go.Proofs.Ytfbacnifankfkaa.Draw
