/- Longest common subsequences: the table of Common, and the costs. -/
import Derived.Test.YtjehmleckcmilaaCostsWalk
namespace Go.Proofs.Ytjehmleckcmilaa
open Go.RowKit

/-- the length of a longest common subsequence, as the table is filled -/
def Cs.lc : List Int → List Int → Int
  | [], _ => 0
  | _ :: _, [] => 0
  | x :: l, y :: r => if x = y then max (max (lc l (y :: r)) (lc (x :: l) r)) (lc l r + 1) else max (lc l (y :: r)) (lc (x :: l) r)
theorem Cs.lc_bd : ∀ (l r : List Int), 0 ≤ lc l r ∧ lc l r ≤ l.length ∧ lc l r ≤ r.length
  | [], r => by simp [lc]
  | x :: l, [] => by simp [lc] <;> omega
  | x :: l, y :: r => by
    have h1 := lc_bd l r
    have h2 := lc_bd l (y :: r)
    have h3 := lc_bd (x :: l) r
    rw [lc]
    simp only [List.length_cons] at h1 h2 h3 ⊢
    split <;> omega
theorem Cs.lc_nil (l : List Int) : lc l [] = 0 := by cases l <;> rw [lc]
/-- one element more is at most one more -/
theorem Cs.lc_left : ∀ (x : Int) (l r : List Int), lc l r ≤ lc (x :: l) r ∧ lc (x :: l) r ≤ lc l r + 1
  | x, l, [] => by rw [lc_nil, lc_nil]; omega
  | x, l, y :: r => by
    have h1 := lc_left x l r
    have h2 : lc l r ≤ lc l (y :: r) := by
      cases l with
      | nil => simp [lc]
      | cons z l => rw [lc]; split <;> omega
    conv => arg 1; rhs; rw [lc]
    conv => arg 2; lhs; rw [lc]
    constructor <;> split <;> omega
theorem Cs.lc_right : ∀ (l : List Int) (y : Int) (r : List Int), lc l r ≤ lc l (y :: r) ∧ lc l (y :: r) ≤ lc l r + 1
  | [], y, r => by simp [lc]
  | x :: l, y, r => by
    have h1 := lc_right l y r
    have h2 := lc_left x l r
    conv => arg 1; rhs; rw [lc]
    conv => arg 2; lhs; rw [lc]
    constructor <;> split <;> omega
theorem Cs.lc_eq (x : Int) (l r : List Int) : lc (x :: l) (x :: r) = lc l r + 1 := by
  have h1 := lc_left x l r
  have h2 := lc_right l x r
  rw [lc, if_pos rfl]
  omega
/-- the cost is what is not common -/
theorem Cs.cs_lc : ∀ (l r : List Int), cs l r = l.length + r.length - 2 * lc l r
  | [], r => by simp [cs, lc]
  | x :: l, [] => by simp [cs, lc]
  | x :: l, y :: r => by
    by_cases h : x = y
    · subst h
      rw [cs, if_pos rfl, lc_eq, cs_lc l r]
      simp only [List.length_cons]; omega
    · rw [cs, if_neg h, lc, if_neg h, cs_lc l (y :: r), cs_lc (x :: l) r]
      simp only [List.length_cons]; omega
def lAt (l r : List Int) (i j : Nat) : Int := Cs.lc (l.drop i) (r.drop j)
theorem cAt_lAt {l r : List Int} {i j : Nat} (hi : i ≤ l.length) (hj : j ≤ r.length) : cAt l r i j = (l.length - i) + (r.length - j) - 2 * lAt l r i j := by
  unfold cAt lAt
  rw [Cs.cs_lc]
  simp only [List.length_drop]
  omega
theorem lAt_end {l r : List Int} {i j : Nat} (h : l.length ≤ i) : lAt l r i j = 0 := by unfold lAt; rw [List.drop_of_length_le h, Cs.lc]
theorem lAt_last {l r : List Int} {i j : Nat} (h : r.length ≤ j) : lAt l r i j = 0 := by unfold lAt; rw [List.drop_of_length_le h, Cs.lc_nil]
theorem lAt_step {l r : List Int} {i j : Nat} (h : i < l.length) (hj : j < r.length) : lAt l r i j = if l[i] = r[j] then max (max (lAt l r (i + 1) j) (lAt l r i (j + 1))) (lAt l r (i + 1) (j + 1) + 1) else max (lAt l r (i + 1) j) (lAt l r i (j + 1)) := by
  unfold lAt
  conv => lhs; rw [List.drop_eq_getElem_cons h, List.drop_eq_getElem_cons hj, Cs.lc]
  rw [← List.drop_eq_getElem_cons h, ← List.drop_eq_getElem_cons hj]
theorem lAt_bd {l r : List Int} {i j : Nat} : 0 ≤ lAt l r i j ∧ lAt l r i j ≤ l.length := by
  have h := Cs.lc_bd (l.drop i) (r.drop j)
  unfold lAt
  rw [List.length_drop] at h
  omega
end Go.Proofs.Ytjehmleckcmilaa
