/- Plain functions: the longest common beginning and end of two words. -/
namespace Go.Proofs.Ytfbacnifankfkaa.Btw

def lcp : List Int → List Int → Nat
  | x :: a, y :: b => if x = y then lcp a b + 1 else 0
  | _, _ => 0

theorem lcp_of {a b : List Int} {n : Nat} (h1 : n ≤ a.length) (h2 : n ≤ b.length) (he : ∀ j, j < n → a.getD j 0 = b.getD j 0) (hs : n = a.length ∨ n = b.length ∨ a.getD n 0 ≠ b.getD n 0) : lcp a b = n := by
  induction a generalizing b n with
  | nil => simp at h1; subst h1; simp [lcp]
  | cons x a ih =>
    cases b with
    | nil => simp at h2; subst h2; simp [lcp]
    | cons y b =>
      cases n with
      | zero =>
        simp at hs
        simp [lcp, hs]
      | succ n =>
        have h0 := he 0 (by omega)
        simp at h0
        subst h0
        rw [lcp, if_pos rfl, ih (n := n) (by simpa using h1) (by simpa using h2)]
        · intro j hj
          have := he (j + 1) (by omega)
          simpa using this
        · rcases hs with h | h | h
          · left; simpa using h
          · right; left; simpa using h
          · right; right; simpa using h

/-- the common end behind the first n elements -/
def suf (a b : List Int) (n : Nat) : Nat := lcp (a.drop n).reverse (b.drop n).reverse

theorem rev_get {a : List Int} {n j : Nat} (h : j < a.length - n) : (a.drop n).reverse.getD j 0 = a.getD (a.length - 1 - j) 0 := by
  have h1 : j < (a.drop n).reverse.length := by simp; omega
  have h2 : a.length - 1 - j < a.length := by omega
  simp only [List.getD, List.getElem?_eq_getElem h1, List.getElem?_eq_getElem h2, Option.getD_some, List.getElem_reverse, List.getElem_drop, List.length_drop]
  congr 1
  omega

theorem suf_of {a b : List Int} {n k : Nat} (h1 : n + k ≤ a.length) (h2 : n + k ≤ b.length) (he : ∀ j, j < k → a.getD (a.length - 1 - j) 0 = b.getD (b.length - 1 - j) 0)
    (hs : n + k = a.length ∨ n + k = b.length ∨ a.getD (a.length - 1 - k) 0 ≠ b.getD (b.length - 1 - k) 0) : suf a b n = k := by
  unfold suf
  refine lcp_of (by simp; omega) (by simp; omega) (fun j hj => ?_) ?_
  · rw [rev_get (by omega), rev_get (by omega)]; exact he j hj
  · rcases Nat.lt_or_ge (n + k) a.length with ha | ha
    · rcases Nat.lt_or_ge (n + k) b.length with hb | hb
      · right; right
        rw [rev_get (by omega), rev_get (by omega)]
        rcases hs with h | h | h
        · omega
        · omega
        · exact h
      · right; left; simp; omega
    · left; simp; omega
end Go.Proofs.Ytfbacnifankfkaa.Btw
