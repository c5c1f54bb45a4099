/- Plain functions: the number that coins draw; its laws. -/
namespace Go.Proofs.Ytfbacnifankfkaa.Draw

/-- the number that a word of coins spells, the first coin highest -/
def val (l : List Bool) : Nat := l.foldl (fun x b => 2 * x + cond b 1 0) 0

theorem val_snoc (l : List Bool) (b : Bool) : val (l ++ [b]) = 2 * val l + cond b 1 0 := by
  simp [val, List.foldl_append]

theorem fold_lt (l : List Bool) : ∀ x : Nat, l.foldl (fun x b => 2 * x + cond b 1 0) x < (x + 1) * 2 ^ l.length := by
  induction l with
  | nil => intro x; simp
  | cons b l ih =>
    intro x
    have h := ih (2 * x + cond b 1 0)
    rw [List.foldl_cons, List.length_cons, Nat.pow_succ]
    refine Nat.lt_of_lt_of_le h ?_
    have : (2 * x + cond b 1 0 + 1) ≤ (x + 1) * 2 := by cases b <;> simp <;> omega
    refine Nat.le_trans (Nat.mul_le_mul_right (2 ^ l.length) this) ?_
    rw [Nat.mul_assoc, Nat.mul_comm 2]; exact Nat.le_refl _

theorem val_lt (l : List Bool) : val l < 2 ^ l.length := by simpa [val] using fold_lt l 0

/-- how many coins are taken at once: the least k with n ≤ 2^k -/
def need (n : Nat) : Nat := if n ≤ 1 then 0 else (n - 1).log2 + 1

theorem need_eq {n k : Nat} (h1 : n ≤ 2 ^ k) (h2 : ∀ j, j < k → 2 ^ j < n) : need n = k := by
  unfold need
  by_cases hn : n ≤ 1
  · rw [if_pos hn]
    rcases Nat.eq_zero_or_pos k with rfl | hk
    · rfl
    · have := h2 0 hk; simp at this; omega
  · rw [if_neg hn]
    rcases Nat.eq_zero_or_pos k with rfl | hk
    · simp at h1; omega
    · have h3 := h2 (k - 1) (by omega)
      have h4 : (n - 1).log2 < k := (Nat.log2_lt (by omega)).2 (by omega)
      have h5 : k - 1 ≤ (n - 1).log2 := (Nat.le_log2 (by omega)).2 (by omega)
      omega

theorem need_spec (n : Nat) : n ≤ 2 ^ need n ∧ ∀ j, j < need n → 2 ^ j < n := by
  unfold need
  by_cases hn : n ≤ 1
  · rw [if_pos hn]; exact ⟨by simpa using hn, fun j hj => by omega⟩
  · rw [if_neg hn]
    have h4 : n - 1 < 2 ^ ((n - 1).log2 + 1) := (Nat.log2_lt (by omega)).1 (by omega)
    refine ⟨by omega, fun j hj => ?_⟩
    have h5 : 2 ^ j ≤ n - 1 := (Nat.le_log2 (by omega)).1 (by omega)
    omega

theorem need_le {n : Nat} (h : n ≤ 2 ^ 30) : need n ≤ 30 := by
  rcases Nat.lt_or_ge 30 (need n) with h1 | h1
  · have := (need_spec n).2 30 h1; omega
  · exact h1

def chunk (k : Nat) (l : List Bool) (i : Nat) : List Bool := (l.drop (i * k)).take k
def good (n k : Nat) (l : List Bool) (i : Nat) : Bool := decide ((i + 1) * k ≤ l.length) && decide (val (chunk k l i) < n)
/-- the number that is drawn below n, and how many coins it takes -/
def num (n : Nat) (l : List Bool) : Option (Nat × Nat) :=
  ((List.range (l.length + 1)).find? (good n (need n) l)).map fun i => (val (chunk (need n) l i), (i + 1) * need n)

theorem num_some {n k : Nat} {l : List Bool} {i : Nat} (hk : need n = k) (hin : i ≤ l.length) (hi : good n k l i = true) (hj : ∀ j, j < i → good n k l j = false) :
    num n l = some (val (chunk k l i), (i + 1) * k) := by
  subst hk
  unfold num
  have : (List.range (l.length + 1)).find? (good n (need n) l) = some i := by
    rw [List.find?_range_eq_some]
    exact ⟨hi, by simp; omega, fun j h => by simp [hj j h]⟩
  rw [this]; rfl

theorem num_none {n k : Nat} {l : List Bool} (hk : need n = k) (h : ∀ j, j ≤ l.length → good n k l j = false) : num n l = none := by
  subst hk
  unfold num
  have : (List.range (l.length + 1)).find? (good n (need n) l) = none := by
    rw [List.find?_eq_none]
    intro j hj; simp at hj; simp [h j (by omega)]
  rw [this]; rfl

theorem num_lt {n : Nat} {l : List Bool} {x u : Nat} (h : num n l = some (x, u)) : x < n ∧ u ≤ l.length := by
  unfold num at h
  cases hf : (List.range (l.length + 1)).find? (good n (need n) l) with
  | none => rw [hf] at h; cases h
  | some i =>
    rw [hf] at h
    have hg := List.find?_some hf
    simp [good] at hg
    simp at h
    omega
end Go.Proofs.Ytfbacnifankfkaa.Draw
