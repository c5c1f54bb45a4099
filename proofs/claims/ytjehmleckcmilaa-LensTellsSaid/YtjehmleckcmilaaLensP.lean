/- The lengths of words: two ways to reckon them, in plain Lean. -/
import Derived.Test.YtjehmleckcmilaaReach
namespace Go.Proofs.Ytjehmleckcmilaa
open Go.RowKit
namespace Ln

def rt (K : List Rule) (i : Nat) : List Sym := (K[i]?.map Rule.right).getD []
def lft (K : List Rule) (i : Nat) : Int := (K[i]?.map Rule.left).getD 0
theorem rt_eq {K : List Rule} {i : Nat} (h : i < K.length) : rt K i = K[i].right := by simp [rt, h]
theorem lft_eq {K : List Rule} {i : Nat} (h : i < K.length) : lft K i = K[i].left := by simp [lft, h]
/-- the first d symbols of rule i have a word of length l -/
inductive It (K : List Rule) : Nat → Nat → Nat → Prop
  | start {i : Nat} : i < K.length → It K i 0 0
  | term {i d l : Nat} {s : Sym} : It K i d l → (rt K i)[d]? = some s → s.term = true → It K i (d + 1) (l + 1)
  | non {i d l j k : Nat} {s : Sym} : It K i d l → (rt K i)[d]? = some s → s.term = false → It K j (rt K j).length k → lft K j = s.n → It K i (d + 1) (l + k)
theorem It.lt {K : List Rule} {i d l : Nat} (h : It K i d l) : i < K.length := by
  induction h with
  | start h => exact h
  | term _ _ _ ih => exact ih
  | non _ _ _ _ _ ih _ => exact ih
theorem It.dot {K : List Rule} {i d l : Nat} (h : It K i d l) : d ≤ (rt K i).length := by
  induction h with
  | start h => omega
  | term _ hs _ _ => have := (List.getElem?_eq_some_iff.1 hs).1; omega
  | non _ hs _ _ _ _ _ => have := (List.getElem?_eq_some_iff.1 hs).1; omega
/-- nonterminal a has a word of length k -/
def Has (K : List Rule) (a : Int) (k : Nat) : Prop := ∃ j, It K j (rt K j).length k ∧ lft K j = a

/-- the way of lens.Set: one symbol more -/
def stB (H : Nat → Nat → Bool) (s : Sym) (j : Nat) : Bool := if s.term then j == 1 else H s.n.toNat j
def nxt (H : Nat → Nat → Bool) (n : Nat) (s : Sym) (A : Nat → Bool) (m : Nat) : Bool := decide (m ≤ n) && (List.range (m + 1)).any fun i => A i && stB H s (m - i)
def atR (H : Nat → Nat → Bool) (n : Nat) (R : List Sym) : Nat → Bool := R.foldl (fun A s => nxt H n s A) (fun m => m == 0)
theorem atR_snoc (H : Nat → Nat → Bool) (n : Nat) (R : List Sym) (s : Sym) : atR H n (R ++ [s]) = nxt H n s (atR H n R) := by simp [atR]
theorem nxt_iff {H : Nat → Nat → Bool} {n : Nat} {s : Sym} {A : Nat → Bool} {m : Nat} : nxt H n s A m = true ↔ m ≤ n ∧ ∃ i j, i + j = m ∧ A i = true ∧ stB H s j = true := by
  unfold nxt
  simp only [Bool.and_eq_true, decide_eq_true_eq, List.any_eq_true, List.mem_range]
  constructor
  · rintro ⟨h1, i, hi, h2, h3⟩
    exact ⟨h1, i, m - i, by omega, h2, h3⟩
  · rintro ⟨h1, i, j, h2, h3, h4⟩
    exact ⟨h1, i, by omega, h3, by rw [show m - i = j by omega]; exact h4⟩
theorem nxt_le {H : Nat → Nat → Bool} {n : Nat} {s : Sym} {A : Nat → Bool} {m : Nat} (h : nxt H n s A m = true) : m ≤ n := (nxt_iff.1 h).1
/-- H tells true lengths alone -/
def Sound (K : List Rule) (H : Nat → Nat → Bool) : Prop := ∀ a k, H a k = true → Has K (a : Int) k
/-- what the rules give is there -/
def Closed (K : List Rule) (n : Nat) (H : Nat → Nat → Bool) (i : Nat) : Prop := ∀ m, m ≤ n → atR H n (rt K i) m = true → H (lft K i).toNat m = true
variable {K : List Rule} {n : Nat} {H : Nat → Nat → Bool}
theorem at_sound (hs : Sound K H) (hp : ∀ i, i < K.length → ∀ s ∈ rt K i, s.term = false → 0 ≤ s.n) {i : Nat} (hi : i < K.length) : ∀ d m, d ≤ (rt K i).length → atR H n ((rt K i).take d) m = true → It K i d m
  | 0, m, _, h => by
    simp [atR] at h
    subst h
    exact .start hi
  | d + 1, m, hd, h => by
    rw [List.take_succ_eq_append_getElem (by omega), atR_snoc, nxt_iff] at h
    obtain ⟨_, a, b, rfl, h1, h2⟩ := h
    have ih := at_sound hs hp hi d a (by omega) h1
    have hg : (rt K i)[d]? = some ((rt K i)[d]'(by omega)) := List.getElem?_eq_getElem (by omega)
    unfold stB at h2
    cases ht : ((rt K i)[d]'(by omega)).term with
    | true =>
      rw [ht] at h2
      simp at h2
      subst h2
      exact .term ih hg ht
    | false =>
      rw [ht] at h2
      simp only [Bool.false_eq_true, if_false] at h2
      obtain ⟨j, h3, h4⟩ := hs _ _ h2
      have h0 := hp i hi _ (List.getElem_mem (by omega)) ht
      exact .non ih hg ht h3 (by rw [h4]; omega)
theorem at_complete (hc : ∀ i, i < K.length → Closed K n H i) {i d l : Nat} (h : It K i d l) : l ≤ n → atR H n ((rt K i).take d) l = true := by
  induction h with
  | start h => intro _; simp [atR]
  | @term i d l s h1 hs ht ih =>
    intro hl
    obtain ⟨hd, he⟩ := List.getElem?_eq_some_iff.1 hs
    rw [List.take_succ_eq_append_getElem hd, atR_snoc, nxt_iff, he]
    exact ⟨hl, l, 1, rfl, ih (by omega), by simp [stB, ht]⟩
  | @non i d l j k s h1 hs ht h2 he2 ih1 ih2 =>
    intro hl
    obtain ⟨hd, he⟩ := List.getElem?_eq_some_iff.1 hs
    rw [List.take_succ_eq_append_getElem hd, atR_snoc, nxt_iff, he]
    refine ⟨hl, l, k, rfl, ih1 (by omega), ?_⟩
    have h3 := ih2 (by omega)
    rw [List.take_length] at h3
    have h4 := hc j h2.lt k (by omega) h3
    rw [he2] at h4
    simp [stB, ht, h4]
/-- where nothing more is to be added, H is right -/
theorem set_right (hs : Sound K H) (hc : ∀ i, i < K.length → Closed K n H i) (hp : ∀ i, i < K.length → 0 ≤ lft K i) {a : Nat} {k : Nat} (hk : k ≤ n) : H a k = true ↔ Has K (a : Int) k := by
  refine ⟨hs a k, ?_⟩
  rintro ⟨j, h1, h2⟩
  have h3 := at_complete hc h1 hk
  rw [List.take_length] at h3
  have h4 := hc j h1.lt k hk h3
  rw [h2] at h4
  simpa using h4
/-- the way of lengthsOf: the items that are known, of which the first p are done; C: the lengths that they tell -/
structure Items (K : List Rule) (n : Nat) (L : List (Nat × Nat × Nat)) (p : Nat) (C : Nat → Nat → Bool) : Prop where
  sound : ∀ x ∈ L, It K x.1 x.2.1 x.2.2 ∧ x.2.2 ≤ n
  nodup : L.Nodup
  start : ∀ i, i < K.length → (i, 0, 0) ∈ L
  csound : ∀ a k, C a k = true → ∃ x ∈ L.take p, x.2.1 = (rt K x.1).length ∧ lft K x.1 = (a : Int) ∧ x.2.2 = k
  full : ∀ x ∈ L.take p, x.2.1 = (rt K x.1).length → C (lft K x.1).toNat x.2.2 = true
  term : ∀ x ∈ L.take p, ∀ s, (rt K x.1)[x.2.1]? = some s → s.term = true → x.2.2 + 1 ≤ n → (x.1, x.2.1 + 1, x.2.2 + 1) ∈ L
  non : ∀ x ∈ L.take p, ∀ s, (rt K x.1)[x.2.1]? = some s → s.term = false → ∀ k, C s.n.toNat k = true → x.2.2 + k ≤ n → (x.1, x.2.1 + 1, x.2.2 + k) ∈ L
theorem items_all {L : List (Nat × Nat × Nat)} {p : Nat} {C : Nat → Nat → Bool} (h : Items K n L p C) (hp : L.length ≤ p) {i d l : Nat} (hi : It K i d l) : l ≤ n → (i, d, l) ∈ L := by
  have ht : L.take p = L := List.take_of_length_le hp
  have h3 := h.full
  have h4 := h.term
  have h5 := h.non
  rw [ht] at h3 h4 h5
  induction hi with
  | start hi => intro _; exact h.start _ hi
  | term _ hs hb ih => intro hl; exact h4 _ (ih (by omega)) _ hs hb hl
  | @non i d l j k s _ hs hb _ he ih1 ih2 =>
    intro hl
    have h6 := h3 _ (ih2 (by omega)) rfl
    simp only [he] at h6
    exact h5 _ (ih1 (by omega)) _ hs hb k h6 hl
/-- where all items are done, C is right -/
theorem items_right {L : List (Nat × Nat × Nat)} {p : Nat} {C : Nat → Nat → Bool} (h : Items K n L p C) (hp : L.length ≤ p) {a k : Nat} (hk : k ≤ n) : C a k = true ↔ Has K (a : Int) k := by
  have ht : L.take p = L := List.take_of_length_le hp
  constructor
  · intro hc
    obtain ⟨x, hx, h1, h2, h3⟩ := h.csound a k hc
    rw [ht] at hx
    have h4 := (h.sound x hx).1
    rw [h1, h3] at h4
    exact ⟨x.1, h4, h2⟩
  · rintro ⟨j, h1, h2⟩
    have h3 := items_all h hp h1 hk
    have h4 := h.full
    rw [ht] at h4
    have h5 := h4 _ h3 rfl
    simp only [h2] at h5
    simpa using h5
end Ln
end Go.Proofs.Ytjehmleckcmilaa
