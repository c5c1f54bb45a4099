/- lengthsOf: what a round adds, in plain Lean. -/
import Derived.Test.YtjehmleckcmilaaAddI
namespace Go.Proofs.Ytjehmleckcmilaa
open Go.RowKit
namespace Ln

theorem nodup_le : ∀ (l m : List (Nat × Nat × Nat)), l.Nodup → (∀ x ∈ l, x ∈ m) → l.length ≤ m.length
  | [], m, _, _ => by simp
  | a :: l, m, hn, hs => by
    have ha := hs a List.mem_cons_self
    rw [List.nodup_cons] at hn
    have := nodup_le l (m.erase a) hn.2 fun x hx => by
      have hne : x ≠ a := fun e => hn.1 (e ▸ hx)
      exact (List.mem_erase_of_ne hne).2 (hs x (List.mem_cons_of_mem _ hx))
    rw [List.length_erase_of_mem ha] at this
    have : 0 < m.length := List.length_pos_of_mem ha
    simp; omega
def boxL (a b c : Nat) : List (Nat × Nat × Nat) := (List.range a).flatMap fun i => (List.range b).flatMap fun j => (List.range c).map fun k => (i, j, k)
theorem mem_boxL {a b c i j k : Nat} : (i, j, k) ∈ boxL a b c ↔ i < a ∧ j < b ∧ k < c := by
  unfold boxL
  simp only [List.mem_flatMap, List.mem_map, List.mem_range, Prod.mk.injEq]
  constructor
  · rintro ⟨a1, h1, b1, h2, c1, h3, rfl, rfl, rfl⟩; exact ⟨h1, h2, h3⟩
  · rintro ⟨h1, h2, h3⟩; exact ⟨i, h1, j, h2, k, h3, rfl, rfl, rfl⟩
theorem len_flat {α β : Type} (f : α → List β) (m : Nat) : ∀ (l : List α), (∀ x ∈ l, (f x).length = m) → (l.flatMap f).length = l.length * m
  | [], _ => by simp
  | x :: l, h => by
    rw [List.flatMap_cons, List.length_append, h x List.mem_cons_self, len_flat f m l (fun y hy => h y (List.mem_cons_of_mem _ hy)), List.length_cons, Nat.add_mul]; omega
theorem len_boxL (a b c : Nat) : (boxL a b c).length = a * (b * c) := by
  unfold boxL
  rw [len_flat _ (b * c)]
  · simp
  · intro i _
    rw [len_flat _ c]
    · simp
    · intro j _; simp
variable {K : List Rule} {n : Nat}
/-- the items have grown by sound ones -/
structure Grow (K : List Rule) (n : Nat) (L0 L : List (Nat × Nat × Nat)) : Prop where
  pre : L0 <+: L
  nodup : L.Nodup
  sound : ∀ x ∈ L, It K x.1 x.2.1 x.2.2 ∧ x.2.2 ≤ n
open Classical in
theorem mem_addL_old {L : List (Nat × Nat × Nat)} {x y : Nat × Nat × Nat} (h : y ∈ L) : y ∈ addL n L x := by
  unfold addL; split
  · exact List.mem_append_left _ h
  · exact h
open Classical in
theorem mem_addL {L : List (Nat × Nat × Nat)} {x : Nat × Nat × Nat} (h : x.2.2 ≤ n) : x ∈ addL n L x := by
  unfold addL
  by_cases hx : x ∈ L
  · rw [if_neg (by simp [hx])]; exact hx
  · rw [if_pos ⟨h, hx⟩]; simp
open Classical in
theorem Grow.add {L0 L : List (Nat × Nat × Nat)} {x : Nat × Nat × Nat} (h : Grow K n L0 L) (hx : It K x.1 x.2.1 x.2.2) : Grow K n L0 (addL n L x) := by
  unfold addL; split
  · rename_i hc
    refine ⟨h.pre.trans (List.prefix_append _ _), ?_, ?_⟩
    · rw [List.nodup_append]
      refine ⟨h.nodup, by simp, ?_⟩
      intro a ha b hb e
      simp at hb
      subst hb; subst e
      exact hc.2 ha
    · intro y hy
      rcases List.mem_append.1 hy with hy | hy
      · exact h.sound y hy
      · simp at hy; subst hy; exact ⟨hx, hc.1⟩
  · exact h
theorem Grow.len {L0 L : List (Nat × Nat × Nat)} (h : Grow K n L0 L) (hK : K.length ≤ 32) (hr : ∀ i, (rt K i).length ≤ 4) (hn : n ≤ 400) : L.length ≤ 64160 := by
  have h1 := nodup_le L (boxL 32 5 401) h.nodup (fun x hx => by
    obtain ⟨h1, h2⟩ := h.sound x hx
    have h3 := h1.lt
    have h4 := h1.dot
    have h5 := hr x.1
    obtain ⟨i, j, k⟩ := x
    simp only at h2 h3 h4 h5
    exact mem_boxL.2 ⟨by omega, by omega, by omega⟩)
  rw [len_boxL] at h1
  omega
theorem Grow.refl {L : List (Nat × Nat × Nat)} (h1 : L.Nodup) (h2 : ∀ x ∈ L, It K x.1 x.2.1 x.2.2 ∧ x.2.2 ≤ n) : Grow K n L L := ⟨List.prefix_refl _, h1, h2⟩
/-- one item is done -/
theorem Items.next {L L' : List (Nat × Nat × Nat)} {p : Nat} {C C' : Nat → Nat → Bool} (h : Items K n L p C) (hp : p < L.length) {x : Nat × Nat × Nat} (hx : L[p] = x) (hg : Grow K n L L')
    (hc : ∀ a k, C' a k = true → C a k = true ∨ (x.2.1 = (rt K x.1).length ∧ lft K x.1 = (a : Int) ∧ x.2.2 = k))
    (hf0 : ∀ a k, C a k = true → C' a k = true)
    (hf : x.2.1 = (rt K x.1).length → C' (lft K x.1).toNat x.2.2 = true)
    (ht : ∀ s, (rt K x.1)[x.2.1]? = some s → s.term = true → x.2.2 + 1 ≤ n → (x.1, x.2.1 + 1, x.2.2 + 1) ∈ L')
    (hn : ∀ s, (rt K x.1)[x.2.1]? = some s → s.term = false → ∀ k, C' s.n.toNat k = true → x.2.2 + k ≤ n → (x.1, x.2.1 + 1, x.2.2 + k) ∈ L')
    (hn2 : ∀ y ∈ L, ∀ s, (rt K y.1)[y.2.1]? = some s → s.term = false → ∀ k, C' s.n.toNat k = true → C s.n.toNat k = false → y.2.2 + k ≤ n → (y.1, y.2.1 + 1, y.2.2 + k) ∈ L') : Items K n L' (p + 1) C' := by
  obtain ⟨t, rfl⟩ := hg.pre
  have htk : (L ++ t).take (p + 1) = L.take p ++ [x] := by
    rw [List.take_append_of_le_length (by omega), List.take_succ_eq_append_getElem hp, hx]
  refine ⟨hg.sound, hg.nodup, fun i hi => List.mem_append_left _ (h.start i hi), ?_, ?_, ?_, ?_⟩
  · intro a k hk
    rw [htk]
    rcases hc a k hk with h1 | ⟨h1, h2, h3⟩
    · obtain ⟨y, hy, h2⟩ := h.csound a k h1
      exact ⟨y, List.mem_append_left _ hy, h2⟩
    · exact ⟨x, by simp, h1, h2, h3⟩
  · intro y hy
    rw [htk] at hy
    rcases List.mem_append.1 hy with hy | hy
    · exact fun e => hf0 _ _ (h.full y hy e)
    · simp at hy; subst hy; exact hf
  · intro y hy
    rw [htk] at hy
    rcases List.mem_append.1 hy with hy | hy
    · exact fun s h1 h2 h3 => List.mem_append_left _ (h.term y hy s h1 h2 h3)
    · simp at hy; subst hy; exact ht
  · intro y hy
    rw [htk] at hy
    rcases List.mem_append.1 hy with hy | hy
    · intro s h1 h2 k h3 h4
      cases e : C s.n.toNat k with
      | true => exact List.mem_append_left _ (h.non y hy s h1 h2 k e h4)
      | false => exact hn2 y (List.mem_of_mem_take hy) s h1 h2 k h3 e h4
    · simp at hy; subst hy; exact hn
theorem Items.full_old {L : List (Nat × Nat × Nat)} {p i d l : Nat} {C : Nat → Nat → Bool} (h : Items K n L p C) (hp : p < L.length) (hx : L[p] = (i, d, l)) (hd : d = (rt K i).length) (hC : C (lft K i).toNat l = true) : Items K n L (p + 1) C :=
  h.next hp hx (Grow.refl h.nodup h.sound) (fun _ _ h => .inl h) (fun _ _ h => h) (fun _ => hC)
    (fun s hs _ _ => by have := (List.getElem?_eq_some_iff.1 hs).1; simp only at this; omega)
    (fun s hs _ k _ _ => by have := (List.getElem?_eq_some_iff.1 hs).1; simp only at this; omega)
    (fun y _ s _ _ k h1 h2 _ => by rw [h1] at h2; cases h2)
theorem Items.full_new {L L' : List (Nat × Nat × Nat)} {p i d l : Nat} {C C' : Nat → Nat → Bool} (h : Items K n L p C) (hp : p < L.length) (hx : L[p] = (i, d, l)) (hd : d = (rt K i).length) (hl0 : 0 ≤ lft K i) (hpos : ∀ i, i < K.length → ∀ s ∈ rt K i, s.term = false → 0 ≤ s.n) (hg : Grow K n L L')
    (hall : ∀ y ∈ L, ∀ s, (rt K y.1)[y.2.1]? = some s → s.term = false → s.n = lft K i → y.2.2 + l ≤ n → (y.1, y.2.1 + 1, y.2.2 + l) ∈ L') (hC : ∀ a b, C' a b = if a = (lft K i).toNat ∧ b = l then true else C a b) : Items K n L' (p + 1) C' := by
  refine h.next hp hx hg (fun a k h1 => ?_) (fun a k h1 => ?_) (fun _ => by rw [hC]; simp) (fun s hs _ _ => ?_) (fun s hs _ k _ _ => ?_) (fun y hy s hs ht k h1 h2 h3 => ?_)
  · rw [hC] at h1
    by_cases e : a = (lft K i).toNat ∧ k = l
    · right; exact ⟨hd, by obtain ⟨e1, e2⟩ := e; show lft K i = (a : Int); omega, e.2.symm⟩
    · rw [if_neg e] at h1; exact .inl h1
  · rw [hC]; split
    · rfl
    · exact h1
  · have := (List.getElem?_eq_some_iff.1 hs).1; simp only at this; omega
  · have := (List.getElem?_eq_some_iff.1 hs).1; simp only at this; omega
  · rw [hC] at h1
    by_cases e : s.n.toNat = (lft K i).toNat ∧ k = l
    · obtain ⟨e1, rfl⟩ := e
      have h4 := (h.sound y hy).1.lt
      have h5 := hpos _ h4 s (List.mem_of_getElem? hs) ht
      exact hall y hy s hs ht (by omega) h3
    · rw [if_neg e, h2] at h1; cases h1
open Classical in
theorem Items.termN {L : List (Nat × Nat × Nat)} {p i d l : Nat} {C : Nat → Nat → Bool} {s : Sym} (h : Items K n L p C) (hp : p < L.length) (hx : L[p] = (i, d, l)) (hs : (rt K i)[d]? = some s) (ht : s.term = true) : Items K n (addL n L (i, d + 1, l + 1)) (p + 1) C := by
  have hit := (h.sound _ (List.getElem_mem hp)).1
  rw [hx] at hit
  refine h.next hp hx ((Grow.refl h.nodup h.sound).add (.term hit hs ht)) (fun _ _ h => .inl h) (fun _ _ h => h) (fun e => ?_) (fun s' hs' ht' hl => mem_addL hl) (fun s' hs' ht' k _ _ => ?_) (fun y _ s _ _ k h1 h2 _ => by rw [h1] at h2; cases h2)
  · have := (List.getElem?_eq_some_iff.1 hs).1; simp only at e; omega
  · simp only at hs'
    rw [hs] at hs'; cases hs'; rw [ht] at ht'; cases ht'
theorem Items.nonN {L L' : List (Nat × Nat × Nat)} {p i d l : Nat} {C : Nat → Nat → Bool} {s : Sym} (h : Items K n L p C) (hp : p < L.length) (hx : L[p] = (i, d, l)) (hs : (rt K i)[d]? = some s) (ht : s.term = false) (hg : Grow K n L L')
    (hall : ∀ k, k ≤ n → C s.n.toNat k = true → l + k ≤ n → (i, d + 1, l + k) ∈ L') : Items K n L' (p + 1) C := by
  refine h.next hp hx hg (fun _ _ h => .inl h) (fun _ _ h => h) (fun e => ?_) (fun s' hs' ht' hl => ?_) (fun s' hs' ht' k h1 h2 => ?_) (fun y _ s _ _ k h1 h2 _ => by rw [h1] at h2; cases h2)
  · have := (List.getElem?_eq_some_iff.1 hs).1; simp only at e; omega
  · simp only at hs'
    rw [hs] at hs'; cases hs'; rw [ht] at ht'; cases ht'
  · simp only at hs' h2 ⊢
    rw [hs] at hs'; cases hs'
    exact hall k (by omega) h1 h2
theorem Items.nonIt {L : List (Nat × Nat × Nat)} {p i d l k : Nat} {C : Nat → Nat → Bool} {s : Sym} (h : Items K n L p C) (hit : It K i d l) (hs : (rt K i)[d]? = some s) (ht : s.term = false) (h0 : 0 ≤ s.n) (hC : C s.n.toNat k = true) : It K i (d + 1) (l + k) := by
  obtain ⟨x, hx, h1, h2, h3⟩ := h.csound _ _ hC
  have h4 := (h.sound x (List.mem_of_mem_take hx)).1
  rw [h1, h3] at h4
  exact .non hit hs ht h4 (by rw [h2]; omega)
theorem Items.start' {L : List (Nat × Nat × Nat)} (h : Grow K n [] L) (hs : ∀ i, i < K.length → (i, 0, 0) ∈ L) : Items K n L 0 (fun _ _ => false) :=
  ⟨h.sound, h.nodup, hs, fun _ _ h => by simp at h, fun x hx => by simp at hx, fun x hx => by simp at hx, fun x hx => by simp at hx⟩
end Ln
end Go.Proofs.Ytjehmleckcmilaa
