/- Plain: a search in breadth finds the least word, by length and then symbol by symbol, that leads to a marked node. -/
import Derived.WalkKit
namespace Go.Proofs.Ytenkhjmedolknaa
namespace Bf

/-- of words of one length: the lesser one -/
def lx : List Nat → List Nat → Prop
  | x :: u, y :: v => x < y ∨ (x = y ∧ lx u v)
  | _, _ => False
theorem lx_irr : ∀ u, ¬ lx u u
  | [], h => h
  | _ :: u, h => by rcases h with h | ⟨_, h⟩; exact Nat.lt_irrefl _ h; exact lx_irr u h
theorem lx_trans : ∀ {u v w}, lx u v → lx v w → lx u w
  | _ :: _, _ :: _, _ :: _, h1, h2 => by
    rcases h1 with h1 | ⟨rfl, h1⟩
    · rcases h2 with h2 | ⟨rfl, _⟩
      · exact .inl (Nat.lt_trans h1 h2)
      · exact .inl h1
    · rcases h2 with h2 | ⟨rfl, h2⟩
      · exact .inl h2
      · exact .inr ⟨rfl, lx_trans h1 h2⟩
theorem lx_tot : ∀ {u v : List Nat}, u.length = v.length → u = v ∨ lx u v ∨ lx v u
  | [], [], _ => .inl rfl
  | x :: u, y :: v, h => by
    rcases Nat.lt_trichotomy x y with h1 | rfl | h1
    · exact .inr (.inl (.inl h1))
    · rcases lx_tot (u := u) (v := v) (by simpa using h) with rfl | h2 | h2
      · exact .inl rfl
      · exact .inr (.inl (.inr ⟨rfl, h2⟩))
      · exact .inr (.inr (.inr ⟨rfl, h2⟩))
    · exact .inr (.inr (.inl h1))
theorem lx_app : ∀ {u v : List Nat} (x y : Nat), lx u v → u.length = v.length → lx (u ++ [x]) (v ++ [y])
  | _ :: _, _ :: _, x, y, h, hl => by
    rcases h with h | ⟨rfl, h⟩
    · exact .inl h
    · exact .inr ⟨rfl, lx_app x y h (by simpa using hl)⟩
theorem lx_last : ∀ (u : List Nat) {x y : Nat}, x < y → lx (u ++ [x]) (u ++ [y])
  | [], _, _, h => .inl h
  | _ :: u, _, _, h => .inr ⟨rfl, lx_last u h⟩

def sl (u v : List Nat) : Prop := u.length < v.length ∨ (u.length = v.length ∧ lx u v)
def sle (u v : List Nat) : Prop := u = v ∨ sl u v
theorem sl_irr (u : List Nat) : ¬ sl u u := by rintro (h | ⟨_, h⟩); exact Nat.lt_irrefl _ h; exact lx_irr u h
theorem sl_trans {u v w : List Nat} (h1 : sl u v) (h2 : sl v w) : sl u w := by
  rcases h1 with h1 | ⟨e1, h1⟩ <;> rcases h2 with h2 | ⟨e2, h2⟩
  · exact .inl (Nat.lt_trans h1 h2)
  · exact .inl (by omega)
  · exact .inl (by omega)
  · exact .inr ⟨e1.trans e2, lx_trans h1 h2⟩
theorem sle_trans {u v w : List Nat} (h1 : sle u v) (h2 : sle v w) : sle u w := by
  rcases h1 with rfl | h1
  · exact h2
  · rcases h2 with rfl | h2
    · exact .inr h1
    · exact .inr (sl_trans h1 h2)
theorem sle_anti {u v : List Nat} (h1 : sle u v) (h2 : sle v u) : u = v := by
  rcases h1 with rfl | h1
  · rfl
  · rcases h2 with rfl | h2
    · rfl
    · exact absurd (sl_trans h1 h2) (sl_irr u)
theorem sl_app {u v : List Nat} (h : sl u v) (x y : Nat) : sl (u ++ [x]) (v ++ [y]) := by
  rcases h with h | ⟨e, h⟩
  · exact .inl (by simp; omega)
  · exact .inr ⟨by simp [e], lx_app x y h e⟩
theorem sle_app {u v : List Nat} (h : sle u v) (x : Nat) : sle (u ++ [x]) (v ++ [x]) := by
  rcases h with rfl | h
  · exact .inl rfl
  · exact .inr (sl_app h x x)
theorem sl_snoc (u : List Nat) (x : Nat) : sl u (u ++ [x]) := .inl (by simp)
theorem sle_nil (u : List Nat) : sle [] u := by
  cases u with
  | nil => exact .inl rfl
  | cons x u => exact .inr (.inl (by simp))

variable {N : Type}
def run (step : N → Nat → N) (n : N) (w : List Nat) : N := w.foldl step n
def over (k : Nat) (w : List Nat) : Prop := ∀ s ∈ w, s < k

/-- the list of a search: the items before i are done, of item i the symbols below c -/
structure Inv (step : N → Nat → N) (k : Nat) (n0 : N) (bad : N → Bool) (L : List (N × List Nat)) (i c : Nat) : Prop where
  first : L[0]? = some (n0, [])
  reach : ∀ p ∈ L, run step n0 p.2 = p.1 ∧ over k p.2
  inc : L.Pairwise fun p q => sl p.2 q.2
  nd : (L.map Prod.fst).Nodup
  clos : ∀ j p, L[j]? = some p → ∀ s, s < k → (j < i ∨ (j = i ∧ s < c)) → ∃ q ∈ L, q.1 = step p.1 s ∧ sle q.2 (p.2 ++ [s])
  par : ∀ q ∈ L, q.2 = [] ∨ ∃ (j : Nat) (p : N × List Nat) (s : Nat), L[j]? = some p ∧ q.2 = p.2 ++ [s] ∧ (j < i ∨ (j = i ∧ s < c))
  good : ∀ (j : Nat) (p : N × List Nat), j < i → L[j]? = some p → bad p.1 = false
variable {step : N → Nat → N} {k : Nat} {n0 : N} {bad : N → Bool} {L : List (N × List Nat)} {i c : Nat}

theorem Inv.start (step : N → Nat → N) (k : Nat) (n0 : N) (bad : N → Bool) : Inv step k n0 bad [(n0, [])] 0 0 where
  first := rfl
  reach p hp := by rw [List.mem_singleton] at hp; subst hp; exact ⟨rfl, fun s hs => by cases hs⟩
  inc := List.pairwise_singleton _ _
  nd := by simp
  clos j p _ s _ h := by omega
  par q hq := by rw [List.mem_singleton] at hq; subst hq; exact .inl rfl
  good j p h := by omega
theorem Inv.lt_at (h : Inv step k n0 bad L i c) {j m : Nat} {p q : N × List Nat} (hj : L[j]? = some p) (hm : L[m]? = some q) (hjm : j < m) : sl p.2 q.2 := by
  obtain ⟨h1, rfl⟩ := List.getElem?_eq_some_iff.1 hj
  obtain ⟨h2, rfl⟩ := List.getElem?_eq_some_iff.1 hm
  exact List.pairwise_iff_getElem.1 h.inc j m h1 h2 hjm
/-- every item comes before what item i gives by symbol c -/
theorem Inv.before (h : Inv step k n0 bad L i c) {p : N × List Nat} (hi : L[i]? = some p) : ∀ q ∈ L, sl q.2 (p.2 ++ [c]) := by
  intro q hq
  rcases h.par q hq with e | ⟨j, p', s, hj, e, hlt⟩
  · rw [e]; exact .inl (by simp)
  · rw [e]
    rcases hlt with hlt | ⟨rfl, hs⟩
    · exact sl_app (h.lt_at hj hi hlt) _ _
    · rw [hi] at hj
      obtain rfl := Option.some.inj hj
      exact .inr ⟨by simp, lx_last _ hs⟩
theorem Inv.old (h : Inv step k n0 bad L i c) {p : N × List Nat} (hi : L[i]? = some p) (ho : ∃ q ∈ L, q.1 = step p.1 c) : Inv step k n0 bad L i (c + 1) where
  first := h.first
  reach := h.reach
  inc := h.inc
  nd := h.nd
  clos j p' hj s hs hlt := by
    by_cases e : j = i ∧ s = c
    · obtain ⟨rfl, rfl⟩ := e
      rw [hi] at hj
      obtain rfl := Option.some.inj hj
      obtain ⟨q, hq, e⟩ := ho
      exact ⟨q, hq, e, .inr (h.before hi q hq)⟩
    · exact h.clos j p' hj s hs (by omega)
  par q hq := by
    rcases h.par q hq with e | ⟨j, p', s, hj, e, hlt⟩
    · exact .inl e
    · exact .inr ⟨j, p', s, hj, e, by omega⟩
  good := h.good
theorem Inv.new (h : Inv step k n0 bad L i c) {p : N × List Nat} (hi : L[i]? = some p) (hc : c < k) (hn : ∀ q ∈ L, q.1 ≠ step p.1 c) : Inv step k n0 bad (L ++ [(step p.1 c, p.2 ++ [c])]) i (c + 1) := by
  have hil := (List.getElem?_eq_some_iff.1 hi).1
  have hp : p ∈ L := List.mem_of_getElem? hi
  have hold : ∀ (j : Nat) (p' : N × List Nat), j ≤ i → (L ++ [(step p.1 c, p.2 ++ [c])])[j]? = some p' → L[j]? = some p' := fun j p' hj e => by
    rw [List.getElem?_append_left (by omega)] at e; exact e
  have hkeep : ∀ (j : Nat) (p' : N × List Nat), L[j]? = some p' → (L ++ [(step p.1 c, p.2 ++ [c])])[j]? = some p' := fun j p' e => by
    rw [List.getElem?_append_left (List.getElem?_eq_some_iff.1 e).1]; exact e
  refine ⟨hkeep _ _ h.first, fun q hq => ?_, ?_, ?_, fun j p' hj s hs hlt => ?_, fun q hq => ?_, fun j p' hj e => h.good j p' hj (hold j p' (by omega) e)⟩
  · rcases List.mem_append.1 hq with hq | hq
    · exact h.reach q hq
    · rw [List.mem_singleton] at hq
      subst hq
      obtain ⟨h1, h2⟩ := h.reach p hp
      refine ⟨by unfold run at h1 ⊢; rw [List.foldl_append, h1]; rfl, fun s hs => ?_⟩
      rcases List.mem_append.1 hs with hs | hs
      · exact h2 s hs
      · rw [List.mem_singleton] at hs; omega
  · rw [List.pairwise_append]
    refine ⟨h.inc, List.pairwise_singleton _ _, fun a ha b hb => ?_⟩
    rw [List.mem_singleton] at hb
    subst hb
    exact h.before hi a ha
  · rw [List.map_append, List.nodup_append]
    refine ⟨h.nd, by simp, fun a ha b hb => ?_⟩
    obtain ⟨q, hq, rfl⟩ := List.mem_map.1 ha
    simp at hb
    rw [hb]
    exact hn q hq
  · have hj' := hold j p' (by omega) hj
    by_cases e : j = i ∧ s = c
    · obtain ⟨rfl, rfl⟩ := e
      rw [hi] at hj'
      obtain rfl := Option.some.inj hj'
      exact ⟨_, List.mem_append_right _ (List.mem_singleton.2 rfl), rfl, .inl rfl⟩
    · obtain ⟨q, hq, e1, e2⟩ := h.clos j p' hj' s hs (by omega)
      exact ⟨q, List.mem_append_left _ hq, e1, e2⟩
  · rcases List.mem_append.1 hq with hq | hq
    · rcases h.par q hq with e | ⟨j, p', s, hj, e, hlt⟩
      · exact .inl e
      · exact .inr ⟨j, p', s, hkeep j p' hj, e, by omega⟩
    · rw [List.mem_singleton] at hq
      subst hq
      exact .inr ⟨i, p, c, hkeep i p hi, rfl, .inr ⟨rfl, by omega⟩⟩
theorem Inv.next (h : Inv step k n0 bad L i k) {p : N × List Nat} (hi : L[i]? = some p) (hb : bad p.1 = false) : Inv step k n0 bad L (i + 1) 0 where
  first := h.first
  reach := h.reach
  inc := h.inc
  nd := h.nd
  clos j p' hj s hs hlt := h.clos j p' hj s hs (by omega)
  par q hq := by
    rcases h.par q hq with e | ⟨j, p', s, hj, e, hlt⟩
    · exact .inl e
    · exact .inr ⟨j, p', s, hj, e, .inl (by omega)⟩
  good j p' hj e := by
    by_cases ej : j = i
    · subst ej
      rw [hi] at e
      obtain rfl := Option.some.inj e
      exact hb
    · exact h.good j p' (by omega) e
/-- a word's end is among the items that are done, by no greater a word; or the word is not below what is still to do -/
theorem Inv.preword (h : Inv step k n0 bad L i 0) : ∀ u : List Nat, over k u → (∃ j q, j < i ∧ L[j]? = some q ∧ q.1 = run step n0 u ∧ sle q.2 u) ∨ ∃ m q, i ≤ m ∧ L[m]? = some q ∧ sle q.2 u := by
  intro u
  generalize hl : u.length = m
  induction m generalizing u with
  | zero =>
    intro _
    obtain rfl : u = [] := List.length_eq_zero_iff.1 hl
    by_cases h0 : 0 < i
    · exact .inl ⟨0, _, h0, h.first, rfl, .inl rfl⟩
    · exact .inr ⟨0, _, by omega, h.first, .inl rfl⟩
  | succ m ih =>
    intro hu
    have hne : u ≠ [] := by rintro rfl; simp at hl
    obtain ⟨v, s, rfl⟩ : ∃ v s, u = v ++ [s] := ⟨_, _, (List.dropLast_concat_getLast hne).symm⟩
    have hs : s < k := hu s (by simp)
    rcases ih v (by simpa using hl) (fun x hx => hu x (List.mem_append_left _ hx)) with ⟨j, q, hj, hq, e, hle⟩ | ⟨m', q, hm, hq, hle⟩
    · obtain ⟨r, hr, e1, e2⟩ := h.clos j q hq s hs (.inl hj)
      obtain ⟨n, hn⟩ := List.mem_iff_getElem?.1 hr
      have hle2 := sle_trans e2 (sle_app hle s)
      by_cases hni : n < i
      · refine .inl ⟨n, r, hni, hn, ?_, hle2⟩
        rw [e1, e]
        unfold run
        rw [List.foldl_append]
        rfl
      · exact .inr ⟨n, r, by omega, hn, hle2⟩
    · exact .inr ⟨m', q, hm, hq, sle_trans hle (.inr (sl_snoc _ _))⟩
/-- the first item that is marked bears the least word -/
theorem Inv.found (h : Inv step k n0 bad L i 0) {p : N × List Nat} (hi : L[i]? = some p) {u : List Nat} (hu : over k u) (hb : bad (run step n0 u) = true) : sle p.2 u := by
  rcases h.preword u hu with ⟨j, q, hj, hq, e, _⟩ | ⟨m, q, hm, hq, hle⟩
  · have := h.good j q hj hq
    rw [e, hb] at this
    cases this
  · rcases Nat.lt_or_ge i m with hlt | hge
    · exact sle_trans (.inr (h.lt_at hi hq hlt)) hle
    · obtain rfl : i = m := by omega
      rw [hi] at hq
      obtain rfl := Option.some.inj hq
      exact hle
theorem Inv.none (h : Inv step k n0 bad L L.length 0) {u : List Nat} (hu : over k u) : bad (run step n0 u) = false := by
  rcases h.preword u hu with ⟨j, q, hj, hq, e, _⟩ | ⟨m, q, hm, hq, _⟩
  · rw [← e]; exact h.good j q hj hq
  · have := (List.getElem?_eq_some_iff.1 hq).1
    omega
end Bf
end Go.Proofs.Ytenkhjmedolknaa
