/- Beginnings of words over cells, in plain Lean: the opening grammar against items. Begins in plain Lean: values of nothing, which symbols have words. Sets of items in plain Lean: sound and closed sets are the items. The contracts of gram.T and gram.N. hole.less, hole.then, hole.is. The function values of parlref4.Nearest. -/
import Derived.Test.YtjpmebppdcclbaaJHoleTellsRow5
import Derived.Test.YtjpmebppdcclbaaJHoleTellsRow1
import Derived.Test.YtjpmebppdcclbaaJHoleTellsRow3
import Derived.Test.YtjpmebppdcclbaaJHoleTellsRow4
import Derived.BigQuiet
namespace Go.Proofs.Ytjpmebppdcclbaa
namespace Ht
open Rp Hl
def R0 (P : Sym → Nat → Nat → Prop) : List Sym → Nat → Nat → Prop
  | [], i, j => i = j
  | s :: l, i, j => ∃ m, i ≤ m ∧ m ≤ j ∧ P s i m ∧ R0 P l m j
def D (K : List Rule) (lf : Sym → Nat → Prop) : Nat → Sym → Nat → Nat → Prop
  | 0, s, i, j => j = i + 1 ∧ lf s i
  | h + 1, s, i, j => (j = i + 1 ∧ lf s i) ∨ (s.term = false ∧ ∃ r ∈ K, r.left = s.n ∧ R0 (D K lf h) r.right i j)
def Dx (K : List Rule) (lf : Sym → Nat → Prop) (s : Sym) (i j : Nat) : Prop := ∃ h, D K lf h s i j
section
variable {P Q : Sym → Nat → Nat → Prop}
theorem R0.mono : ∀ {l : List Sym} {i j : Nat}, (∀ s ∈ l, ∀ i j, P s i j → Q s i j) → R0 P l i j → R0 Q l i j
  | [], _, _, _, h => h
  | s :: l, i, j, hpq, ⟨m, h1, h2, h3, h4⟩ => ⟨m, h1, h2, hpq s (by simp) _ _ h3, R0.mono (fun s hs => hpq s (by simp [hs])) h4⟩
theorem R0.le (hP : ∀ s i j, P s i j → i ≤ j) : ∀ {l : List Sym} {i j : Nat}, R0 P l i j → i ≤ j
  | [], _, _, h => by rw [show _ = _ from h]; exact Nat.le_refl _
  | s :: l, i, j, ⟨m, h1, h2, _⟩ => Nat.le_trans h1 h2
theorem R0.app : ∀ {l l' : List Sym} {i j : Nat}, R0 P (l ++ l') i j ↔ ∃ m, R0 P l i m ∧ R0 P l' m j ∧ i ≤ m ∧ (l ≠ [] → m ≤ j)
  | [], l', i, j => by
    constructor
    · intro h; exact ⟨i, rfl, h, Nat.le_refl _, fun h => absurd rfl h⟩
    · rintro ⟨m, h1, h2, _⟩
      have : i = m := h1
      subst this; exact h2
  | s :: l, l', i, j => by
    constructor
    · rintro ⟨m, h1, h2, h3, h4⟩
      obtain ⟨k, h5, h6, h7, h8⟩ := R0.app.1 h4
      refine ⟨k, ⟨m, h1, h7, h3, h5⟩, h6, by omega, fun _ => ?_⟩
      by_cases e : l = []
      · subst e
        have : m = k := h5
        omega
      · exact h8 e
    · rintro ⟨k, ⟨m, h1, h2, h3, h4⟩, h5, h6, h7⟩
      have h8 := h7 (by simp)
      exact ⟨m, h1, by omega, h3, R0.app.2 ⟨k, h4, h5, h2, fun _ => h8⟩⟩
theorem R0.one (hP : ∀ s i j, P s i j → i ≤ j) {s : Sym} {i j : Nat} : R0 P [s] i j ↔ P s i j := by
  constructor
  · rintro ⟨m, h1, h2, h3, h4⟩
    have : m = j := h4
    subst this; exact h3
  · intro h; exact ⟨j, hP _ _ _ h, Nat.le_refl _, h, rfl⟩
theorem R0.snoc (hP : ∀ s i j, P s i j → i ≤ j) {l : List Sym} {s : Sym} {i m j : Nat} (h1 : R0 P l i m) (h2 : P s m j) : R0 P (l ++ [s]) i j :=
  R0.app.2 ⟨m, h1, (R0.one hP).2 h2, R0.le hP h1, fun _ => hP _ _ _ h2⟩
end
section
variable {K K' : List Rule} {lf lf' : Sym → Nat → Prop}
theorem D.le : ∀ {h : Nat} {s : Sym} {i j : Nat}, D K lf h s i j → i ≤ j
  | 0, _, _, _, hd => by have := hd.1; omega
  | h + 1, s, i, j, hd => by
    rcases hd with hd | ⟨_, r, _, _, hr⟩
    · omega
    · exact R0.le (fun s i j hp => D.le hp) hr
theorem Dx.le {s : Sym} {i j : Nat} (h : Dx K lf s i j) : i ≤ j := by obtain ⟨k, h⟩ := h; exact h.le
theorem D.up {h : Nat} : ∀ {s : Sym} {i j : Nat}, D K lf h s i j → D K lf (h + 1) s i j := by
  induction h with
  | zero => intro s i j hd; exact .inl hd
  | succ h ih =>
    intro s i j hd
    rcases hd with hd | ⟨h1, r, h2, h3, h4⟩
    · exact .inl hd
    · exact .inr ⟨h1, r, h2, h3, h4.mono fun _ _ _ _ => ih⟩
theorem D.up' {h h' : Nat} (hh : h ≤ h') {s : Sym} {i j : Nat} (hd : D K lf h s i j) : D K lf h' s i j := by
  induction hh with
  | refl => exact hd
  | step _ ih => exact ih.up
theorem R0.ex : ∀ {l : List Sym} {i j : Nat}, R0 (Dx K lf) l i j → ∃ h, R0 (D K lf h) l i j
  | [], _, _, h => ⟨0, h⟩
  | s :: l, i, j, ⟨m, h1, h2, ⟨k, hk⟩, h4⟩ => by
    obtain ⟨k', hk'⟩ := R0.ex h4
    exact ⟨max k k', m, h1, h2, hk.up' (Nat.le_max_left _ _), hk'.mono fun _ _ _ _ hd => hd.up' (Nat.le_max_right _ _)⟩
theorem Dx.rule {r : Rule} (hr : r ∈ K) {i j : Nat} (h : R0 (Dx K lf) r.right i j) : Dx K lf ⟨false, r.left⟩ i j := by
  obtain ⟨k, hk⟩ := h.ex
  exact ⟨k + 1, .inr ⟨rfl, r, hr, rfl, hk⟩⟩
theorem D.grow (hK : ∀ r ∈ K, r ∈ K') : ∀ {h : Nat} {s : Sym} {i j : Nat}, D K lf h s i j → D K' lf h s i j
  | 0, _, _, _, hd => hd
  | h + 1, s, i, j, hd => by
    rcases hd with hd | ⟨h1, r, h2, h3, h4⟩
    · exact .inl hd
    · exact .inr ⟨h1, r, hK r h2, h3, h4.mono fun _ _ _ _ => D.grow hK⟩
theorem D.cells {n : Nat} (hlf : ∀ s i, i < n → (lf s i ↔ lf' s i)) : ∀ {h : Nat} {s : Sym} {i j : Nat}, j ≤ n → D K lf h s i j → D K lf' h s i j
  | 0, s, i, j, hj, hd => ⟨hd.1, (hlf s i (by have := hd.1; omega)).1 hd.2⟩
  | h + 1, s, i, j, hj, hd => by
    rcases hd with hd | ⟨h1, r, h2, h3, h4⟩
    · exact .inl ⟨hd.1, (hlf s i (by have := hd.1; omega)).1 hd.2⟩
    · refine .inr ⟨h1, r, h2, h3, ?_⟩
      have : ∀ {l : List Sym} {i : Nat}, R0 (D K lf h) l i j → R0 (D K lf' h) l i j := by
        intro l
        induction l with
        | nil => intro i hh; exact hh
        | cons t l ih =>
          intro i hh
          obtain ⟨m, q1, q2, q3, q4⟩ := hh
          exact ⟨m, q1, q2, D.cells hlf (by omega) q3, ih q4⟩
      exact this h4
end
/-! predicted nonterminals, items -/
inductive Pd (K : List Rule) (lf : Sym → Nat → Prop) (S : Int) : Nat → Int → Prop
  | start : Pd K lf S 0 S
  | step {f : Nat} {r : Rule} {d k : Nat} {A : Int} : Pd K lf S f r.left → r ∈ K → R0 (Dx K lf) (r.right.take d) f k → r.right[d]? = some ⟨false, A⟩ → Pd K lf S k A
def It (K : List Rule) (lf : Sym → Nat → Prop) (S : Int) (n : Nat) (t : Int) : Prop := ∃ r ∈ K, ∃ d f, Pd K lf S f r.left ∧ R0 (Dx K lf) (r.right.take d) f n ∧ r.right[d]? = some ⟨true, t⟩
def hwS (hw : Sym → Bool) (s : Sym) : Bool := s.term || hw s
structure HW (K : List Rule) (hw : Sym → Bool) : Prop where
  cl : ∀ r ∈ K, (∀ s ∈ r.right, hwS hw s = true) → hw ⟨false, r.left⟩ = true
  ex : ∀ A : Int, hw ⟨false, A⟩ = true → ∃ r ∈ K, r.left = A ∧ ∀ s ∈ r.right, hwS hw s = true
def KW (K : List Rule) (hw : Sym → Bool) : List Rule := K.filter fun r => r.right.all (hwS hw)
theorem mem_KW {K : List Rule} {hw : Sym → Bool} {r : Rule} : r ∈ KW K hw ↔ r ∈ K ∧ ∀ s ∈ r.right, hwS hw s = true := by
  unfold KW
  rw [List.mem_filter, List.all_eq_true]
def headO (N : Nat) (r : Rule) (p : Nat) : List Sym := match r.right[p]? with
  | some y => if y.term then r.right.take p else r.right.take p ++ [⟨false, y.n + N⟩]
  | none => []
def opn (N : Nat) (r : Rule) : List Rule := ⟨r.left + N, []⟩ :: ⟨r.left + N, r.right⟩ :: (List.range r.right.length).map fun p => ⟨r.left + N, headO N r p⟩
def KO (K : List Rule) (N : Nat) (hw : Sym → Bool) : List Rule := K ++ (KW K hw).flatMap (opn N)
def lfB (hw : Sym → Bool) (N : Nat) (l : List Sym) (s : Sym) (i : Nat) : Prop := i < l.length ∧ fitB s (l.getD i ⟨true, 0⟩) = true ∧ (s.term = true ∨ (N : Int) ≤ s.n ∨ hw s = true)
theorem mem_KO {K : List Rule} {N : Nat} {hw : Sym → Bool} {x : Rule} : x ∈ KO K N hw ↔ x ∈ K ∨ ∃ r ∈ KW K hw, x = ⟨r.left + N, []⟩ ∨ x = ⟨r.left + N, r.right⟩ ∨ ∃ p, p < r.right.length ∧ x = ⟨r.left + N, headO N r p⟩ := by
  unfold KO opn
  rw [List.mem_append, List.mem_flatMap]
  simp only [List.mem_cons, List.mem_map, List.mem_range]
  constructor
  · rintro (h | ⟨r, hr, h | h | ⟨p, hp, h⟩⟩)
    · exact .inl h
    · exact .inr ⟨r, hr, .inl h⟩
    · exact .inr ⟨r, hr, .inr (.inl h)⟩
    · exact .inr ⟨r, hr, .inr (.inr ⟨p, hp, h.symm⟩)⟩
  · rintro (h | ⟨r, hr, h | h | ⟨p, hp, h⟩⟩)
    · exact .inl h
    · exact .inr ⟨r, hr, .inl h⟩
    · exact .inr ⟨r, hr, .inr (.inl h)⟩
    · exact .inr ⟨r, hr, .inr (.inr ⟨p, hp, h.symm⟩)⟩
section
variable {K : List Rule} {N tm : Nat} {hw : Sym → Bool} {l : List Sym}
theorem D.has (hK : KG N K (Hl.okS N tm)) (hH : HW K hw) : ∀ {h : Nat} {s : Sym} {i j : Nat}, Hl.okS N tm s → D K (lfB hw N l) h s i j → hwS hw s = true ∧ D (KW K hw) (lfB hw N l) h s i j := by
  have leafc : ∀ {s : Sym} {i : Nat}, Hl.okS N tm s → lfB hw N l s i → hwS hw s = true := by
    intro s i hs hl
    unfold hwS
    rcases hl.2.2 with h | h | h
    · rw [h]; rfl
    · cases ht : s.term with
      | true => rfl
      | false => have := hs.2.2 ht; omega
    · rw [h]; simp
  intro h
  induction h with
  | zero => intro s i j hs hd; exact ⟨leafc hs hd.2, hd⟩
  | succ h ih =>
    intro s i j hs hd
    rcases hd with hd | ⟨h1, r, h2, h3, h4⟩
    · exact ⟨leafc hs hd.2, .inl hd⟩
    · obtain ⟨q1, q2, q3⟩ := hK r h2
      have key : ∀ {l' : List Sym} {i : Nat}, (∀ s ∈ l', Hl.okS N tm s) → R0 (D K (lfB hw N l) h) l' i j → (∀ s ∈ l', hwS hw s = true) ∧ R0 (D (KW K hw) (lfB hw N l) h) l' i j := by
        intro l'
        induction l' with
        | nil => intro i _ hh; exact ⟨fun s hs => (by cases hs), hh⟩
        | cons t l' ih2 =>
          intro i ho hh
          obtain ⟨m, a1, a2, a3, a4⟩ := hh
          obtain ⟨b1, b2⟩ := ih (ho t (by simp)) a3
          obtain ⟨b3, b4⟩ := ih2 (fun s hs => ho s (by simp [hs])) a4
          refine ⟨fun s hs => ?_, m, a1, a2, b2, b4⟩
          rcases List.mem_cons.1 hs with rfl | hs
          · exact b1
          · exact b3 s hs
      obtain ⟨k1, k2⟩ := key q3 h4
      have hs2 : s = ⟨false, r.left⟩ := by obtain ⟨a, b⟩ := s; simp at h1 h3; rw [h1, h3]
      refine ⟨?_, .inr ⟨h1, r, mem_KW.2 ⟨h2, k1⟩, h3, k2⟩⟩
      unfold hwS
      rw [hs2, hH.cl r h2 k1]; rfl
theorem D.norm (hK : KG N K (Hl.okS N tm)) : ∀ {h : Nat} {s : Sym} {i j : Nat}, Hl.okS N tm s → D (KO K N hw) (lfB hw N l) h s i j → D K (lfB hw N l) h s i j := by
  intro h
  induction h with
  | zero => intro s i j _ hd; exact hd
  | succ h ih =>
    intro s i j hs hd
    rcases hd with hd | ⟨h1, r, h2, h3, h4⟩
    · exact .inl hd
    · have hr : r ∈ K := by
        rcases mem_KO.1 h2 with h | ⟨r', hr', h⟩
        · exact h
        · exfalso
          have h5 := (hK r' (mem_KW.1 hr').1).1
          have h6 := hs.2.2 h1
          have h7 : r.left = r'.left + N := by
            rcases h with rfl | rfl | ⟨p, _, rfl⟩ <;> rfl
          omega
      have key : ∀ {l' : List Sym} {i : Nat}, (∀ s ∈ l', Hl.okS N tm s) → R0 (D (KO K N hw) (lfB hw N l) h) l' i j → R0 (D K (lfB hw N l) h) l' i j := by
        intro l'
        induction l' with
        | nil => intro i _ hh; exact hh
        | cons t l' ih2 =>
          intro i ho hh
          obtain ⟨m, a1, a2, a3, a4⟩ := hh
          exact ⟨m, a1, a2, ih (ho t (by simp)) a3, ih2 (fun s hs => ho s (by simp [hs])) a4⟩
      exact .inr ⟨h1, r, hr, h3, key (hK r hr).2.2 h4⟩
theorem R0.kw (hK : KG N K (Hl.okS N tm)) (hH : HW K hw) {h : Nat} : ∀ {l' : List Sym} {i j : Nat}, (∀ s ∈ l', Hl.okS N tm s) → R0 (D (KO K N hw) (lfB hw N l) h) l' i j → R0 (D (KW K hw) (lfB hw N l) h) l' i j
  | [], _, _, _, hh => hh
  | t :: l', i, j, ho, ⟨m, a1, a2, a3, a4⟩ => ⟨m, a1, a2, ((D.norm hK (ho t (by simp)) a3).has hK hH (ho t (by simp))).2, R0.kw hK hH (fun s hs => ho s (by simp [hs])) a4⟩
theorem kw_ko {r : Rule} (h : r ∈ KW K hw) : r ∈ KO K N hw := mem_KO.2 (.inl (mem_KW.1 h).1)
theorem R0.last {P : Sym → Nat → Nat → Prop} {n : Nat} : ∀ {l' : List Sym} {i : Nat}, i ≤ n → R0 P l' i (n + 1) → ∃ d s j, l'[d]? = some s ∧ R0 P (l'.take d) i j ∧ i ≤ j ∧ j ≤ n ∧ P s j (n + 1)
  | [], i, hi, h => by have : i = n + 1 := h; omega
  | s :: l', i, hi, ⟨m, h1, h2, h3, h4⟩ => by
    by_cases hm : m ≤ n
    · obtain ⟨d, s', j, a1, a2, a3, a4, a5⟩ := R0.last hm h4
      exact ⟨d + 1, s', j, by simpa using a1, ⟨m, h1, a3, h3, a2⟩, by omega, a4, a5⟩
    · have : m = n + 1 := by omega
      subst this
      exact ⟨0, s, i, rfl, rfl, Nat.le_refl _, hi, h3⟩
end
section
variable {K : List Rule} {N tm : Nat} {hw : Sym → Bool} {l : List Sym} {S t : Int}
theorem fit_last {s : Sym} (ht : 0 ≤ t) (h : fitB s ⟨true, t⟩ = true) : s = ⟨true, t⟩ := by
  unfold fitB at h
  simp only [Bool.or_eq_true, Bool.and_eq_true, decide_eq_true_eq] at h
  rcases h with h | h
  · exact h
  · exact absurd h.2 (by omega)
theorem getD_last : (l ++ [(⟨true, t⟩ : Sym)]).getD l.length ⟨true, 0⟩ = ⟨true, t⟩ := by simp [List.getD_eq_getElem?_getD]
theorem lf_cells {s : Sym} {i : Nat} (hi : i < l.length) : lfB hw N (l ++ [⟨true, t⟩]) s i ↔ lfB hw N l s i := by
  unfold lfB
  have e : (l ++ [(⟨true, t⟩ : Sym)]).getD i ⟨true, 0⟩ = l.getD i ⟨true, 0⟩ := by
    rw [List.getD_eq_getElem?_getD, List.getD_eq_getElem?_getD, List.getElem?_append_left hi]
  rw [e]
  simp only [List.length_append, List.length_cons, List.length_nil]
  constructor
  · rintro ⟨_, h2, h3⟩; exact ⟨hi, h2, h3⟩
  · rintro ⟨_, h2, h3⟩; exact ⟨by omega, h2, h3⟩
theorem item_down (ht : 0 ≤ t) : ∀ {h : Nat} {s : Sym} {r : Rule} {d f j : Nat}, r ∈ KW K hw → Pd (KW K hw) (lfB hw N (l ++ [⟨true, t⟩])) S f r.left → R0 (Dx (KW K hw) (lfB hw N (l ++ [⟨true, t⟩]))) (r.right.take d) f j → r.right[d]? = some s → j ≤ l.length → D (KW K hw) (lfB hw N (l ++ [⟨true, t⟩])) h s j (l.length + 1) → It (KW K hw) (lfB hw N (l ++ [⟨true, t⟩])) S l.length t := by
  have leafc : ∀ {s : Sym} {r : Rule} {d f j : Nat}, r ∈ KW K hw → Pd (KW K hw) (lfB hw N (l ++ [⟨true, t⟩])) S f r.left → R0 (Dx (KW K hw) (lfB hw N (l ++ [⟨true, t⟩]))) (r.right.take d) f j → r.right[d]? = some s → (l.length + 1 = j + 1 ∧ lfB hw N (l ++ [⟨true, t⟩]) s j) → It (KW K hw) (lfB hw N (l ++ [⟨true, t⟩])) S l.length t := by
    rintro s r d f j hr hp h0 hd ⟨e, hl⟩
    obtain rfl : j = l.length := by omega
    have := hl.2.1
    rw [getD_last] at this
    rw [fit_last ht this] at hd
    exact ⟨r, hr, d, f, hp, h0, hd⟩
  intro h
  induction h with
  | zero => intro s r d f j hr hp h0 hd hj hD; exact leafc hr hp h0 hd hD
  | succ h ih =>
    intro s r d f j hr hp h0 hd hj hD
    rcases hD with hD | ⟨h1, r2, h2, h3, h4⟩
    · exact leafc hr hp h0 hd hD
    · have hs : s = ⟨false, r2.left⟩ := by obtain ⟨a, b⟩ := s; simp at h1 h3; rw [h1, h3]
      rw [hs] at hd
      have hp2 : Pd (KW K hw) (lfB hw N (l ++ [⟨true, t⟩])) S j r2.left := .step hp hr h0 hd
      obtain ⟨d2, s2, j2, a1, a2, a3, a4, a5⟩ := R0.last hj h4
      exact ih h2 hp2 (a2.mono fun _ _ _ _ hd => ⟨h, hd⟩) a1 a4 a5
theorem beg_item (hK : KG N K (Hl.okS N tm)) (hH : HW K hw) (hl : ∀ c ∈ l, cellOk N tm c) (ht : 0 ≤ t) : ∀ {h : Nat} {A : Int} {i : Nat}, 0 ≤ A → i ≤ l.length → Pd (KW K hw) (lfB hw N (l ++ [⟨true, t⟩])) S i A → D (KO K N hw) (lfB hw N (l ++ [⟨true, t⟩])) h ⟨false, A + N⟩ i (l.length + 1) → It (KW K hw) (lfB hw N (l ++ [⟨true, t⟩])) S l.length t := by
  have leafc : ∀ {A : Int} {i : Nat}, 0 ≤ A → i ≤ l.length → ¬ lfB hw N (l ++ [⟨true, t⟩]) ⟨false, A + N⟩ i := by
    intro A i hA hi h
    have hf := h.2.1
    unfold fitB at hf
    simp only [Bool.false_and, Bool.or_false, decide_eq_true_eq] at hf
    rcases Nat.lt_or_ge i l.length with hi2 | hi2
    · have e : (l ++ [(⟨true, t⟩ : Sym)]).getD i ⟨true, 0⟩ = l[i] := by
        rw [List.getD_eq_getElem?_getD, List.getElem?_append_left hi2, List.getElem?_eq_getElem hi2]; rfl
      rw [e] at hf
      have := (hl l[i] (List.getElem_mem hi2)).2
      rw [← hf] at this
      have := (this rfl).2
      simp only at this
      omega
    · obtain rfl : i = l.length := by omega
      rw [getD_last] at hf
      cases hf
  intro h
  induction h with
  | zero => intro A i hA hi _ hD; exact absurd hD.2 (leafc hA hi)
  | succ h ih =>
    intro A i hA hi hp hD
    rcases hD with hD | ⟨_, x, hx, hxl, hrow⟩
    · exact absurd hD.2 (leafc hA hi)
    · have hxK : ∃ r ∈ KW K hw, x = ⟨r.left + N, []⟩ ∨ x = ⟨r.left + N, r.right⟩ ∨ ∃ p, p < r.right.length ∧ x = ⟨r.left + N, headO N r p⟩ := by
        rcases mem_KO.1 hx with h | h
        · have := (hK x h).2.1
          simp only at hxl
          omega
        · exact h
      obtain ⟨r, hr, hx2⟩ := hxK
      have hrl : r.left = A := by
        rcases hx2 with rfl | rfl | ⟨p, _, rfl⟩ <;> (simp only at hxl; omega)
      have hro := (hK r (mem_KW.1 hr).1).2.2
      have hp' : Pd (KW K hw) (lfB hw N (l ++ [⟨true, t⟩])) S i r.left := by rw [hrl]; exact hp
      have part : ∀ q, R0 (D (KO K N hw) (lfB hw N (l ++ [⟨true, t⟩])) h) (r.right.take q) i (l.length + 1) → It (KW K hw) (lfB hw N (l ++ [⟨true, t⟩])) S l.length t := by
        intro q hq
        have hq2 := R0.kw hK hH (fun s hs => hro s (List.mem_of_mem_take hs)) hq
        obtain ⟨d, s, j, a1, a2, a3, a4, a5⟩ := R0.last hi hq2
        have hdq : d < q := by
          rcases Nat.lt_or_ge d q with h | h
          · exact h
          · rw [List.getElem?_eq_none (by rw [List.length_take]; omega)] at a1; cases a1
        rw [List.take_take, Nat.min_eq_left (by omega)] at a2
        rw [List.getElem?_take, if_pos hdq] at a1
        exact item_down ht hr hp' (a2.mono fun _ _ _ _ hd => ⟨h, hd⟩) a1 a4 a5
      rcases hx2 with rfl | rfl | ⟨p, hpl, rfl⟩
      · have : i = l.length + 1 := hrow
        omega
      · exact part r.right.length (by rw [List.take_length]; exact hrow)
      · have hy : r.right[p]? = some r.right[p] := List.getElem?_eq_getElem hpl
        simp only [headO, hy] at hrow
        by_cases htm : r.right[p].term = true
        · rw [if_pos htm] at hrow
          exact part p hrow
        · rw [if_neg htm] at hrow
          obtain ⟨m, a1, a2, a3, a4⟩ := R0.app.1 hrow
          have a5 := (R0.one (fun s i j hp => D.le hp)).1 a2
          have hyt : r.right[p].term = false := by simpa using htm
          have hyok := hro _ (List.getElem_mem hpl)
          by_cases hm : m ≤ l.length
          · have hq2 := R0.kw hK hH (fun s hs => hro s (List.mem_of_mem_take hs)) a1
            have hys : r.right[p]? = some ⟨false, r.right[p].n⟩ := by
              rw [hy]
              congr 1
              rw [← hyt]
            exact ih hyok.1 hm (.step hp' hr (hq2.mono fun _ _ _ _ hd => ⟨h, hd⟩) hys) a5
          · have : m = l.length + 1 := by have := a5.le; omega
            subst this
            exact part p a1
theorem pd_up {lf : Sym → Nat → Prop} {m : Nat} : ∀ {f : Nat} {A : Int}, Pd (KW K hw) lf S f A → f ≤ m → Dx (KO K N hw) lf ⟨false, A + N⟩ f m → Dx (KO K N hw) lf ⟨false, S + N⟩ 0 m := by
  intro f A hp
  induction hp with
  | start => intro _ h; exact h
  | @step f r d k A hp hr h0 hd ih =>
    intro hk h
    have hdl : d < r.right.length := by
      rcases Nat.lt_or_ge d r.right.length with h | h
      · exact h
      · rw [List.getElem?_eq_none h] at hd; cases hd
    have hf := R0.le (fun s i j hp => Dx.le hp) h0
    refine ih (by omega) ?_
    have hmem : (⟨r.left + N, headO N r d⟩ : Rule) ∈ KO K N hw := mem_KO.2 (.inr ⟨r, hr, .inr (.inr ⟨d, hdl, rfl⟩)⟩)
    refine Dx.rule (r := ⟨r.left + N, headO N r d⟩) hmem ?_
    simp only [headO, hd, Bool.false_eq_true, if_false]
    refine R0.snoc (fun s i j hp => Dx.le hp) (h0.mono fun s _ i j hx => ?_) h
    obtain ⟨q, hq⟩ := hx
    exact ⟨q, hq.grow fun r hr => kw_ko hr⟩
theorem item_beg (hH : HW K hw) (h : It (KW K hw) (lfB hw N (l ++ [⟨true, t⟩])) S l.length t) : Dx (KO K N hw) (lfB hw N (l ++ [⟨true, t⟩])) ⟨false, S + N⟩ 0 (l.length + 1) := by
  obtain ⟨r, hr, d, f, hp, h0, hd⟩ := h
  have hdl : d < r.right.length := by
    rcases Nat.lt_or_ge d r.right.length with h | h
    · exact h
    · rw [List.getElem?_eq_none h] at hd; cases hd
  have hf := R0.le (fun s i j hp => Dx.le hp) h0
  refine pd_up hp (by omega) ?_
  have hcell : Dx (KO K N hw) (lfB hw N (l ++ [⟨true, t⟩])) ⟨true, t⟩ l.length (l.length + 1) := ⟨0, rfl, by simp, by rw [getD_last]; unfold fitB; simp, .inl rfl⟩
  have hrow : R0 (Dx (KO K N hw) (lfB hw N (l ++ [⟨true, t⟩]))) (r.right.take (d + 1)) f (l.length + 1) := by
    rw [List.take_add_one, hd]
    refine R0.snoc (fun s i j hp => Dx.le hp) (h0.mono fun s _ i j hx => ?_) hcell
    obtain ⟨q, hq⟩ := hx
    exact ⟨q, hq.grow fun r hr => kw_ko hr⟩
  by_cases hlast : d + 1 = r.right.length
  · rw [hlast, List.take_length] at hrow
    exact Dx.rule (r := ⟨r.left + N, r.right⟩) (mem_KO.2 (.inr ⟨r, hr, .inr (.inl rfl)⟩)) hrow
  · have hd1 : d + 1 < r.right.length := by omega
    refine Dx.rule (r := ⟨r.left + N, headO N r (d + 1)⟩) (mem_KO.2 (.inr ⟨r, hr, .inr (.inr ⟨d + 1, hd1, rfl⟩)⟩)) ?_
    have hy : r.right[d + 1]? = some r.right[d + 1] := List.getElem?_eq_getElem hd1
    simp only [headO, hy]
    by_cases htm : r.right[d + 1].term = true
    · rw [if_pos htm]; exact hrow
    · rw [if_neg htm]
      have hwy := (mem_KW.1 hr).2 _ (List.getElem_mem hd1)
      have hyt : r.right[d + 1].term = false := by simpa using htm
      have hwy2 : hw ⟨false, r.right[d + 1].n⟩ = true := by
        unfold hwS at hwy
        rw [hyt, Bool.false_or] at hwy
        have e : r.right[d + 1] = ⟨false, r.right[d + 1].n⟩ := by
          rw [← hyt]
        rw [← e]; exact hwy
      obtain ⟨r3, hr3, hl3, hs3⟩ := hH.ex _ hwy2
      refine R0.snoc (fun s i j hp => Dx.le hp) hrow ?_
      have := Dx.rule (K := KO K N hw) (lf := lfB hw N (l ++ [⟨true, t⟩])) (r := ⟨r3.left + N, []⟩) (mem_KO.2 (.inr ⟨r3, mem_KW.2 ⟨hr3, hs3⟩, .inl rfl⟩)) (i := l.length + 1) (j := l.length + 1) rfl
      rw [hl3] at this
      exact this
theorem begins_iff (hK : KG N K (Hl.okS N tm)) (hH : HW K hw) (hl : ∀ c ∈ l, cellOk N tm c) (hS : 0 ≤ S) (ht : 0 ≤ t) : Dx (KO K N hw) (lfB hw N (l ++ [⟨true, t⟩])) ⟨false, S + N⟩ 0 (l.length + 1) ↔ It (KW K hw) (lfB hw N (l ++ [⟨true, t⟩])) S l.length t := by
  constructor
  · rintro ⟨h, hd⟩
    exact beg_item hK hH hl ht hS (Nat.zero_le _) .start hd
  · exact item_beg hH
end
end Ht
end Go.Proofs.Ytjpmebppdcclbaa
namespace Go.Proofs.Ytjpmebppdcclbaa
namespace Ht
open Rp Hl
def leafB (hw : Sym → Bool) (N : Nat) (l : List Sym) (y : Sym) (i j : Nat) : Option Val := if j = i + 1 ∧ i < l.length ∧ fitB y (l.getD i ⟨true, 0⟩) = true ∧ (y.term = true ∨ (N : Int) ≤ y.n ∨ hw y = true) then some zero else none
def GZ (v : Val) (_ _ : Nat) : Prop := v = zero
section
variable {K : List Rule} {N tm : Nat} {hw : Sym → Bool} {l : List Sym}
theorem leafB_some {y : Sym} {i j : Nat} {v : Val} : leafB hw N l y i j = some v ↔ v = zero ∧ j = i + 1 ∧ lfB hw N l y i := by
  unfold leafB lfB
  constructor
  · intro e
    split at e
    · rename_i h; cases e; exact ⟨rfl, h.1, h.2⟩
    · cases e
  · rintro ⟨rfl, h1, h2⟩
    rw [if_pos ⟨h1, h2⟩]
theorem emH_some {i j : Nat} {v : Val} : emH i j = some v ↔ v = zero ∧ i = j := by
  unfold emH
  constructor
  · intro e
    split at e
    · rename_i h; cases e; exact ⟨rfl, h⟩
    · cases e
  · rintro ⟨rfl, rfl⟩; rw [if_pos rfl]
theorem gokB {n : Nat} {ok : Sym → Prop} : GOk (leafB hw N l) emH n ok GZ := by
  refine ⟨fun v _ _ h => by rw [show v = zero from h]; exact wf_zero, fun y i j v e => ?_, wf_emH, fun y i j v _ _ _ e => (leafB_some.1 e).1, fun i j v _ _ e => (emH_some.1 e).1, fun i _ => rfl, fun a b i m j ha hb _ _ _ => ?_⟩
  · rw [(leafB_some.1 e).1]; exact wf_zero
  · rw [show a = zero from ha, show b = zero from hb]; rfl
theorem ko_ok (hK : KG N K (Hl.okS N tm)) : KG (2 * N) (KO K N hw) (Hl.okS (2 * N) tm) := by
  have up : ∀ s, Hl.okS N tm s → Hl.okS (2 * N) tm s := fun s h => ⟨h.1, h.2.1, fun e => by have := h.2.2 e; omega⟩
  intro x hx
  rcases mem_KO.1 hx with h | ⟨r, hr, h⟩
  · obtain ⟨h1, h2, h3⟩ := hK x h
    exact ⟨h1, by omega, fun s hs => up s (h3 s hs)⟩
  · obtain ⟨h1, h2, h3⟩ := hK r (mem_KW.1 hr).1
    have hl : x.left = r.left + N := by rcases h with rfl | rfl | ⟨p, _, rfl⟩ <;> rfl
    refine ⟨by omega, by omega, fun s hs => ?_⟩
    rcases h with rfl | rfl | ⟨p, hp, rfl⟩
    · cases hs
    · exact up s (h3 s hs)
    · have hy : r.right[p]? = some r.right[p] := List.getElem?_eq_getElem hp
      simp only [headO, hy] at hs
      split at hs
      · exact up s (h3 s (List.mem_of_mem_take hs))
      · rename_i ht
        rcases List.mem_append.1 hs with hs | hs
        · exact up s (h3 s (List.mem_of_mem_take hs))
        · simp at hs
          subst hs
          have h4 := h3 _ (List.getElem_mem hp)
          have h5 := h4.2.2 (by simpa using ht)
          have h6 := h4.1
          exact ⟨by show (0 : Int) ≤ r.right[p].n + (N : Int); omega, (fun e => by cases e), fun _ => by show r.right[p].n + (N : Int) < _; omega⟩
theorem head_len {r : Rule} {p : Nat} (hp : p < r.right.length) : (headO N r p).length ≤ r.right.length := by
  have hy : r.right[p]? = some r.right[p] := List.getElem?_eq_getElem hp
  simp only [headO, hy]
  split
  · rw [List.length_take]; omega
  · rw [List.length_append, List.length_take]; simp; omega
theorem ko_len (hr4 : ∀ r ∈ K, r.right.length ≤ 4) : ∀ r ∈ KO K N hw, r.right.length ≤ 4 := by
  intro x hx
  rcases mem_KO.1 hx with h | ⟨r, hr, h⟩
  · exact hr4 x h
  · have h1 := hr4 r (mem_KW.1 hr).1
    rcases h with rfl | rfl | ⟨p, hp, rfl⟩
    · simp
    · exact h1
    · exact Nat.le_trans (head_len hp) h1
theorem planB {n M : Nat} {K : List Rule} (hK : KG M K (Hl.okS M tm)) : Plan K (leafB hw N l) emH n (Hl.okS M tm) 0 (fun _ _ _ T => CG (leafB hw N l) emH n M K GZ T ∧ True) (muU [zero] M n) := by
  refine planG gokB hK _ _ (fun _ => True) trivial (fun _ _ _ _ _ _ _ _ _ _ _ _ => trivial) (fun T A x y v h _ e => ?_) (fun T h _ s hsk i j hij hj => ?_)
  · have := (h A x y v e).2.2.2.2.1
    rw [show v = zero from this]; simp
  · cases e : ofT (leafB hw N l) T s i j with
    | none => exact ⟨Nat.zero_le _, Nat.zero_le _⟩
    | some v =>
      have := ((of_vo gokB h).2 s i j v hij hj e).2 hsk
      rw [show v = zero from this]
      exact ⟨Nat.le_refl _, Nat.le_refl _⟩
/-! values of nothing are derivations over cells -/
theorem row_r0 {P : Sym → Nat → Nat → Val → Prop} {Q : Sym → Nat → Nat → Prop} (hPQ : ∀ s i j v, P s i j v → Q s i j ∧ i ≤ j) : ∀ {l : List Sym} {i j : Nat} {v : Val}, Row P l i j v → R0 Q l i j
  | [], _, _, _, h => h.elim
  | [s], i, j, v, h => ⟨j, (hPQ _ _ _ _ h).2, Nat.le_refl _, (hPQ _ _ _ _ h).1, rfl⟩
  | s :: t :: l, _, _, _, ⟨m, a, b, h1, h2, h3, h4, _⟩ => ⟨m, h1, h2, (hPQ _ _ _ _ h3).1, row_r0 hPQ h4⟩
theorem r0_row {P : Sym → Nat → Nat → Val → Prop} {Q : Sym → Nat → Nat → Prop} {n : Nat} (hQP : ∀ s i j, j ≤ n → Q s i j → P s i j zero) : ∀ {l : List Sym} {i j : Nat}, l ≠ [] → j ≤ n → R0 Q l i j → Row P l i j zero
  | [], _, _, h, _, _ => absurd rfl h
  | [s], i, j, _, hj, ⟨m, h1, h2, h3, h4⟩ => by
    have : m = j := h4
    subst this
    exact hQP _ _ _ hj h3
  | s :: t :: l, i, j, _, hj, ⟨m, h1, h2, h3, h4⟩ => ⟨m, zero, zero, h1, h2, hQP _ _ _ (by omega) h3, r0_row hQP (by simp) hj h4, rfl⟩
theorem dr_d {n : Nat} {K : List Rule} {h : Nat} : ∀ {y : Sym} {i j : Nat} {v : Val}, Dr K (clL (leafB hw N l) n) (clE emH n) h y i j v → D K (lfB hw N l) h y i j := by
  have lf : ∀ {y : Sym} {i j : Nat} {v : Val}, clL (leafB hw N l) n y i j = some v → j = i + 1 ∧ lfB hw N l y i := by
    intro y i j v e
    unfold clL at e
    split at e
    · exact (leafB_some.1 e).2
    · cases e
  induction h with
  | zero => intro y i j v e; exact lf e
  | succ h ih =>
    intro y i j v e
    rcases e with e | ⟨h1, r, h2, h3, ⟨h4, h5⟩ | h4⟩
    · exact .inl (lf e)
    · refine .inr ⟨h1, r, h2, h3, ?_⟩
      rw [h4]
      unfold clE at h5
      split at h5
      · exact (emH_some.1 h5).2
      · cases h5
    · exact .inr ⟨h1, r, h2, h3, row_r0 (fun s i j v hd => ⟨ih hd, (ih hd).le⟩) h4⟩
theorem d_dr {n : Nat} {K : List Rule} {h : Nat} : ∀ {y : Sym} {i j : Nat}, j ≤ n → D K (lfB hw N l) h y i j → Dr K (clL (leafB hw N l) n) (clE emH n) h y i j zero := by
  have lf : ∀ {y : Sym} {i j : Nat}, j ≤ n → j = i + 1 ∧ lfB hw N l y i → clL (leafB hw N l) n y i j = some zero := by
    rintro y i j hj ⟨e, hl⟩
    unfold clL
    rw [if_pos ⟨by omega, hj⟩]
    exact leafB_some.2 ⟨rfl, e, hl⟩
  induction h with
  | zero => intro y i j hj e; exact lf hj e
  | succ h ih =>
    intro y i j hj e
    rcases e with e | ⟨h1, r, h2, h3, h4⟩
    · exact .inl (lf hj e)
    · refine .inr ⟨h1, r, h2, h3, ?_⟩
      by_cases hre : r.right = []
      · refine .inl ⟨hre, ?_⟩
        rw [hre] at h4
        have : i = j := h4
        subst this
        unfold clE
        rw [if_pos ⟨Nat.le_refl _, hj⟩]
        exact emH_some.2 ⟨rfl, rfl⟩
      · exact .inr (r0_row (fun s i j hj hd => ih hj hd) hre hj h4)
theorem bv_iff {n M : Nat} {K : List Rule} {T : Tb} (h : CG (leafB hw N l) emH n M K GZ T) (hcl : ClosedT K (leafB hw N l) emH n T) (y : Sym) {i j : Nat} (hij : i ≤ j) (hj : j ≤ n) :
    (ofT (leafB hw N l) T y i j).isSome = true ↔ Dx K (lfB hw N l) y i j := by
  have g := gokB (hw := hw) (N := N) (l := l) (n := n) (ok := fun _ => True)
  have hvo := of_vo g h
  constructor
  · intro e
    cases e2 : ofT (leafB hw N l) T y i j with
    | none => rw [e2] at e; cases e
    | some v =>
      obtain ⟨k, hd⟩ := (hvo.2 y i j v hij hj e2).1
      exact ⟨k, dr_d hd⟩
  · rintro ⟨k, hd⟩
    have hc := closed_of g (cg_wf g h) hcl
    obtain ⟨_, u, h1, _⟩ := closed_le (fun y i j v e => (cl_sound hvo y i j v e).1) (fun y i j v e => by
      unfold clL at e
      split at e
      · exact g.lwf _ _ _ v e
      · cases e) (fun i j v e => by
      unfold clE at e
      split at e
      · exact g.ewf _ _ v e
      · cases e) hc k y i j zero (d_dr hj hd)
    obtain ⟨_, _, h3⟩ := cl_vp.1 h1
    rw [h3]; rfl
end
/-! which symbols have words -/
noncomputable def hwOf (K : List Rule) (N tm : Nat) (y : Sym) : Bool := (svOf K N tm y).isSome
theorem hw_ok {K : List Rule} {N tm : Nat} {T : Tb} (h : CG leafS emS 0 N K (GS tm) T) (hcl : ClosedT K leafS emS 0 T) : HW K (hwOf K N tm) := by
  have g := gokS N tm
  have hvo := of_vo g h
  have hc := closed_of g (cg_wf g h) hcl
  have he : ∀ y, clV 0 (ofT leafS T) y 0 0 = svOf K N tm y := fun y => by
    unfold clV
    rw [if_pos ⟨Nat.le_refl _, Nat.le_refl _⟩]
    exact sv_eqT h hcl y
  have hall : ∀ s : Sym, hwS (hwOf K N tm) s = true → ∃ v, clV 0 (ofT leafS T) s 0 0 = some v := by
    intro s hs
    have : hwOf K N tm s = true := by
      unfold hwS at hs
      cases ht : s.term with
      | true =>
        unfold hwOf
        rw [← sv_eqT h hcl s, of_S, if_pos ht]; rfl
      | false => rw [ht] at hs; simpa using hs
    rw [he]
    unfold hwOf at this
    exact Option.isSome_iff_exists.1 this
  refine ⟨fun r hr hs => ?_, fun A hA => ?_⟩
  · have key : ∃ u, clV 0 (ofT leafS T) ⟨false, r.left⟩ 0 0 = some u := by
      by_cases hre : r.right = []
      · obtain ⟨u, h1, _⟩ := hc.empty r hr hre 0 0 zero (by unfold clE emS; rw [if_pos ⟨Nat.le_refl _, Nat.le_refl _⟩])
        exact ⟨u, h1⟩
      · have row : ∀ {l : List Sym}, l ≠ [] → (∀ s ∈ l, hwS (hwOf K N tm) s = true) → ∃ v, Row (fun s i j v => clV 0 (ofT leafS T) s i j = some v) l 0 0 v := by
          intro l
          induction l with
          | nil => intro h _; exact absurd rfl h
          | cons s l ih =>
            intro _ hs
            obtain ⟨a, ha⟩ := hall s (hs s (by simp))
            cases l with
            | nil => exact ⟨a, ha⟩
            | cons t l =>
              obtain ⟨b, hb⟩ := ih (by simp) (fun s hs2 => hs s (by simp [List.mem_cons] at hs2 ⊢; exact .inr hs2))
              exact ⟨_, 0, a, b, Nat.le_refl _, Nat.le_refl _, ha, hb, rfl⟩
        obtain ⟨v, hv⟩ := row hre hs
        obtain ⟨u, h1, _⟩ := hc.rule r hr 0 0 v hv
        exact ⟨u, h1⟩
    obtain ⟨u, hu⟩ := key
    rw [he] at hu
    unfold hwOf
    rw [hu]; rfl
  · unfold hwOf at hA
    obtain ⟨v, hv⟩ := Option.isSome_iff_exists.1 hA
    rw [← sv_eqT h hcl] at hv
    obtain ⟨k, hd⟩ := (hvo.2 _ 0 0 v (Nat.le_refl _) (Nat.le_refl _) hv).1
    have lfn : clL leafS 0 ⟨false, A⟩ 0 0 ≠ some v := by
      intro e
      unfold clL leafS at e
      simp at e
    have back : ∀ {k : Nat} {s : Sym} {v : Val}, Dr K (clL leafS 0) (clE emS 0) k s 0 0 v → hwS (hwOf K N tm) s = true := by
      intro k s v hd
      obtain ⟨_, u, h1, _⟩ := closed_le (fun y i j v e => (cl_sound hvo y i j v e).1) (fun y i j v e => by
        unfold clL at e
        split at e
        · exact g.lwf _ _ _ v e
        · cases e) (fun i j v e => by
        unfold clE at e
        split at e
        · exact g.ewf _ _ v e
        · cases e) hc k s 0 0 v hd
      rw [he] at h1
      unfold hwS hwOf
      rw [h1]; simp
    cases k with
    | zero => exact absurd hd lfn
    | succ k =>
      rcases hd with hd | ⟨_, r, h2, h3, ⟨h4, _⟩ | h4⟩
      · exact absurd hd lfn
      · exact ⟨r, h2, h3, fun s hs => by rw [h4] at hs; cases hs⟩
      · refine ⟨r, h2, h3, ?_⟩
        have row : ∀ {l : List Sym} {i j : Nat} {v : Val}, i = 0 → j = 0 → Row (Dr K (clL leafS 0) (clE emS 0) k) l i j v → ∀ s ∈ l, hwS (hwOf K N tm) s = true := by
          intro l
          induction l with
          | nil => intro i j v _ _ hh; exact hh.elim
          | cons s l ih =>
            intro i j v hi hj hh
            subst hi hj
            cases l with
            | nil =>
              intro s' hs'
              simp at hs'
              subst hs'
              exact back hh
            | cons t l =>
              obtain ⟨m, a, b, q1, q2, q3, q4, _⟩ := hh
              obtain rfl : m = 0 := by omega
              intro s' hs'
              rcases List.mem_cons.1 hs' with rfl | hs'
              · exact back q3
              · exact ih rfl rfl q4 s' hs'
        exact row rfl rfl h4
theorem it_none {K : List Rule} {hw : Sym → Bool} (hH : HW K hw) {lf : Sym → Nat → Prop} {S : Int} {n : Nat} {t : Int} (hs : hw ⟨false, S⟩ = false) : ¬ It (KW K hw) lf S n t := by
  rintro ⟨r, hr, d, f, hp, _, _⟩
  have : ∀ {f : Nat} {A : Int}, Pd (KW K hw) lf S f A → hw ⟨false, A⟩ = true → False := by
    intro f A hp
    induction hp with
    | start => intro h; rw [hs] at h; cases h
    | @step f r d k A hp hr h0 hd ih => 
      intro _
      exact ih (hH.cl r (mem_KW.1 hr).1 (mem_KW.1 hr).2)
  exact this hp (hH.cl r (mem_KW.1 hr).1 (mem_KW.1 hr).2)
end Ht
end Go.Proofs.Ytjpmebppdcclbaa
namespace Go.Proofs.Ytjpmebppdcclbaa
namespace Ht
open Rp Hl
structure Itm where
  r : Nat
  d : Nat
  f : Nat
deriving DecidableEq
def addI (c : List Itm) (x : Itm) : List Itm := if x ∈ c then c else c ++ [x]
theorem mem_addI {c : List Itm} {x y : Itm} : y ∈ addI c x ↔ y ∈ c ∨ y = x := by
  unfold addI
  split
  · rename_i h
    constructor
    · exact .inl
    · rintro (h1 | rfl)
      · exact h1
      · exact h
  · simp
theorem nodup_addI {c : List Itm} {x : Itm} (h : c.Nodup) : (addI c x).Nodup := by
  unfold addI
  split
  · exact h
  · rename_i hx
    rw [List.nodup_append]
    refine ⟨h, by simp, fun a ha b hb => ?_⟩
    simp at hb
    subst hb
    exact fun e => hx (e ▸ ha)
theorem pre_addI (c : List Itm) (x : Itm) : c <+: addI c x := by
  unfold addI
  split
  · exact List.prefix_refl _
  · exact List.prefix_append _ _
theorem pre_eq {c c' : List Itm} (h : c <+: c') (hl : c'.length = c.length) : c' = c := (h.eq_of_length hl.symm).symm
def nxt (K : List Rule) (x : Itm) : Option Sym := (K[x.r]?).bind fun r => r.right[x.d]?
def okI (K : List Rule) (k : Nat) (x : Itm) : Prop := x.f ≤ k ∧ ∃ r, K[x.r]? = some r ∧ x.d ≤ r.right.length
section
variable (K : List Rule) (lf : Sym → Nat → Prop) (S : Int)
def Sd (k : Nat) (x : Itm) : Prop := ∃ r, K[x.r]? = some r ∧ x.d ≤ r.right.length ∧ Pd K lf S x.f r.left ∧ R0 (Dx K lf) (r.right.take x.d) x.f k
def PrC (k : Nat) (c : List Itm) (s : Sym) : Prop := ∀ i r, K[i]? = some r → s = ⟨false, r.left⟩ → (⟨i, 0, k⟩ : Itm) ∈ c
def Clo (k : Nat) (sets : Nat → List Itm) (x : Itm) : Prop := match nxt K x with
  | some s => PrC K k (sets k) s
  | none => ∀ r, K[x.r]? = some r → ∀ y ∈ sets x.f, nxt K y = some ⟨false, r.left⟩ → (⟨y.r, y.d + 1, y.f⟩ : Itm) ∈ sets k
structure GS2 (n : Nat) (sets : Nat → List Itm) : Prop where
  start : PrC K 0 (sets 0) ⟨false, S⟩
  clo : ∀ k, k ≤ n → ∀ x ∈ sets k, Clo K k sets x
  scan : ∀ k, k < n → ∀ x ∈ sets k, ∀ s, nxt K x = some s → lf s k → (⟨x.r, x.d + 1, x.f⟩ : Itm) ∈ sets (k + 1)
end
section
variable {K : List Rule} {lf lf' : Sym → Nat → Prop} {S : Int}
theorem nxt_some {x : Itm} {s : Sym} : nxt K x = some s ↔ ∃ r, K[x.r]? = some r ∧ r.right[x.d]? = some s := by
  unfold nxt
  rw [Option.bind_eq_some_iff]
theorem nxt_none {x : Itm} {r : Rule} (hr : K[x.r]? = some r) (hd : x.d = r.right.length) : nxt K x = none := by
  unfold nxt
  rw [hr, Option.bind_some, hd, List.getElem?_eq_none (Nat.le_refl _)]
theorem d_lt {r : Rule} {d : Nat} {s : Sym} (h : r.right[d]? = some s) : d < r.right.length := by
  rcases Nat.lt_or_ge d r.right.length with h1 | h1
  · exact h1
  · rw [List.getElem?_eq_none h1] at h; cases h
theorem take_snoc {l : List Sym} {d : Nat} {s : Sym} (h : l[d]? = some s) : l.take (d + 1) = l.take d ++ [s] := by
  rw [List.take_add_one, h]; rfl
/-! sound -/
theorem sd_start {i : Nat} {r : Rule} (hr : K[i]? = some r) (hl : r.left = S) : Sd K lf S 0 ⟨i, 0, 0⟩ := ⟨r, hr, Nat.zero_le _, by rw [hl]; exact .start, rfl⟩
theorem sd_pred {k : Nat} {x : Itm} (hx : Sd K lf S k x) {A : Int} (hn : nxt K x = some ⟨false, A⟩) {i : Nat} {r : Rule} (hr : K[i]? = some r) (hl : r.left = A) : Sd K lf S k ⟨i, 0, k⟩ := by
  obtain ⟨q, h1, h2, h3, h4⟩ := hx
  obtain ⟨q', h5, h6⟩ := nxt_some.1 hn
  rw [h1] at h5
  cases h5
  refine ⟨r, hr, Nat.zero_le _, ?_, rfl⟩
  rw [hl]
  exact .step h3 (List.mem_of_getElem? h1) h4 h6
theorem sd_adv {k m : Nat} {y : Itm} (hy : Sd K lf S m y) {s : Sym} (hn : nxt K y = some s) (hs : Dx K lf s m k) : Sd K lf S k ⟨y.r, y.d + 1, y.f⟩ := by
  obtain ⟨q, h1, h2, h3, h4⟩ := hy
  obtain ⟨q', h5, h6⟩ := nxt_some.1 hn
  rw [h1] at h5
  cases h5
  refine ⟨q, h1, d_lt h6, h3, ?_⟩
  show R0 _ (q.right.take (y.d + 1)) _ _
  rw [take_snoc h6]
  exact R0.snoc (fun s i j hp => Dx.le hp) h4 hs
theorem sd_comp {k : Nat} {x y : Itm} (hx : Sd K lf S k x) (hn : nxt K x = none) {r : Rule} (hr : K[x.r]? = some r) (hy : Sd K lf S x.f y) (hny : nxt K y = some ⟨false, r.left⟩) : Sd K lf S k ⟨y.r, y.d + 1, y.f⟩ := by
  obtain ⟨q, h1, h2, h3, h4⟩ := hx
  rw [hr] at h1
  cases h1
  have hd : x.d = r.right.length := by
    rcases Nat.lt_or_ge x.d r.right.length with h | h
    · have : nxt K x = some r.right[x.d] := nxt_some.2 ⟨r, hr, List.getElem?_eq_getElem h⟩
      rw [hn] at this; cases this
    · omega
  rw [hd, List.take_length] at h4
  exact sd_adv hy hny (Dx.rule (List.mem_of_getElem? hr) h4)
/-! complete -/
theorem gs_adv {n : Nat} {sets : Nat → List Itm} (hlf : ∀ s i, lf s i → i < n) (g : GS2 K lf S n sets) : ∀ {h : Nat} {s : Sym} {m k : Nat}, k ≤ n → D K lf h s m k → ∀ y ∈ sets m, nxt K y = some s → (⟨y.r, y.d + 1, y.f⟩ : Itm) ∈ sets k := by
  intro h
  induction h with
  | zero =>
    rintro s m k hk ⟨rfl, hl⟩ y hy hn
    exact g.scan m (hlf _ _ hl) y hy s hn hl
  | succ h ih =>
    intro s m k hk hD y hy hn
    rcases hD with ⟨rfl, hl⟩ | ⟨h1, r, h2, h3, h4⟩
    · exact g.scan m (hlf _ _ hl) y hy s hn hl
    · have hs : s = ⟨false, r.left⟩ := by obtain ⟨a, b⟩ := s; simp at h1 h3; rw [h1, h3]
      have hmk : m ≤ k := R0.le (fun s i j hp => D.le hp) h4
      obtain ⟨i, hi, hir⟩ := List.getElem_of_mem h2
      have hr : K[i]? = some r := by rw [List.getElem?_eq_getElem hi, hir]
      have h5 := g.clo m (by omega) y hy
      unfold Clo at h5
      rw [hn] at h5
      have h0 : (⟨i, 0, m⟩ : Itm) ∈ sets m := h5 i r hr hs
      have walk : ∀ d j, d ≤ r.right.length → m ≤ j → j ≤ k → R0 (D K lf h) (r.right.drop d) j k → (⟨i, d, m⟩ : Itm) ∈ sets j → (⟨i, r.right.length, m⟩ : Itm) ∈ sets k := by
        intro d j hd
        induction hd' : r.right.length - d generalizing d j with
        | zero =>
          intro _ _ h6 h7
          have : d = r.right.length := by omega
          subst this
          rw [List.drop_length] at h6
          have : j = k := h6
          subst this; exact h7
        | succ e ih2 =>
          intro hj1 hj2 h6 h7
          have hdl : d < r.right.length := by omega
          rw [List.drop_eq_getElem_cons hdl] at h6
          obtain ⟨p, q1, q2, q3, q4⟩ := h6
          have h8 := ih (by omega) q3 ⟨i, d, m⟩ h7 (nxt_some.2 ⟨r, hr, List.getElem?_eq_getElem hdl⟩)
          exact ih2 (d + 1) p (by omega) (by omega) (by omega) (by omega) q4 h8
      have h9 := walk 0 m (Nat.zero_le _) (Nat.le_refl _) hmk (by simpa using h4) h0
      have h10 := g.clo k hk _ h9
      unfold Clo at h10
      rw [nxt_none (x := ⟨i, r.right.length, m⟩) hr rfl] at h10
      exact h10 r hr y hy (by rw [hn, hs])
theorem gs_row {n : Nat} {sets : Nat → List Itm} (hlf : ∀ s i, lf s i → i < n) (g : GS2 K lf S n sets) {i : Nat} {r : Rule} (hr : K[i]? = some r) : ∀ {d : Nat} {f k : Nat}, d ≤ r.right.length → k ≤ n → R0 (Dx K lf) (r.right.take d) f k → (⟨i, 0, f⟩ : Itm) ∈ sets f → (⟨i, d, f⟩ : Itm) ∈ sets k := by
  intro d
  induction d with
  | zero =>
    intro f k _ _ h h0
    have : f = k := by simpa [R0] using h
    subst this; exact h0
  | succ d ih =>
    intro f k hd hk h h0
    have hdl : d < r.right.length := by omega
    rw [take_snoc (List.getElem?_eq_getElem hdl)] at h
    obtain ⟨m, h1, h2, h3, _⟩ := R0.app.1 h
    have h4 := (R0.one (fun s i j hp => Dx.le hp)).1 h2
    obtain ⟨q, hq⟩ := h4
    have := hq.le
    exact gs_adv hlf g hk hq ⟨i, d, f⟩ (ih (by omega) (by omega) h1 h0) (nxt_some.2 ⟨r, hr, List.getElem?_eq_getElem hdl⟩)
theorem gs_pd {n : Nat} {sets : Nat → List Itm} (hlf : ∀ s i, lf s i → i < n) (g : GS2 K lf S n sets) : ∀ {f : Nat} {A : Int}, Pd K lf S f A → f ≤ n → PrC K f (sets f) ⟨false, A⟩ := by
  intro f A hp
  induction hp with
  | start => intro _; exact g.start
  | @step f r d k A hp hr h0 hd ih =>
    intro hk
    have hfk := R0.le (fun s i j hp => Dx.le hp) h0
    obtain ⟨i, hi, hir⟩ := List.getElem_of_mem hr
    have hr' : K[i]? = some r := by rw [List.getElem?_eq_getElem hi, hir]
    have h1 : (⟨i, 0, f⟩ : Itm) ∈ sets f := ih (by omega) i r hr' rfl
    have h2 := gs_row hlf g hr' (Nat.le_of_lt (d_lt hd)) hk h0 h1
    have h3 := g.clo k hk _ h2
    unfold Clo at h3
    rw [nxt_some.2 ⟨r, hr', hd⟩] at h3
    exact h3
theorem gs_it {n : Nat} {sets : Nat → List Itm} (hlf : ∀ s i, lf s i → i < n) (g : GS2 K lf S n sets) (hs : ∀ x ∈ sets n, Sd K lf S n x) (t : Int) : It K lf S n t ↔ ∃ x ∈ sets n, nxt K x = some ⟨true, t⟩ := by
  constructor
  · rintro ⟨r, hr, d, f, hp, h0, hd⟩
    have hfk := R0.le (fun s i j hp => Dx.le hp) h0
    obtain ⟨i, hi, hir⟩ := List.getElem_of_mem hr
    have hr' : K[i]? = some r := by rw [List.getElem?_eq_getElem hi, hir]
    exact ⟨⟨i, d, f⟩, gs_row hlf g hr' (Nat.le_of_lt (d_lt hd)) (Nat.le_refl _) h0 (gs_pd hlf g hp hfk i r hr' rfl), nxt_some.2 ⟨r, hr', hd⟩⟩
  · rintro ⟨x, hx, hn⟩
    obtain ⟨r, h1, h2, h3, h4⟩ := hs x hx
    obtain ⟨r', h5, h6⟩ := nxt_some.1 hn
    rw [h1] at h5
    cases h5
    exact ⟨r, List.mem_of_getElem? h1, x.d, x.f, h3, h4, h6⟩
/-! only the cells before count -/
theorem dx_cells {n : Nat} (hlf : ∀ s i, i < n → (lf s i ↔ lf' s i)) {s : Sym} {i j : Nat} (hj : j ≤ n) (h : Dx K lf s i j) : Dx K lf' s i j := by
  obtain ⟨k, hk⟩ := h
  exact ⟨k, hk.cells hlf hj⟩
theorem r0_cells {n : Nat} (hlf : ∀ s i, i < n → (lf s i ↔ lf' s i)) : ∀ {l : List Sym} {i j : Nat}, j ≤ n → R0 (Dx K lf) l i j → R0 (Dx K lf') l i j
  | [], _, _, _, h => h
  | _ :: _, _, _, hj, ⟨m, h1, h2, h3, h4⟩ => ⟨m, h1, h2, dx_cells hlf (by omega) h3, r0_cells hlf hj h4⟩
theorem pd_cells {n : Nat} (hlf : ∀ s i, i < n → (lf s i ↔ lf' s i)) : ∀ {f : Nat} {A : Int}, Pd K lf S f A → f ≤ n → Pd K lf' S f A := by
  intro f A hp
  induction hp with
  | start => intro _; exact .start
  | @step f r d k A hp hr h0 hd ih =>
    intro hk
    have hfk := R0.le (fun s i j hp => Dx.le hp) h0
    exact .step (ih (by omega)) hr (r0_cells hlf hk h0) hd
theorem it_cells {n : Nat} (hlf : ∀ s i, i < n → (lf s i ↔ lf' s i)) {t : Int} (h : It K lf S n t) : It K lf' S n t := by
  obtain ⟨r, hr, d, f, hp, h0, hd⟩ := h
  have hfk := R0.le (fun s i j hp => Dx.le hp) h0
  exact ⟨r, hr, d, f, pd_cells hlf hp hfk, r0_cells hlf (Nat.le_refl _) h0, hd⟩
end
/-! finitely many items -/
def codeI (a b : Nat) (x : Itm) : Nat := (x.r * a + x.d) * b + x.f
theorem code_inj {a b : Nat} {x y : Itm} (hx : x.d < a ∧ x.f < b) (hy : y.d < a ∧ y.f < b) (h : codeI a b x = codeI a b y) : x = y := by
  unfold codeI at h
  have h1 : x.f = y.f := by
    have := congrArg (· % b) h
    simp only [Nat.mul_add_mod_self_right, Nat.mod_eq_of_lt hx.2, Nat.mod_eq_of_lt hy.2] at this
    exact this
  have h2 : x.r * a + x.d = y.r * a + y.d := by
    have hb : 0 < b := by omega
    have := congrArg (· / b) h
    simp only [Nat.mul_comm _ b, Nat.mul_add_div hb, Nat.div_eq_of_lt hx.2, Nat.div_eq_of_lt hy.2, Nat.add_zero] at this
    exact this
  have h3 : x.d = y.d := by
    have := congrArg (· % a) h2
    simp only [Nat.mul_add_mod_self_right, Nat.mod_eq_of_lt hx.1, Nat.mod_eq_of_lt hy.1] at this
    exact this
  have h4 : x.r = y.r := by
    have ha : 0 < a := by omega
    have := congrArg (· / a) h2
    simp only [Nat.mul_comm _ a, Nat.mul_add_div ha, Nat.div_eq_of_lt hx.1, Nat.div_eq_of_lt hy.1, Nat.add_zero] at this
    exact this
  obtain ⟨_, _, _⟩ := x
  obtain ⟨_, _, _⟩ := y
  simp only at h1 h3 h4
  rw [h1, h3, h4]
theorem items_le {K : List Rule} {k : Nat} {c : List Itm} (hr4 : ∀ r ∈ K, r.right.length ≤ 4) (hc : ∀ x ∈ c, okI K k x) (hn : c.Nodup) : c.length ≤ K.length * 5 * (k + 1) := by
  have hb : ∀ x ∈ c, x.d < 5 ∧ x.f < k + 1 ∧ x.r < K.length := by
    intro x hx
    obtain ⟨h1, r, h2, h3⟩ := hc x hx
    have := hr4 r (List.mem_of_getElem? h2)
    refine ⟨by omega, by omega, ?_⟩
    rcases Nat.lt_or_ge x.r K.length with h | h
    · exact h
    · rw [List.getElem?_eq_none h] at h2; cases h2
  have h1 : (c.map (codeI 5 (k + 1))).Nodup := by
    rw [List.Nodup, List.pairwise_map]
    refine List.Pairwise.imp_of_mem ?_ hn
    intro x y hx hy hne e
    exact hne (code_inj ⟨(hb x hx).1, (hb x hx).2.1⟩ ⟨(hb y hy).1, (hb y hy).2.1⟩ e)
  have h2 := Al.nodup_le _ (List.range (K.length * 5 * (k + 1))) h1 (fun n hn2 => by
    obtain ⟨x, hx, rfl⟩ := List.mem_map.1 hn2
    obtain ⟨q1, q2, q3⟩ := hb x hx
    rw [List.mem_range]
    unfold codeI
    have : (x.r * 5 + x.d + 1) * (k + 1) ≤ K.length * 5 * (k + 1) := Nat.mul_le_mul_right _ (by omega)
    rw [Nat.add_mul, Nat.one_mul] at this
    omega)
  simpa using h2
end Ht
end Go.Proofs.Ytjpmebppdcclbaa
namespace Go.Proofs.Ytjpmebppdcclbaa
open Go.RowKit
set_option maxHeartbeats 400000 in
theorem gramT (x : Int) (w : World) : Calls Try.prog 51 #[.int .i64 x] w fun e w' => e = .returned (.agg #[.bool true, .int .i64 x]) ∧ Below w.heap.size w w' := by
  go_enter Try.func51, Try.ntmps51
  go_wp2
  exact bodyPost_ret (v := .agg #[.bool true, .int .i64 x]) (by simp [results, Try.results51, go_sem]) rfl ⟨rfl, (Below.refl _ _).alloc (Nat.le_refl _) _⟩
set_option maxHeartbeats 400000 in
theorem gramN (x : Int) (w : World) : Calls Try.prog 60 #[.int .i64 x] w fun e w' => e = .returned (.agg #[.bool false, .int .i64 x]) ∧ Below w.heap.size w w' := by
  go_enter Try.func60, Try.ntmps60
  go_wp2
  exact bodyPost_ret (v := .agg #[.bool false, .int .i64 x]) (by simp [results, Try.results60, go_sem]) rfl ⟨rfl, (Below.refl _ _).alloc (Nat.le_refl _) _⟩
end Go.Proofs.Ytjpmebppdcclbaa
namespace Go.Proofs.Ytjpmebppdcclbaa
open Go.RowKit
namespace Hl
open Rp
def HR (P : Nat → Prop) (W : World) (x : Value) (o : Option Val) : Prop :=
  ∃ u, x = .agg #[.int .i64 (oN o), u, .bool o.isSome] ∧ Rd P W (D.ints (oW o)) [u]
theorem HR.below {P : Nat → Prop} {W W' : World} {x : Value} {o : Option Val} (h : HR P W x o) (hb : Below W.heap.size W W') : HR P W' x o := by
  obtain ⟨u, h1, h2⟩ := h; exact ⟨u, h1, h2.below hb⟩
theorem HR.mono {P P' : Nat → Prop} {W : World} {x : Value} {o : Option Val} (h : HR P W x o) (hp : ∀ k, P k → k < W.heap.size → P' k) : HR P' W x o := by
  obtain ⟨u, h1, h2⟩ := h; exact ⟨u, h1, h2.mono hp⟩
theorem HR.grown {P : Nat → Prop} {W W' : World} {x : Value} {o : Option Val} (h : HR P W x o) {row : Option Nat} (hg : W.grownBy W' row) (hr : ∀ k, row = some k → ¬ P k) : HR P W' x o := by
  obtain ⟨u, h1, h2⟩ := h; exact ⟨u, h1, rd_grown h2 hg hr⟩
theorem HR.form {P : Nat → Prop} {w : World} {x : Value} {o : Option Val} (h : HR P w x o) : ∃ a m k, x = .agg #[.int .i64 (oN o), .slice a m k, .bool o.isSome] ∧ Rd P w (D.ints (oW o)) [.slice a m k] := by
  obtain ⟨u, rfl, h⟩ := h
  obtain ⟨a, k, rfl⟩ := (sl_rd h).form
  exact ⟨_, _, _, rfl, h⟩
theorem HR.none (P : Nat → Prop) (W : World) : HR P W (.agg #[.int .i64 0, .slice none 0 0, .bool false]) none := ⟨_, rfl, rd_nil _ _⟩
theorem grown_cell3 (w : World) (b : Nat) (v0 v1 v2 : Value) : w.grownBy (((w.setCell ⟨b, 0, none⟩ v0).setCell ⟨b, 0 + 1, none⟩ v1).setCell ⟨b, 0 + 2, none⟩ v2) (some b) := by
  refine ⟨rfl, rfl, rfl, by simp [World.setCell], fun k _ hn => ?_⟩
  have hne : ¬ k = b := fun e => hn (by rw [e])
  rw [Below.heap_setCell _ _ _ _ hne, Below.heap_setCell _ _ _ _ hne, Below.heap_setCell _ _ _ _ hne]
theorem or_less2 {a b : Val} (hc : a.c = b.c) (ha : Wf a) (hb : Wf b) : decide (orL [cmp3 (a.n : Int) (b.n : Int), cmpL a.w b.w] < 0) = lessB (some a) (some b) := by
  rw [← or_less ha hb, hc, cmp3_self, orL3, orL2, if_pos rfl]
def cO (o : Option Val) : Prop := oC o = 0
set_option maxHeartbeats 2000000 in
set_option maxRecDepth 100000 in
theorem hlessE (x y : Value) (o p : Option Val) (P Q : Nat → Prop) (W : World) (hx : HR P W x o) (hy : HR Q W y p) (ho : WfO o) (hp : WfO p) (hc : cO o) (hd : cO p) :
    Calls Try.prog 91 #[x, y] W fun e w' => e = .returned (.bool (lessB o p)) ∧ Below W.heap.size W w' := by
  obtain ⟨a1, m1, k1, rfl, hu⟩ := hx.form
  obtain ⟨a2, m2, k2, rfl, hu'⟩ := hy.form
  have HU := Lib.hid (sl_rd hu)
  have HU' := Lib.hid (sl_rd hu')
  clear hx hy hu hu'
  obtain ⟨r, HR⟩ := nameIt (lessB o p)
  rw [HR.out]
  cases o with
  | none =>
    have : r = false := by rw [← HR.out]; cases p <;> rfl
    subst this
    simp only [Option.isSome, oC, oN]
    clear HR ho hp hc hd
    cases p <;>
    · simp only [Option.isSome, oC, oN]
      go_enter Try.func91, Try.ntmps91
      go_wp2
      go_ret
      exact ⟨rfl, ((Below.refl _ _).alloc (Nat.le_refl _) _).alloc (by simp) _⟩
  | some v =>
  cases p with
  | none =>
    have : r = true := by rw [← HR.out]; rfl
    subst this
    simp only [Option.isSome, oC, oN]
    clear HR ho hp hc hd
    go_enter Try.func91, Try.ntmps91
    go_wp2
    go_ret
    exact ⟨rfl, ((Below.refl _ _).alloc (Nat.le_refl _) _).alloc (by simp) _⟩
  | some v' =>
    have hr := or_less2 (show v.c = v'.c by unfold cO oC at hc hd; simp only at hc hd; omega) (ho v rfl) (hp v' rfl)
    rw [HR.out] at hr
    clear hc hd
    simp only [Option.isSome, oC, oN, oW] at *
    obtain ⟨l, HL⟩ := nameIt v.w
    obtain ⟨l', HL'⟩ := nameIt v'.w
    obtain ⟨n, HN⟩ := nameIt v.n
    obtain ⟨n', HN'⟩ := nameIt v'.n
    rw [HL.out] at HU hr
    rw [HL'.out] at HU' hr
    rw [HN.out, HN'.out] at hr ⊢
    obtain ⟨q2, HQ2⟩ := nameIt (cmp3 (n : Int) (n' : Int))
    obtain ⟨q3, HQ3⟩ := nameIt (cmpL l l')
    rw [HQ2.out, HQ3.out] at hr
    have HRR := Lib.hid hr
    clear hr HR ho hp HN HN' HL HL'
    obtain ⟨w0, HW⟩ := nameIt ((W.alloc (.cells #[.int .i64 n, .slice a1 m1 k1, .bool true] 91)).alloc (.cells #[.int .i64 n', .slice a2 m2 k2, .bool true] 91))
    have hw0 : Below W.heap.size W w0 := by
      rw [← HW.out]
      exact ((Below.refl _ _).alloc (Nat.le_refl _) _).alloc (by simp) _
    have HX : Hid (w0.heap[W.heap.size]? = some (.cells #[.int .i64 n, .slice a1 m1 k1, .bool true] 91 (0, 0))) := by
      rw [← HW.out]; exact bx_keep (bx_new _ _ _ rfl) ((Below.refl _ _).alloc (Nat.le_refl _) _)
    have HY : Hid (w0.heap[W.heap.size + 1]? = some (.cells #[.int .i64 n', .slice a2 m2 k2, .bool true] 91 (0, 0))) := by
      rw [← HW.out]; exact bx_new _ _ _ (by simp)
    have HCS : Hid (∀ w', Below w0.heap.size w0 w' → w'.cell? ⟨W.heap.size, 0, none⟩ = some (.int .i64 n) ∧ w'.cell? ⟨W.heap.size, 0 + 1, none⟩ = some (.slice a1 m1 k1) ∧
        w'.cell? ⟨W.heap.size + 1, 0, none⟩ = some (.int .i64 n') ∧ w'.cell? ⟨W.heap.size + 1, 0 + 1, none⟩ = some (.slice a2 m2 k2)) := by
      intro w' hb'
      obtain ⟨h1, h2, h3⟩ := bx_cells3 (bx_keep HX.out hb')
      obtain ⟨h5, h6, h7⟩ := bx_cells3 (bx_keep HY.out hb')
      exact ⟨h1, h2, h5, h6⟩
    have HB0 := Lib.hid hw0
    go_enter Try.func91, Try.ntmps91
    go_upto_region 3 with fail
    rw [HW.out]
    clear HW hw0
    refine wp_region_U (S := (fun w' => w'.cell? ⟨W.heap.size, 0, none⟩ = some (.int .i64 n) ∧ w'.cell? ⟨W.heap.size, 0 + 1, none⟩ = some (.slice a1 m1 k1) ∧ w'.cell? ⟨W.heap.size + 1, 0, none⟩ = some (.int .i64 n') ∧ w'.cell? ⟨W.heap.size + 1, 0 + 1, none⟩ = some (.slice a2 m2 k2))) 11 (by kernel_rfl) (fun inv => ?_)
    refine wpU_take (i := 0) (v := .pointer (some ⟨W.heap.size, 0, none⟩)) rfl inv (by kernel_rfl) (by kernel_rfl) (by decide) (by decide) (by kernel_rfl) (by kernel_rfl) (by kernel_rfl) (fun _ _ _ h => h) (Or.inl ⟨by rfl, fun w' hw' => ?_⟩) (HCS.out _ (Below.refl _ _).drew) (fun inv => ?_)
    · obtain ⟨h0, h1, h2, h3⟩ := hw'
      go_simp
    try simp only [Act.put, List.setIfInBounds_toArray, List.set_cons_zero, List.set_cons_succ]
    refine wpU_take (i := 1) (v := .int .i64 n) rfl inv (by kernel_rfl) (by kernel_rfl) (by decide) (by decide) (by kernel_rfl) (by kernel_rfl) (by kernel_rfl) (fun _ _ _ h => h) (Or.inl ⟨by rfl, fun w' hw' => ?_⟩) (HCS.out _ (Below.refl _ _).drew) (fun inv => ?_)
    · obtain ⟨h0, h1, h2, h3⟩ := hw'
      go_simp
    try simp only [Act.put, List.setIfInBounds_toArray, List.set_cons_zero, List.set_cons_succ]
    refine wpU_take (i := 2) (v := .pointer (some ⟨W.heap.size + 1, 0, none⟩)) rfl inv (by kernel_rfl) (by kernel_rfl) (by decide) (by decide) (by kernel_rfl) (by kernel_rfl) (by kernel_rfl) (fun _ _ _ h => h) (Or.inl ⟨by rfl, fun w' hw' => ?_⟩) (HCS.out _ (Below.refl _ _).drew) (fun inv => ?_)
    · obtain ⟨h0, h1, h2, h3⟩ := hw'
      go_simp
    try simp only [Act.put, List.setIfInBounds_toArray, List.set_cons_zero, List.set_cons_succ]
    refine wpU_take (i := 3) (v := .int .i64 n') rfl inv (by kernel_rfl) (by kernel_rfl) (by decide) (by decide) (by kernel_rfl) (by kernel_rfl) (by kernel_rfl) (fun _ _ _ h => h) (Or.inl ⟨by rfl, fun w' hw' => ?_⟩) (HCS.out _ (Below.refl _ _).drew) (fun inv => ?_)
    · obtain ⟨h0, h1, h2, h3⟩ := hw'
      go_simp
    try simp only [Act.put, List.setIfInBounds_toArray, List.set_cons_zero, List.set_cons_succ]
    refine wpU_take (i := 5) (v := .pointer (some ⟨W.heap.size, 0 + 1, none⟩)) rfl inv (by kernel_rfl) (by kernel_rfl) (by decide) (by decide) (by kernel_rfl) (by kernel_rfl) (by kernel_rfl) (fun _ _ _ h => h) (Or.inl ⟨by rfl, fun w' hw' => ?_⟩) (HCS.out _ (Below.refl _ _).drew) (fun inv => ?_)
    · obtain ⟨h0, h1, h2, h3⟩ := hw'
      go_simp
    try simp only [Act.put, List.setIfInBounds_toArray, List.set_cons_zero, List.set_cons_succ]
    refine wpU_take (i := 6) (v := .slice a1 m1 k1) rfl inv (by kernel_rfl) (by kernel_rfl) (by decide) (by decide) (by kernel_rfl) (by kernel_rfl) (by kernel_rfl) (fun _ _ _ h => h) (Or.inl ⟨by rfl, fun w' hw' => ?_⟩) (HCS.out _ (Below.refl _ _).drew) (fun inv => ?_)
    · obtain ⟨h0, h1, h2, h3⟩ := hw'
      go_simp
    try simp only [Act.put, List.setIfInBounds_toArray, List.set_cons_zero, List.set_cons_succ]
    refine wpU_take (i := 7) (v := .pointer (some ⟨W.heap.size + 1, 0 + 1, none⟩)) rfl inv (by kernel_rfl) (by kernel_rfl) (by decide) (by decide) (by kernel_rfl) (by kernel_rfl) (by kernel_rfl) (fun _ _ _ h => h) (Or.inl ⟨by rfl, fun w' hw' => ?_⟩) (HCS.out _ (Below.refl _ _).drew) (fun inv => ?_)
    · obtain ⟨h0, h1, h2, h3⟩ := hw'
      go_simp
    try simp only [Act.put, List.setIfInBounds_toArray, List.set_cons_zero, List.set_cons_succ]
    refine wpU_take (i := 8) (v := .slice a2 m2 k2) rfl inv (by kernel_rfl) (by kernel_rfl) (by decide) (by decide) (by kernel_rfl) (by kernel_rfl) (by kernel_rfl) (fun _ _ _ h => h) (Or.inl ⟨by rfl, fun w' hw' => ?_⟩) (HCS.out _ (Below.refl _ _).drew) (fun inv => ?_)
    · obtain ⟨h0, h1, h2, h3⟩ := hw'
      go_simp
    try simp only [Act.put, List.setIfInBounds_toArray, List.set_cons_zero, List.set_cons_succ]
    refine wpU_one (i := 4) (by kernel_rfl) rfl (fun K hK => ?_)
    replace inv := inv_setc (i := 4) inv (by kernel_rfl) (by decide)
    go_simp
    refine (compareInt _ _ _).mono ?_
    rintro e w1 ⟨rfl, rfl⟩
    rw [HQ2.out]
    refine hK.out _ _ (fun _ => (HCS.out _ (Below.refl _ _).drew)) ?_
    clear hK K
    try simp only [Act.put, List.setIfInBounds_toArray, List.set_cons_zero, List.set_cons_succ]
    refine wpU_one (i := 9) (by kernel_rfl) rfl (fun K hK => ?_)
    replace inv := inv_setc (i := 9) inv (by kernel_rfl) (by decide)
    go_simp
    refine (compareInts _ _ l l' _ (HU.out.keep (HB0.out.trans ((Below.refl _ _).drew.mono HB0.out.size))) (HU'.out.keep (HB0.out.trans ((Below.refl _ _).drew.mono HB0.out.size)))).mono ?_
    rintro e w1 ⟨rfl, rfl⟩
    rw [HQ3.out]
    refine hK.out _ _ (fun _ => (HCS.out _ (Below.refl _ _).drew)) ?_
    clear hK K
    try simp only [Act.put, List.setIfInBounds_toArray, List.set_cons_zero, List.set_cons_succ]
    refine wpU_one (i := 10) (by kernel_rfl) rfl (fun K hK => ?_)
    replace inv := inv_setc (i := 10) inv (by kernel_rfl) (by decide)
    go_simp
    have HB4 : Hid (Below w0.heap.size w0 (w0.drew.alloc (.cells #[.int .i64 q2, .int .i64 q3] 3))) := (Below.refl w0.heap.size w0).drew.alloc (Nat.le_refl _) _
    refine hK.out _ _ (fun _ => HCS.out _ HB4.out) ?_
    clear hK K
    try simp only [Act.put, List.setIfInBounds_toArray, List.set_cons_zero, List.set_cons_succ]
    refine wpU_one (i := 11) (by kernel_rfl) rfl (fun K hK => ?_)
    go_simp
    refine (orInt _ [q2, q3] _ (sl_lit (w := w0.drew) (v := #[.int .i64 q2, .int .i64 q3]) rfl (of_decide_eq_true rfl))).mono ?_
    rintro e w1 ⟨rfl, rfl⟩
    refine hK.out _ _ (fun h => absurd (show true = false from h) (by decide)) ?_
    clear hK K
    try simp only [Act.put, List.setIfInBounds_toArray, List.set_cons_zero, List.set_cons_succ]
    refine wpU_one (i := 12) (by kernel_rfl) rfl (fun K hK => ?_)
    go_simp
    refine hK.out _ _ (fun h => absurd (show true = false from h) (by decide)) ?_
    clear hK K
    try simp only [Act.put, List.setIfInBounds_toArray, List.set_cons_zero, List.set_cons_succ]
    refine wpU_one (i := 13) (by kernel_rfl) rfl (fun K hK => ?_)
    go_simp
    refine hK.out _ _ (fun h => absurd (show true = false from h) (by decide)) ?_
    clear hK K
    try simp only [Act.put, List.setIfInBounds_toArray, List.set_cons_zero, List.set_cons_succ]
    refine wpU_done (by kernel_rfl) ?_ _
    go_wp2_with fail
    go_ret
    exact ⟨by rw [← HRR.out]; rfl, HB0.out.trans (HB4.out.mono HB0.out.size)⟩
set_option maxHeartbeats 4000000 in
set_option maxRecDepth 100000 in
theorem hthenE (x y : Value) (v v' : Val) (P Q : Nat → Prop) (W : World) (hx : HR P W x (some v)) (hy : HR Q W y (some v')) (hn : v.n + v'.n ≤ 4611686018427387904) (hl : v.w.length ≤ 2000) (hl' : v'.w.length ≤ 2000) :
    Calls Try.prog 109 #[x, y] W fun e w' => ∃ z, e = .returned z ∧ HR (fun k => W.heap.size ≤ k) w' z (some (thn v v')) ∧ Below W.heap.size W w' := by
  obtain ⟨a1, m1, k1, rfl, hu⟩ := hx.form
  obtain ⟨a2, m2, k2, rfl, hu'⟩ := hy.form
  have HU := Lib.hid (sl_rd hu)
  have HU' := Lib.hid (sl_rd hu')
  clear hx hy hu hu'
  simp only [Option.isSome, oC, oN, oW] at *
  obtain ⟨l, HL⟩ := nameIt v.w
  obtain ⟨l', HL'⟩ := nameIt v'.w
  obtain ⟨n, HN⟩ := nameIt v.n
  obtain ⟨n', HN'⟩ := nameIt v'.n
  rw [HL.out] at HU hl
  rw [HL'.out] at HU' hl'
  rw [HN.out, HN'.out] at hn
  rw [HN.out, HN'.out]
  by_cases hb : n + n' ≤ 2000
  · have hb' : (n : Int) + (n' : Int) ≤ 2000 := by omega
    obtain ⟨w0, HW⟩ := nameIt ((((W.alloc (.cells #[.int .i64 n, .slice a1 m1 k1, .bool true] 91)).alloc (.cells #[.int .i64 n', .slice a2 m2 k2, .bool true] 91)).alloc (.cells #[.int .i64 0, .slice none 0 0, .bool false] 91)).alloc (.cells #[.int .i64 (n + n'), .slice none 0 0, .bool true] 91))
    have hw0 : Below W.heap.size W w0 := by
      rw [← HW.out]
      exact ((((Below.refl _ _).alloc (Nat.le_refl _) _).alloc (by simp) _).alloc (by simp; omega) _).alloc (by simp; omega) _
    have HSZ : Hid (w0.heap.size = W.heap.size + 1 + 1 + 1 + 1) := by show _ = _; rw [← HW.out]; simp
    have HX0 : Hid (w0.heap[W.heap.size + 1 + 1 + 1]? = some (.cells #[.int .i64 (n + n'), .slice none 0 0, .bool true] 91 (0, 0))) := by
      rw [← HW.out]; exact bx_new _ _ _ (by simp)
    have HZ0 : Hid (w0.heap[W.heap.size + 1 + 1]? = some (.cells #[.int .i64 0, .slice none 0 0, .bool false] 91 (0, 0))) := by
      rw [← HW.out]; exact bx_keep (bx_new _ _ _ (by simp)) ((Below.refl _ _).alloc (Nat.le_refl _) _)
    have HP0 : Hid (w0.heap[W.heap.size]? = some (.cells #[.int .i64 n, .slice a1 m1 k1, .bool true] 91 (0, 0))) := by
      rw [← HW.out]; exact bx_keep (bx_keep (bx_keep (bx_new _ _ _ rfl) ((Below.refl _ _).alloc (Nat.le_refl _) _)) ((Below.refl _ _).alloc (Nat.le_refl _) _)) ((Below.refl _ _).alloc (Nat.le_refl _) _)
    have HP1 : Hid (w0.heap[W.heap.size + 1]? = some (.cells #[.int .i64 n', .slice a2 m2 k2, .bool true] 91 (0, 0))) := by
      rw [← HW.out]; exact bx_keep (bx_keep (bx_new _ _ _ (by simp)) ((Below.refl _ _).alloc (Nat.le_refl _) _)) ((Below.refl _ _).alloc (Nat.le_refl _) _)
    have HB0 := Lib.hid hw0
    have HCC : Hid (∀ e, Calls Try.prog 97 #[.slice (some ⟨w0.heap.size, 0, none⟩) 2 2] (w0.alloc (.cells #[.slice a1 m1 k1, .slice a2 m2 k2] e)) (NewInts [l, l'].flatten w0)) := by
      intro e
      have hB : Below w0.heap.size w0 (w0.alloc (.cells #[.slice a1 m1 k1, .slice a2 m2 k2] e)) := (Below.refl _ _).alloc (Nat.le_refl _) _
      have hs : Sl (w0.alloc (.cells #[.slice a1 m1 k1, .slice a2 m2 k2] e)) (.slice (some ⟨w0.heap.size, 0, none⟩) [Value.slice a1 m1 k1, Value.slice a2 m2 k2].length 2) [.slice a1 m1 k1, .slice a2 m2 k2] := sl_lit (w := w0) (v := #[.slice a1 m1 k1, .slice a2 m2 k2]) rfl (by simp [maxLen])
      refine (concat_int (some ⟨w0.heap.size, 0, none⟩) 2 [.slice a1 m1 k1, .slice a2 m2 k2] [l, l'] _ hs rfl ?_ ?_).mono ?_
      · intro i hi
        simp at hi
        match i, hi with
        | 0, _ => exact (HU.out.keep HB0.out).keep hB
        | 1, _ => exact (HU'.out.keep HB0.out).keep hB
      · simp [lens]; omega
      · rintro e w' ⟨a, c, rfl, ho, hb⟩
        exact ⟨a, c, rfl, ho.mono hB.size, hB.trans (hb.mono hB.size)⟩
    go_enter Try.func109, Try.ntmps109
    go_upto_region 3 with fail
    rw [HW.out]
    clear HW hw0
    obtain ⟨-, y0, -⟩ := bx_cells3 HP0.out
    obtain ⟨-, y1, -⟩ := bx_cells3 HP1.out
    go_wp2_with fail
    refine (HCC.out _).mono ?_
    rintro e w4 ⟨a4, c4, rfl, ho4, hb4⟩
    have HB4 := Lib.hid hb4
    have HO4 := Lib.hid ho4
    have HX4 := Lib.hid (bx_keep HX0.out hb4)
    have HZ4 := Lib.hid (bx_keep HZ0.out hb4)
    obtain ⟨n4, HN4⟩ := nameIt [l, l'].flatten.length
    rw [HN4.out] at HO4 ⊢
    obtain ⟨e0, e1, e2⟩ := bx_cells3 HX4.out
    obtain ⟨f0, f1, f2⟩ := bx_free3 HX4.out
    obtain ⟨g0, g1, g2⟩ := bx_cells3 HZ4.out
    obtain ⟨h0, h1, h2⟩ := bx_free3 HZ4.out
    clear hb4 ho4
    go_wp2_with fail
    refine bodyPost_ret (v := .agg #[.int .i64 (n + n'), .slice a4 n4 c4, .bool true]) (by simp [results, Try.results109, go_sem, g0, g1, g2]) rfl ?_
    have hgA := grown_cell w4 ⟨W.heap.size + 1 + 1 + 1, 0 + 1, none⟩ (.slice a4 n4 c4)
    have hgB := grown_cell3 (w4.setCell ⟨W.heap.size + 1 + 1 + 1, 0 + 1, none⟩ (.slice a4 n4 c4)) (W.heap.size + 1 + 1) (.int .i64 (n + n')) (.slice a4 n4 c4) (.bool true)
    have hsw := HSZ.out
    have hb04 := HB0.out.trans (HB4.out.mono HB0.out.size)
    have hW : oW (some (thn v v')) = [l, l'].flatten := by
      show (thn v v').w = _
      rw [thn_w, HN.out, HN'.out, if_pos hb, HL.out, HL'.out]; simp
    have hrd : Rd (fun k => w0.heap.size ≤ k) w4 (D.ints [l, l'].flatten) [.slice a4 n4 c4] := rd_own HN4.out.symm HO4.out
    refine ⟨_, rfl, ⟨.slice a4 n4 c4, ?_, ?_⟩, (hb04.grown hgA hb04.size ?_).grown hgB ?_ ?_⟩
    · simp [oN, thn, HN.out, HN'.out]
    · rw [hW]
      refine (rd_grown (rd_grown hrd hgA ?_) hgB ?_).mono ?_
      · intro k e h
        have e2 : W.heap.size + 1 + 1 + 1 = k := by simpa using e
        have h2 : w0.heap.size ≤ k := h
        omega
      · intro k e h
        have e2 : W.heap.size + 1 + 1 = k := by simpa using e
        have h2 : w0.heap.size ≤ k := h
        omega
      · intro k h _
        have h2 : w0.heap.size ≤ k := h
        show W.heap.size ≤ k
        omega
    · intro k e
      have e2 : W.heap.size + 1 + 1 + 1 = k := by simpa using e
      omega
    · have := hb04.size
      have := hgA.size
      omega
    · intro k e
      have e2 : W.heap.size + 1 + 1 = k := by simpa using e
      omega
  · have hb' : ¬ (n : Int) + (n' : Int) ≤ 2000 := by omega
    go_enter Try.func109, Try.ntmps109
    go_wp2
    refine bodyPost_ret (v := .agg #[.int .i64 (n + n'), .slice none 0 0, .bool true]) (by simp [results, Try.results109, go_sem]) rfl ?_
    refine ⟨_, rfl, ⟨.slice none 0 0, ?_, ?_⟩, ?_⟩
    · simp [oN, thn, HN.out, HN'.out]
    · have hW : oW (some (thn v v')) = [] := by
        show (thn v v').w = _
        rw [thn_w, HN.out, HN'.out, if_neg hb]
      rw [hW]
      exact rd_nil _ _
    · exact ((((Below.refl _ _).alloc (Nat.le_refl _) _).alloc (by simp) _).alloc (by simp; omega) _).alloc (by simp; omega) _
theorem symEq (a c : Bool) (b d : Int) (w : World) : (binOp .eql 44 (.agg #[.bool a, .int .i64 b]) (.agg #[.bool c, .int .i64 d])).run Try.prog w = .ok (.bool (a == c && b == d)) w := by
  have h1 : Try.prog.underlying 44 = some (.struct (Try.prog.fieldsOf 44)) := by kernel_rfl
  have h2 : Try.prog.stoodInHeld 44 = false := by kernel_rfl
  have h3 := Try.underlying44
  have h4 := Try.underlying4
  have h5 := Try.underlying3
  rw [run_eql_struct, run_equalIn_agg (d := 9999) _ _ _ _ h1 h2]
  simp only [Program.fieldsOf, h3]
  cases hac : (a == c) <;> by_cases hbd : b = d <;> simp [Op.eqFields, go_sem, h4, h5, hac, hbd]
def isB (y c : Sym) : Bool := (y.term == c.term && y.n == c.n) || (y.term && (c.term == true && c.n == -1))
theorem isB_fit (y c : Sym) : isB y c = fitB y c := by
  obtain ⟨a, b⟩ := y
  obtain ⟨c, d⟩ := c
  unfold isB fitB
  simp only [Sym.mk.injEq]
  rw [Bool.eq_iff_iff]
  cases a <;> cases c <;> simp
set_option maxHeartbeats 2000000 in
theorem isE (y c : Sym) (W : World) : Calls Try.prog 94 #[.agg #[.bool y.term, .int .i64 y.n], .agg #[.bool c.term, .int .i64 c.n]] W fun e w' => e = .returned (.bool (isB y c)) ∧ Below W.heap.size W w' := by
  obtain ⟨yt, yn⟩ := y
  obtain ⟨ct, cn⟩ := c
  unfold isB
  simp only
  obtain ⟨w0, HW⟩ := nameIt ((W.alloc (.cells #[.bool yt, .int .i64 yn] 44)).alloc (.cells #[.bool ct, .int .i64 cn] 44))
  have hw0 : Below W.heap.size W w0 := by
    rw [← HW.out]
    exact ((Below.refl _ _).alloc (Nat.le_refl _) _).alloc (by simp) _
  have HX : Hid (w0.heap[W.heap.size]? = some (.cells #[.bool yt, .int .i64 yn] 44 (0, 0))) := by
    rw [← HW.out]; exact bx_keep (bx_new _ _ _ rfl) ((Below.refl _ _).alloc (Nat.le_refl _) _)
  have HY : Hid (w0.heap[W.heap.size + 1]? = some (.cells #[.bool ct, .int .i64 cn] 44 (0, 0))) := by
    rw [← HW.out]; exact bx_new _ _ _ (by simp)
  have HB0 := Lib.hid hw0
  have hse1 := symEq yt ct yn cn
  have hse2 := symEq ct true cn (-1)
  obtain ⟨e1, HE1⟩ := nameIt (yt == ct && yn == cn)
  obtain ⟨e2, HE2⟩ := nameIt (ct == true && cn == -1)
  rw [HE1.out] at hse1 ⊢
  rw [HE2.out] at hse2 ⊢
  have HT : ∀ W, Below w0.heap.size w0 W → Calls Try.prog 51 #[.int .i64 (-1)] W fun e w' => e = .returned (.agg #[.bool true, .int .i64 (-1)]) ∧ Below W.heap.size W w' := fun W _ => gramT (-1) W
  have HT := Lib.hid HT
  obtain ⟨c0, c1⟩ := bx_cells2 HX.out
  obtain ⟨d0, d1⟩ := bx_cells2 HY.out
  clear hw0 HE1 HE2
  have k0 := aft_cell c0
  have k1 := aft_cell c1
  have k2 := aft_cell d0
  have k3 := aft_cell d1
  cases e1 <;> cases yt <;>
  · go_enter Try.func94, Try.ntmps94
    go_upto_region 1 with fail
    rw [HW.out]
    clear c0 c1 d0 d1
    refine wp_region_after (by kernel_rfl) (by kernel_rfl) ?_
    repeat (go_big_quiet_step (with_reducible exact Calls.after (HT.out _ (Aft.bel _))))
    refine wpQuiet_nil ?_
    rintro w7 ⟨⟨_, hb7⟩, rfl⟩
    have HB7 := Lib.hid hb7
    go_wp2_with fail
    go_ret
    exact ⟨by simp, HB0.out.trans (HB7.out.mono HB0.out.size)⟩
end Hl
end Go.Proofs.Ytjpmebppdcclbaa
namespace Go.Proofs.Ytjpmebppdcclbaa
open Go.RowKit
namespace Rp
structure NB (b5 b4 : Nat) (c : Co) (w : List Int) (W : World) : Prop where
  cost : W.heap[b5]? = some (.cells #[.int .i64 (c.c0 : Int), .int .i64 (c.c1 : Int), .int .i64 (c.c2 : Int)] 26 (0, 0))
  word : ∃ wa wk, W.heap[b4]? = some (.cells #[.slice wa w.length wk] 25 (0, 0)) ∧ Sl W (.slice wa w.length wk) (ints w)
theorem NB.keep {b5 b4 : Nat} {c : Co} {w : List Int} {W W' : World} (h : NB b5 b4 c w W) (hb : Below W.heap.size W W') : NB b5 b4 c w W' := by
  obtain ⟨h1, wa, wk, h2, h3⟩ := h
  exact ⟨bx_keep h1 hb, wa, wk, bx_keep h2 hb, h3.keep hb⟩
end Rp
end Go.Proofs.Ytjpmebppdcclbaa
