/- Beginnings of words over cells, in plain Lean: the opening grammar against items. Begins in plain Lean: values of nothing, which symbols have words. Sets of items in plain Lean: sound and closed sets are the items. The contracts of gram.T and gram.N. hole.less, hole.then, hole.is. The function values of parlref4.Nearest. parlref4.Shortest, parlref4.fits, parlref4.Complete. slices.Clone of rules and of symbols. gram.Copy. -/
import Derived.Test.YtjpmebppdcclbaaJRepairPrefixRow5
import Derived.Test.YtjpmebppdcclbaaJRepairPrefixRow1
import Derived.Test.YtjpmebppdcclbaaJRepairPrefixRow2
import Derived.Test.YtjpmebppdcclbaaJRepairPrefixRow4
import Derived.BigQuiet
import Derived.Laws.EntriesVeiled
import Derived.Deep.DeepCutAuto
import Derived.Deep.LoopGhost
namespace Go.Proofs.Ytjpmebppdcclbaa
namespace Ht
open Rp Hl
def R0 (P : Sym → Nat → Nat → Prop) : List Sym → Nat → Nat → Prop
  | [], i, j => i = j
  | s :: l, i, j => ∃ m, i ≤ m ∧ m ≤ j ∧ P s i m ∧ R0 P l m j
def D (K : List Rule) (lf : Sym → Nat → Prop) : Nat → Sym → Nat → Nat → Prop
  | 0, s, i, j => j = i + 1 ∧ lf s i
  | h + 1, s, i, j => (j = i + 1 ∧ lf s i) ∨ (s.term = false ∧ ∃ r ∈ K, r.left = s.n ∧ R0 (D K lf h) r.right i j)
def Dx (K : List Rule) (lf : Sym → Nat → Prop) (s : Sym) (i j : Nat) : Prop := ∃ h, D K lf h s i j
section
variable {P Q : Sym → Nat → Nat → Prop}
theorem R0.mono : ∀ {l : List Sym} {i j : Nat}, (∀ s ∈ l, ∀ i j, P s i j → Q s i j) → R0 P l i j → R0 Q l i j
  | [], _, _, _, h => h
  | s :: l, i, j, hpq, ⟨m, h1, h2, h3, h4⟩ => ⟨m, h1, h2, hpq s (by simp) _ _ h3, R0.mono (fun s hs => hpq s (by simp [hs])) h4⟩
theorem R0.le (hP : ∀ s i j, P s i j → i ≤ j) : ∀ {l : List Sym} {i j : Nat}, R0 P l i j → i ≤ j
  | [], _, _, h => by rw [show _ = _ from h]; exact Nat.le_refl _
  | s :: l, i, j, ⟨m, h1, h2, _⟩ => Nat.le_trans h1 h2
theorem R0.app : ∀ {l l' : List Sym} {i j : Nat}, R0 P (l ++ l') i j ↔ ∃ m, R0 P l i m ∧ R0 P l' m j ∧ i ≤ m ∧ (l ≠ [] → m ≤ j)
  | [], l', i, j => by
    constructor
    · intro h; exact ⟨i, rfl, h, Nat.le_refl _, fun h => absurd rfl h⟩
    · rintro ⟨m, h1, h2, _⟩
      have : i = m := h1
      subst this; exact h2
  | s :: l, l', i, j => by
    constructor
    · rintro ⟨m, h1, h2, h3, h4⟩
      obtain ⟨k, h5, h6, h7, h8⟩ := R0.app.1 h4
      refine ⟨k, ⟨m, h1, h7, h3, h5⟩, h6, by omega, fun _ => ?_⟩
      by_cases e : l = []
      · subst e
        have : m = k := h5
        omega
      · exact h8 e
    · rintro ⟨k, ⟨m, h1, h2, h3, h4⟩, h5, h6, h7⟩
      have h8 := h7 (by simp)
      exact ⟨m, h1, by omega, h3, R0.app.2 ⟨k, h4, h5, h2, fun _ => h8⟩⟩
theorem R0.one (hP : ∀ s i j, P s i j → i ≤ j) {s : Sym} {i j : Nat} : R0 P [s] i j ↔ P s i j := by
  constructor
  · rintro ⟨m, h1, h2, h3, h4⟩
    have : m = j := h4
    subst this; exact h3
  · intro h; exact ⟨j, hP _ _ _ h, Nat.le_refl _, h, rfl⟩
theorem R0.snoc (hP : ∀ s i j, P s i j → i ≤ j) {l : List Sym} {s : Sym} {i m j : Nat} (h1 : R0 P l i m) (h2 : P s m j) : R0 P (l ++ [s]) i j :=
  R0.app.2 ⟨m, h1, (R0.one hP).2 h2, R0.le hP h1, fun _ => hP _ _ _ h2⟩
end
section
variable {K K' : List Rule} {lf lf' : Sym → Nat → Prop}
theorem D.le : ∀ {h : Nat} {s : Sym} {i j : Nat}, D K lf h s i j → i ≤ j
  | 0, _, _, _, hd => by have := hd.1; omega
  | h + 1, s, i, j, hd => by
    rcases hd with hd | ⟨_, r, _, _, hr⟩
    · omega
    · exact R0.le (fun s i j hp => D.le hp) hr
theorem Dx.le {s : Sym} {i j : Nat} (h : Dx K lf s i j) : i ≤ j := by obtain ⟨k, h⟩ := h; exact h.le
theorem D.up {h : Nat} : ∀ {s : Sym} {i j : Nat}, D K lf h s i j → D K lf (h + 1) s i j := by
  induction h with
  | zero => intro s i j hd; exact .inl hd
  | succ h ih =>
    intro s i j hd
    rcases hd with hd | ⟨h1, r, h2, h3, h4⟩
    · exact .inl hd
    · exact .inr ⟨h1, r, h2, h3, h4.mono fun _ _ _ _ => ih⟩
theorem D.up' {h h' : Nat} (hh : h ≤ h') {s : Sym} {i j : Nat} (hd : D K lf h s i j) : D K lf h' s i j := by
  induction hh with
  | refl => exact hd
  | step _ ih => exact ih.up
theorem R0.ex : ∀ {l : List Sym} {i j : Nat}, R0 (Dx K lf) l i j → ∃ h, R0 (D K lf h) l i j
  | [], _, _, h => ⟨0, h⟩
  | s :: l, i, j, ⟨m, h1, h2, ⟨k, hk⟩, h4⟩ => by
    obtain ⟨k', hk'⟩ := R0.ex h4
    exact ⟨max k k', m, h1, h2, hk.up' (Nat.le_max_left _ _), hk'.mono fun _ _ _ _ hd => hd.up' (Nat.le_max_right _ _)⟩
theorem Dx.rule {r : Rule} (hr : r ∈ K) {i j : Nat} (h : R0 (Dx K lf) r.right i j) : Dx K lf ⟨false, r.left⟩ i j := by
  obtain ⟨k, hk⟩ := h.ex
  exact ⟨k + 1, .inr ⟨rfl, r, hr, rfl, hk⟩⟩
theorem D.grow (hK : ∀ r ∈ K, r ∈ K') : ∀ {h : Nat} {s : Sym} {i j : Nat}, D K lf h s i j → D K' lf h s i j
  | 0, _, _, _, hd => hd
  | h + 1, s, i, j, hd => by
    rcases hd with hd | ⟨h1, r, h2, h3, h4⟩
    · exact .inl hd
    · exact .inr ⟨h1, r, hK r h2, h3, h4.mono fun _ _ _ _ => D.grow hK⟩
theorem D.cells {n : Nat} (hlf : ∀ s i, i < n → (lf s i ↔ lf' s i)) : ∀ {h : Nat} {s : Sym} {i j : Nat}, j ≤ n → D K lf h s i j → D K lf' h s i j
  | 0, s, i, j, hj, hd => ⟨hd.1, (hlf s i (by have := hd.1; omega)).1 hd.2⟩
  | h + 1, s, i, j, hj, hd => by
    rcases hd with hd | ⟨h1, r, h2, h3, h4⟩
    · exact .inl ⟨hd.1, (hlf s i (by have := hd.1; omega)).1 hd.2⟩
    · refine .inr ⟨h1, r, h2, h3, ?_⟩
      have : ∀ {l : List Sym} {i : Nat}, R0 (D K lf h) l i j → R0 (D K lf' h) l i j := by
        intro l
        induction l with
        | nil => intro i hh; exact hh
        | cons t l ih =>
          intro i hh
          obtain ⟨m, q1, q2, q3, q4⟩ := hh
          exact ⟨m, q1, q2, D.cells hlf (by omega) q3, ih q4⟩
      exact this h4
end
/-! predicted nonterminals, items -/
inductive Pd (K : List Rule) (lf : Sym → Nat → Prop) (S : Int) : Nat → Int → Prop
  | start : Pd K lf S 0 S
  | step {f : Nat} {r : Rule} {d k : Nat} {A : Int} : Pd K lf S f r.left → r ∈ K → R0 (Dx K lf) (r.right.take d) f k → r.right[d]? = some ⟨false, A⟩ → Pd K lf S k A
def It (K : List Rule) (lf : Sym → Nat → Prop) (S : Int) (n : Nat) (t : Int) : Prop := ∃ r ∈ K, ∃ d f, Pd K lf S f r.left ∧ R0 (Dx K lf) (r.right.take d) f n ∧ r.right[d]? = some ⟨true, t⟩
def hwS (hw : Sym → Bool) (s : Sym) : Bool := s.term || hw s
structure HW (K : List Rule) (hw : Sym → Bool) : Prop where
  cl : ∀ r ∈ K, (∀ s ∈ r.right, hwS hw s = true) → hw ⟨false, r.left⟩ = true
  ex : ∀ A : Int, hw ⟨false, A⟩ = true → ∃ r ∈ K, r.left = A ∧ ∀ s ∈ r.right, hwS hw s = true
def KW (K : List Rule) (hw : Sym → Bool) : List Rule := K.filter fun r => r.right.all (hwS hw)
theorem mem_KW {K : List Rule} {hw : Sym → Bool} {r : Rule} : r ∈ KW K hw ↔ r ∈ K ∧ ∀ s ∈ r.right, hwS hw s = true := by
  unfold KW
  rw [List.mem_filter, List.all_eq_true]
def headO (N : Nat) (r : Rule) (p : Nat) : List Sym := match r.right[p]? with
  | some y => if y.term then r.right.take p else r.right.take p ++ [⟨false, y.n + N⟩]
  | none => []
def opn (N : Nat) (r : Rule) : List Rule := ⟨r.left + N, []⟩ :: ⟨r.left + N, r.right⟩ :: (List.range r.right.length).map fun p => ⟨r.left + N, headO N r p⟩
def KO (K : List Rule) (N : Nat) (hw : Sym → Bool) : List Rule := K ++ (KW K hw).flatMap (opn N)
def lfB (hw : Sym → Bool) (N : Nat) (l : List Sym) (s : Sym) (i : Nat) : Prop := i < l.length ∧ fitB s (l.getD i ⟨true, 0⟩) = true ∧ (s.term = true ∨ (N : Int) ≤ s.n ∨ hw s = true)
theorem mem_KO {K : List Rule} {N : Nat} {hw : Sym → Bool} {x : Rule} : x ∈ KO K N hw ↔ x ∈ K ∨ ∃ r ∈ KW K hw, x = ⟨r.left + N, []⟩ ∨ x = ⟨r.left + N, r.right⟩ ∨ ∃ p, p < r.right.length ∧ x = ⟨r.left + N, headO N r p⟩ := by
  unfold KO opn
  rw [List.mem_append, List.mem_flatMap]
  simp only [List.mem_cons, List.mem_map, List.mem_range]
  constructor
  · rintro (h | ⟨r, hr, h | h | ⟨p, hp, h⟩⟩)
    · exact .inl h
    · exact .inr ⟨r, hr, .inl h⟩
    · exact .inr ⟨r, hr, .inr (.inl h)⟩
    · exact .inr ⟨r, hr, .inr (.inr ⟨p, hp, h.symm⟩)⟩
  · rintro (h | ⟨r, hr, h | h | ⟨p, hp, h⟩⟩)
    · exact .inl h
    · exact .inr ⟨r, hr, .inl h⟩
    · exact .inr ⟨r, hr, .inr (.inl h)⟩
    · exact .inr ⟨r, hr, .inr (.inr ⟨p, hp, h.symm⟩)⟩
section
variable {K : List Rule} {N tm : Nat} {hw : Sym → Bool} {l : List Sym}
theorem D.has (hK : KG N K (Hl.okS N tm)) (hH : HW K hw) : ∀ {h : Nat} {s : Sym} {i j : Nat}, Hl.okS N tm s → D K (lfB hw N l) h s i j → hwS hw s = true ∧ D (KW K hw) (lfB hw N l) h s i j := by
  have leafc : ∀ {s : Sym} {i : Nat}, Hl.okS N tm s → lfB hw N l s i → hwS hw s = true := by
    intro s i hs hl
    unfold hwS
    rcases hl.2.2 with h | h | h
    · rw [h]; rfl
    · cases ht : s.term with
      | true => rfl
      | false => have := hs.2.2 ht; omega
    · rw [h]; simp
  intro h
  induction h with
  | zero => intro s i j hs hd; exact ⟨leafc hs hd.2, hd⟩
  | succ h ih =>
    intro s i j hs hd
    rcases hd with hd | ⟨h1, r, h2, h3, h4⟩
    · exact ⟨leafc hs hd.2, .inl hd⟩
    · obtain ⟨q1, q2, q3⟩ := hK r h2
      have key : ∀ {l' : List Sym} {i : Nat}, (∀ s ∈ l', Hl.okS N tm s) → R0 (D K (lfB hw N l) h) l' i j → (∀ s ∈ l', hwS hw s = true) ∧ R0 (D (KW K hw) (lfB hw N l) h) l' i j := by
        intro l'
        induction l' with
        | nil => intro i _ hh; exact ⟨fun s hs => (by cases hs), hh⟩
        | cons t l' ih2 =>
          intro i ho hh
          obtain ⟨m, a1, a2, a3, a4⟩ := hh
          obtain ⟨b1, b2⟩ := ih (ho t (by simp)) a3
          obtain ⟨b3, b4⟩ := ih2 (fun s hs => ho s (by simp [hs])) a4
          refine ⟨fun s hs => ?_, m, a1, a2, b2, b4⟩
          rcases List.mem_cons.1 hs with rfl | hs
          · exact b1
          · exact b3 s hs
      obtain ⟨k1, k2⟩ := key q3 h4
      have hs2 : s = ⟨false, r.left⟩ := by obtain ⟨a, b⟩ := s; simp at h1 h3; rw [h1, h3]
      refine ⟨?_, .inr ⟨h1, r, mem_KW.2 ⟨h2, k1⟩, h3, k2⟩⟩
      unfold hwS
      rw [hs2, hH.cl r h2 k1]; rfl
theorem D.norm (hK : KG N K (Hl.okS N tm)) : ∀ {h : Nat} {s : Sym} {i j : Nat}, Hl.okS N tm s → D (KO K N hw) (lfB hw N l) h s i j → D K (lfB hw N l) h s i j := by
  intro h
  induction h with
  | zero => intro s i j _ hd; exact hd
  | succ h ih =>
    intro s i j hs hd
    rcases hd with hd | ⟨h1, r, h2, h3, h4⟩
    · exact .inl hd
    · have hr : r ∈ K := by
        rcases mem_KO.1 h2 with h | ⟨r', hr', h⟩
        · exact h
        · exfalso
          have h5 := (hK r' (mem_KW.1 hr').1).1
          have h6 := hs.2.2 h1
          have h7 : r.left = r'.left + N := by
            rcases h with rfl | rfl | ⟨p, _, rfl⟩ <;> rfl
          omega
      have key : ∀ {l' : List Sym} {i : Nat}, (∀ s ∈ l', Hl.okS N tm s) → R0 (D (KO K N hw) (lfB hw N l) h) l' i j → R0 (D K (lfB hw N l) h) l' i j := by
        intro l'
        induction l' with
        | nil => intro i _ hh; exact hh
        | cons t l' ih2 =>
          intro i ho hh
          obtain ⟨m, a1, a2, a3, a4⟩ := hh
          exact ⟨m, a1, a2, ih (ho t (by simp)) a3, ih2 (fun s hs => ho s (by simp [hs])) a4⟩
      exact .inr ⟨h1, r, hr, h3, key (hK r hr).2.2 h4⟩
theorem R0.kw (hK : KG N K (Hl.okS N tm)) (hH : HW K hw) {h : Nat} : ∀ {l' : List Sym} {i j : Nat}, (∀ s ∈ l', Hl.okS N tm s) → R0 (D (KO K N hw) (lfB hw N l) h) l' i j → R0 (D (KW K hw) (lfB hw N l) h) l' i j
  | [], _, _, _, hh => hh
  | t :: l', i, j, ho, ⟨m, a1, a2, a3, a4⟩ => ⟨m, a1, a2, ((D.norm hK (ho t (by simp)) a3).has hK hH (ho t (by simp))).2, R0.kw hK hH (fun s hs => ho s (by simp [hs])) a4⟩
theorem kw_ko {r : Rule} (h : r ∈ KW K hw) : r ∈ KO K N hw := mem_KO.2 (.inl (mem_KW.1 h).1)
theorem R0.last {P : Sym → Nat → Nat → Prop} {n : Nat} : ∀ {l' : List Sym} {i : Nat}, i ≤ n → R0 P l' i (n + 1) → ∃ d s j, l'[d]? = some s ∧ R0 P (l'.take d) i j ∧ i ≤ j ∧ j ≤ n ∧ P s j (n + 1)
  | [], i, hi, h => by have : i = n + 1 := h; omega
  | s :: l', i, hi, ⟨m, h1, h2, h3, h4⟩ => by
    by_cases hm : m ≤ n
    · obtain ⟨d, s', j, a1, a2, a3, a4, a5⟩ := R0.last hm h4
      exact ⟨d + 1, s', j, by simpa using a1, ⟨m, h1, a3, h3, a2⟩, by omega, a4, a5⟩
    · have : m = n + 1 := by omega
      subst this
      exact ⟨0, s, i, rfl, rfl, Nat.le_refl _, hi, h3⟩
end
section
variable {K : List Rule} {N tm : Nat} {hw : Sym → Bool} {l : List Sym} {S t : Int}
theorem fit_last {s : Sym} (ht : 0 ≤ t) (h : fitB s ⟨true, t⟩ = true) : s = ⟨true, t⟩ := by
  unfold fitB at h
  simp only [Bool.or_eq_true, Bool.and_eq_true, decide_eq_true_eq] at h
  rcases h with h | h
  · exact h
  · exact absurd h.2 (by omega)
theorem getD_last : (l ++ [(⟨true, t⟩ : Sym)]).getD l.length ⟨true, 0⟩ = ⟨true, t⟩ := by simp [List.getD_eq_getElem?_getD]
theorem lf_cells {s : Sym} {i : Nat} (hi : i < l.length) : lfB hw N (l ++ [⟨true, t⟩]) s i ↔ lfB hw N l s i := by
  unfold lfB
  have e : (l ++ [(⟨true, t⟩ : Sym)]).getD i ⟨true, 0⟩ = l.getD i ⟨true, 0⟩ := by
    rw [List.getD_eq_getElem?_getD, List.getD_eq_getElem?_getD, List.getElem?_append_left hi]
  rw [e]
  simp only [List.length_append, List.length_cons, List.length_nil]
  constructor
  · rintro ⟨_, h2, h3⟩; exact ⟨hi, h2, h3⟩
  · rintro ⟨_, h2, h3⟩; exact ⟨by omega, h2, h3⟩
theorem item_down (ht : 0 ≤ t) : ∀ {h : Nat} {s : Sym} {r : Rule} {d f j : Nat}, r ∈ KW K hw → Pd (KW K hw) (lfB hw N (l ++ [⟨true, t⟩])) S f r.left → R0 (Dx (KW K hw) (lfB hw N (l ++ [⟨true, t⟩]))) (r.right.take d) f j → r.right[d]? = some s → j ≤ l.length → D (KW K hw) (lfB hw N (l ++ [⟨true, t⟩])) h s j (l.length + 1) → It (KW K hw) (lfB hw N (l ++ [⟨true, t⟩])) S l.length t := by
  have leafc : ∀ {s : Sym} {r : Rule} {d f j : Nat}, r ∈ KW K hw → Pd (KW K hw) (lfB hw N (l ++ [⟨true, t⟩])) S f r.left → R0 (Dx (KW K hw) (lfB hw N (l ++ [⟨true, t⟩]))) (r.right.take d) f j → r.right[d]? = some s → (l.length + 1 = j + 1 ∧ lfB hw N (l ++ [⟨true, t⟩]) s j) → It (KW K hw) (lfB hw N (l ++ [⟨true, t⟩])) S l.length t := by
    rintro s r d f j hr hp h0 hd ⟨e, hl⟩
    obtain rfl : j = l.length := by omega
    have := hl.2.1
    rw [getD_last] at this
    rw [fit_last ht this] at hd
    exact ⟨r, hr, d, f, hp, h0, hd⟩
  intro h
  induction h with
  | zero => intro s r d f j hr hp h0 hd hj hD; exact leafc hr hp h0 hd hD
  | succ h ih =>
    intro s r d f j hr hp h0 hd hj hD
    rcases hD with hD | ⟨h1, r2, h2, h3, h4⟩
    · exact leafc hr hp h0 hd hD
    · have hs : s = ⟨false, r2.left⟩ := by obtain ⟨a, b⟩ := s; simp at h1 h3; rw [h1, h3]
      rw [hs] at hd
      have hp2 : Pd (KW K hw) (lfB hw N (l ++ [⟨true, t⟩])) S j r2.left := .step hp hr h0 hd
      obtain ⟨d2, s2, j2, a1, a2, a3, a4, a5⟩ := R0.last hj h4
      exact ih h2 hp2 (a2.mono fun _ _ _ _ hd => ⟨h, hd⟩) a1 a4 a5
theorem beg_item (hK : KG N K (Hl.okS N tm)) (hH : HW K hw) (hl : ∀ c ∈ l, cellOk N tm c) (ht : 0 ≤ t) : ∀ {h : Nat} {A : Int} {i : Nat}, 0 ≤ A → i ≤ l.length → Pd (KW K hw) (lfB hw N (l ++ [⟨true, t⟩])) S i A → D (KO K N hw) (lfB hw N (l ++ [⟨true, t⟩])) h ⟨false, A + N⟩ i (l.length + 1) → It (KW K hw) (lfB hw N (l ++ [⟨true, t⟩])) S l.length t := by
  have leafc : ∀ {A : Int} {i : Nat}, 0 ≤ A → i ≤ l.length → ¬ lfB hw N (l ++ [⟨true, t⟩]) ⟨false, A + N⟩ i := by
    intro A i hA hi h
    have hf := h.2.1
    unfold fitB at hf
    simp only [Bool.false_and, Bool.or_false, decide_eq_true_eq] at hf
    rcases Nat.lt_or_ge i l.length with hi2 | hi2
    · have e : (l ++ [(⟨true, t⟩ : Sym)]).getD i ⟨true, 0⟩ = l[i] := by
        rw [List.getD_eq_getElem?_getD, List.getElem?_append_left hi2, List.getElem?_eq_getElem hi2]; rfl
      rw [e] at hf
      have := (hl l[i] (List.getElem_mem hi2)).2
      rw [← hf] at this
      have := (this rfl).2
      simp only at this
      omega
    · obtain rfl : i = l.length := by omega
      rw [getD_last] at hf
      cases hf
  intro h
  induction h with
  | zero => intro A i hA hi _ hD; exact absurd hD.2 (leafc hA hi)
  | succ h ih =>
    intro A i hA hi hp hD
    rcases hD with hD | ⟨_, x, hx, hxl, hrow⟩
    · exact absurd hD.2 (leafc hA hi)
    · have hxK : ∃ r ∈ KW K hw, x = ⟨r.left + N, []⟩ ∨ x = ⟨r.left + N, r.right⟩ ∨ ∃ p, p < r.right.length ∧ x = ⟨r.left + N, headO N r p⟩ := by
        rcases mem_KO.1 hx with h | h
        · have := (hK x h).2.1
          simp only at hxl
          omega
        · exact h
      obtain ⟨r, hr, hx2⟩ := hxK
      have hrl : r.left = A := by
        rcases hx2 with rfl | rfl | ⟨p, _, rfl⟩ <;> (simp only at hxl; omega)
      have hro := (hK r (mem_KW.1 hr).1).2.2
      have hp' : Pd (KW K hw) (lfB hw N (l ++ [⟨true, t⟩])) S i r.left := by rw [hrl]; exact hp
      have part : ∀ q, R0 (D (KO K N hw) (lfB hw N (l ++ [⟨true, t⟩])) h) (r.right.take q) i (l.length + 1) → It (KW K hw) (lfB hw N (l ++ [⟨true, t⟩])) S l.length t := by
        intro q hq
        have hq2 := R0.kw hK hH (fun s hs => hro s (List.mem_of_mem_take hs)) hq
        obtain ⟨d, s, j, a1, a2, a3, a4, a5⟩ := R0.last hi hq2
        have hdq : d < q := by
          rcases Nat.lt_or_ge d q with h | h
          · exact h
          · rw [List.getElem?_eq_none (by rw [List.length_take]; omega)] at a1; cases a1
        rw [List.take_take, Nat.min_eq_left (by omega)] at a2
        rw [List.getElem?_take, if_pos hdq] at a1
        exact item_down ht hr hp' (a2.mono fun _ _ _ _ hd => ⟨h, hd⟩) a1 a4 a5
      rcases hx2 with rfl | rfl | ⟨p, hpl, rfl⟩
      · have : i = l.length + 1 := hrow
        omega
      · exact part r.right.length (by rw [List.take_length]; exact hrow)
      · have hy : r.right[p]? = some r.right[p] := List.getElem?_eq_getElem hpl
        simp only [headO, hy] at hrow
        by_cases htm : r.right[p].term = true
        · rw [if_pos htm] at hrow
          exact part p hrow
        · rw [if_neg htm] at hrow
          obtain ⟨m, a1, a2, a3, a4⟩ := R0.app.1 hrow
          have a5 := (R0.one (fun s i j hp => D.le hp)).1 a2
          have hyt : r.right[p].term = false := by simpa using htm
          have hyok := hro _ (List.getElem_mem hpl)
          by_cases hm : m ≤ l.length
          · have hq2 := R0.kw hK hH (fun s hs => hro s (List.mem_of_mem_take hs)) a1
            have hys : r.right[p]? = some ⟨false, r.right[p].n⟩ := by
              rw [hy]
              congr 1
              rw [← hyt]
            exact ih hyok.1 hm (.step hp' hr (hq2.mono fun _ _ _ _ hd => ⟨h, hd⟩) hys) a5
          · have : m = l.length + 1 := by have := a5.le; omega
            subst this
            exact part p a1
theorem pd_up {lf : Sym → Nat → Prop} {m : Nat} : ∀ {f : Nat} {A : Int}, Pd (KW K hw) lf S f A → f ≤ m → Dx (KO K N hw) lf ⟨false, A + N⟩ f m → Dx (KO K N hw) lf ⟨false, S + N⟩ 0 m := by
  intro f A hp
  induction hp with
  | start => intro _ h; exact h
  | @step f r d k A hp hr h0 hd ih =>
    intro hk h
    have hdl : d < r.right.length := by
      rcases Nat.lt_or_ge d r.right.length with h | h
      · exact h
      · rw [List.getElem?_eq_none h] at hd; cases hd
    have hf := R0.le (fun s i j hp => Dx.le hp) h0
    refine ih (by omega) ?_
    have hmem : (⟨r.left + N, headO N r d⟩ : Rule) ∈ KO K N hw := mem_KO.2 (.inr ⟨r, hr, .inr (.inr ⟨d, hdl, rfl⟩)⟩)
    refine Dx.rule (r := ⟨r.left + N, headO N r d⟩) hmem ?_
    simp only [headO, hd, Bool.false_eq_true, if_false]
    refine R0.snoc (fun s i j hp => Dx.le hp) (h0.mono fun s _ i j hx => ?_) h
    obtain ⟨q, hq⟩ := hx
    exact ⟨q, hq.grow fun r hr => kw_ko hr⟩
theorem item_beg (hH : HW K hw) (h : It (KW K hw) (lfB hw N (l ++ [⟨true, t⟩])) S l.length t) : Dx (KO K N hw) (lfB hw N (l ++ [⟨true, t⟩])) ⟨false, S + N⟩ 0 (l.length + 1) := by
  obtain ⟨r, hr, d, f, hp, h0, hd⟩ := h
  have hdl : d < r.right.length := by
    rcases Nat.lt_or_ge d r.right.length with h | h
    · exact h
    · rw [List.getElem?_eq_none h] at hd; cases hd
  have hf := R0.le (fun s i j hp => Dx.le hp) h0
  refine pd_up hp (by omega) ?_
  have hcell : Dx (KO K N hw) (lfB hw N (l ++ [⟨true, t⟩])) ⟨true, t⟩ l.length (l.length + 1) := ⟨0, rfl, by simp, by rw [getD_last]; unfold fitB; simp, .inl rfl⟩
  have hrow : R0 (Dx (KO K N hw) (lfB hw N (l ++ [⟨true, t⟩]))) (r.right.take (d + 1)) f (l.length + 1) := by
    rw [List.take_add_one, hd]
    refine R0.snoc (fun s i j hp => Dx.le hp) (h0.mono fun s _ i j hx => ?_) hcell
    obtain ⟨q, hq⟩ := hx
    exact ⟨q, hq.grow fun r hr => kw_ko hr⟩
  by_cases hlast : d + 1 = r.right.length
  · rw [hlast, List.take_length] at hrow
    exact Dx.rule (r := ⟨r.left + N, r.right⟩) (mem_KO.2 (.inr ⟨r, hr, .inr (.inl rfl)⟩)) hrow
  · have hd1 : d + 1 < r.right.length := by omega
    refine Dx.rule (r := ⟨r.left + N, headO N r (d + 1)⟩) (mem_KO.2 (.inr ⟨r, hr, .inr (.inr ⟨d + 1, hd1, rfl⟩)⟩)) ?_
    have hy : r.right[d + 1]? = some r.right[d + 1] := List.getElem?_eq_getElem hd1
    simp only [headO, hy]
    by_cases htm : r.right[d + 1].term = true
    · rw [if_pos htm]; exact hrow
    · rw [if_neg htm]
      have hwy := (mem_KW.1 hr).2 _ (List.getElem_mem hd1)
      have hyt : r.right[d + 1].term = false := by simpa using htm
      have hwy2 : hw ⟨false, r.right[d + 1].n⟩ = true := by
        unfold hwS at hwy
        rw [hyt, Bool.false_or] at hwy
        have e : r.right[d + 1] = ⟨false, r.right[d + 1].n⟩ := by
          rw [← hyt]
        rw [← e]; exact hwy
      obtain ⟨r3, hr3, hl3, hs3⟩ := hH.ex _ hwy2
      refine R0.snoc (fun s i j hp => Dx.le hp) hrow ?_
      have := Dx.rule (K := KO K N hw) (lf := lfB hw N (l ++ [⟨true, t⟩])) (r := ⟨r3.left + N, []⟩) (mem_KO.2 (.inr ⟨r3, mem_KW.2 ⟨hr3, hs3⟩, .inl rfl⟩)) (i := l.length + 1) (j := l.length + 1) rfl
      rw [hl3] at this
      exact this
theorem begins_iff (hK : KG N K (Hl.okS N tm)) (hH : HW K hw) (hl : ∀ c ∈ l, cellOk N tm c) (hS : 0 ≤ S) (ht : 0 ≤ t) : Dx (KO K N hw) (lfB hw N (l ++ [⟨true, t⟩])) ⟨false, S + N⟩ 0 (l.length + 1) ↔ It (KW K hw) (lfB hw N (l ++ [⟨true, t⟩])) S l.length t := by
  constructor
  · rintro ⟨h, hd⟩
    exact beg_item hK hH hl ht hS (Nat.zero_le _) .start hd
  · exact item_beg hH
end
end Ht
end Go.Proofs.Ytjpmebppdcclbaa
namespace Go.Proofs.Ytjpmebppdcclbaa
namespace Ht
open Rp Hl
def leafB (hw : Sym → Bool) (N : Nat) (l : List Sym) (y : Sym) (i j : Nat) : Option Val := if j = i + 1 ∧ i < l.length ∧ fitB y (l.getD i ⟨true, 0⟩) = true ∧ (y.term = true ∨ (N : Int) ≤ y.n ∨ hw y = true) then some zero else none
def GZ (v : Val) (_ _ : Nat) : Prop := v = zero
section
variable {K : List Rule} {N tm : Nat} {hw : Sym → Bool} {l : List Sym}
theorem leafB_some {y : Sym} {i j : Nat} {v : Val} : leafB hw N l y i j = some v ↔ v = zero ∧ j = i + 1 ∧ lfB hw N l y i := by
  unfold leafB lfB
  constructor
  · intro e
    split at e
    · rename_i h; cases e; exact ⟨rfl, h.1, h.2⟩
    · cases e
  · rintro ⟨rfl, h1, h2⟩
    rw [if_pos ⟨h1, h2⟩]
theorem emH_some {i j : Nat} {v : Val} : emH i j = some v ↔ v = zero ∧ i = j := by
  unfold emH
  constructor
  · intro e
    split at e
    · rename_i h; cases e; exact ⟨rfl, h⟩
    · cases e
  · rintro ⟨rfl, rfl⟩; rw [if_pos rfl]
theorem gokB {n : Nat} {ok : Sym → Prop} : GOk (leafB hw N l) emH n ok GZ := by
  refine ⟨fun v _ _ h => by rw [show v = zero from h]; exact wf_zero, fun y i j v e => ?_, wf_emH, fun y i j v _ _ _ e => (leafB_some.1 e).1, fun i j v _ _ e => (emH_some.1 e).1, fun i _ => rfl, fun a b i m j ha hb _ _ _ => ?_⟩
  · rw [(leafB_some.1 e).1]; exact wf_zero
  · rw [show a = zero from ha, show b = zero from hb]; rfl
theorem ko_ok (hK : KG N K (Hl.okS N tm)) : KG (2 * N) (KO K N hw) (Hl.okS (2 * N) tm) := by
  have up : ∀ s, Hl.okS N tm s → Hl.okS (2 * N) tm s := fun s h => ⟨h.1, h.2.1, fun e => by have := h.2.2 e; omega⟩
  intro x hx
  rcases mem_KO.1 hx with h | ⟨r, hr, h⟩
  · obtain ⟨h1, h2, h3⟩ := hK x h
    exact ⟨h1, by omega, fun s hs => up s (h3 s hs)⟩
  · obtain ⟨h1, h2, h3⟩ := hK r (mem_KW.1 hr).1
    have hl : x.left = r.left + N := by rcases h with rfl | rfl | ⟨p, _, rfl⟩ <;> rfl
    refine ⟨by omega, by omega, fun s hs => ?_⟩
    rcases h with rfl | rfl | ⟨p, hp, rfl⟩
    · cases hs
    · exact up s (h3 s hs)
    · have hy : r.right[p]? = some r.right[p] := List.getElem?_eq_getElem hp
      simp only [headO, hy] at hs
      split at hs
      · exact up s (h3 s (List.mem_of_mem_take hs))
      · rename_i ht
        rcases List.mem_append.1 hs with hs | hs
        · exact up s (h3 s (List.mem_of_mem_take hs))
        · simp at hs
          subst hs
          have h4 := h3 _ (List.getElem_mem hp)
          have h5 := h4.2.2 (by simpa using ht)
          have h6 := h4.1
          exact ⟨by show (0 : Int) ≤ r.right[p].n + (N : Int); omega, (fun e => by cases e), fun _ => by show r.right[p].n + (N : Int) < _; omega⟩
theorem head_len {r : Rule} {p : Nat} (hp : p < r.right.length) : (headO N r p).length ≤ r.right.length := by
  have hy : r.right[p]? = some r.right[p] := List.getElem?_eq_getElem hp
  simp only [headO, hy]
  split
  · rw [List.length_take]; omega
  · rw [List.length_append, List.length_take]; simp; omega
theorem ko_len (hr4 : ∀ r ∈ K, r.right.length ≤ 4) : ∀ r ∈ KO K N hw, r.right.length ≤ 4 := by
  intro x hx
  rcases mem_KO.1 hx with h | ⟨r, hr, h⟩
  · exact hr4 x h
  · have h1 := hr4 r (mem_KW.1 hr).1
    rcases h with rfl | rfl | ⟨p, hp, rfl⟩
    · simp
    · exact h1
    · exact Nat.le_trans (head_len hp) h1
theorem planB {n M : Nat} {K : List Rule} (hK : KG M K (Hl.okS M tm)) : Plan K (leafB hw N l) emH n (Hl.okS M tm) 0 (fun _ _ _ T => CG (leafB hw N l) emH n M K GZ T ∧ True) (muU [zero] M n) := by
  refine planG gokB hK _ _ (fun _ => True) trivial (fun _ _ _ _ _ _ _ _ _ _ _ _ => trivial) (fun T A x y v h _ e => ?_) (fun T h _ s hsk i j hij hj => ?_)
  · have := (h A x y v e).2.2.2.2.1
    rw [show v = zero from this]; simp
  · cases e : ofT (leafB hw N l) T s i j with
    | none => exact ⟨Nat.zero_le _, Nat.zero_le _⟩
    | some v =>
      have := ((of_vo gokB h).2 s i j v hij hj e).2 hsk
      rw [show v = zero from this]
      exact ⟨Nat.le_refl _, Nat.le_refl _⟩
/-! values of nothing are derivations over cells -/
theorem row_r0 {P : Sym → Nat → Nat → Val → Prop} {Q : Sym → Nat → Nat → Prop} (hPQ : ∀ s i j v, P s i j v → Q s i j ∧ i ≤ j) : ∀ {l : List Sym} {i j : Nat} {v : Val}, Row P l i j v → R0 Q l i j
  | [], _, _, _, h => h.elim
  | [s], i, j, v, h => ⟨j, (hPQ _ _ _ _ h).2, Nat.le_refl _, (hPQ _ _ _ _ h).1, rfl⟩
  | s :: t :: l, _, _, _, ⟨m, a, b, h1, h2, h3, h4, _⟩ => ⟨m, h1, h2, (hPQ _ _ _ _ h3).1, row_r0 hPQ h4⟩
theorem r0_row {P : Sym → Nat → Nat → Val → Prop} {Q : Sym → Nat → Nat → Prop} {n : Nat} (hQP : ∀ s i j, j ≤ n → Q s i j → P s i j zero) : ∀ {l : List Sym} {i j : Nat}, l ≠ [] → j ≤ n → R0 Q l i j → Row P l i j zero
  | [], _, _, h, _, _ => absurd rfl h
  | [s], i, j, _, hj, ⟨m, h1, h2, h3, h4⟩ => by
    have : m = j := h4
    subst this
    exact hQP _ _ _ hj h3
  | s :: t :: l, i, j, _, hj, ⟨m, h1, h2, h3, h4⟩ => ⟨m, zero, zero, h1, h2, hQP _ _ _ (by omega) h3, r0_row hQP (by simp) hj h4, rfl⟩
theorem dr_d {n : Nat} {K : List Rule} {h : Nat} : ∀ {y : Sym} {i j : Nat} {v : Val}, Dr K (clL (leafB hw N l) n) (clE emH n) h y i j v → D K (lfB hw N l) h y i j := by
  have lf : ∀ {y : Sym} {i j : Nat} {v : Val}, clL (leafB hw N l) n y i j = some v → j = i + 1 ∧ lfB hw N l y i := by
    intro y i j v e
    unfold clL at e
    split at e
    · exact (leafB_some.1 e).2
    · cases e
  induction h with
  | zero => intro y i j v e; exact lf e
  | succ h ih =>
    intro y i j v e
    rcases e with e | ⟨h1, r, h2, h3, ⟨h4, h5⟩ | h4⟩
    · exact .inl (lf e)
    · refine .inr ⟨h1, r, h2, h3, ?_⟩
      rw [h4]
      unfold clE at h5
      split at h5
      · exact (emH_some.1 h5).2
      · cases h5
    · exact .inr ⟨h1, r, h2, h3, row_r0 (fun s i j v hd => ⟨ih hd, (ih hd).le⟩) h4⟩
theorem d_dr {n : Nat} {K : List Rule} {h : Nat} : ∀ {y : Sym} {i j : Nat}, j ≤ n → D K (lfB hw N l) h y i j → Dr K (clL (leafB hw N l) n) (clE emH n) h y i j zero := by
  have lf : ∀ {y : Sym} {i j : Nat}, j ≤ n → j = i + 1 ∧ lfB hw N l y i → clL (leafB hw N l) n y i j = some zero := by
    rintro y i j hj ⟨e, hl⟩
    unfold clL
    rw [if_pos ⟨by omega, hj⟩]
    exact leafB_some.2 ⟨rfl, e, hl⟩
  induction h with
  | zero => intro y i j hj e; exact lf hj e
  | succ h ih =>
    intro y i j hj e
    rcases e with e | ⟨h1, r, h2, h3, h4⟩
    · exact .inl (lf hj e)
    · refine .inr ⟨h1, r, h2, h3, ?_⟩
      by_cases hre : r.right = []
      · refine .inl ⟨hre, ?_⟩
        rw [hre] at h4
        have : i = j := h4
        subst this
        unfold clE
        rw [if_pos ⟨Nat.le_refl _, hj⟩]
        exact emH_some.2 ⟨rfl, rfl⟩
      · exact .inr (r0_row (fun s i j hj hd => ih hj hd) hre hj h4)
theorem bv_iff {n M : Nat} {K : List Rule} {T : Tb} (h : CG (leafB hw N l) emH n M K GZ T) (hcl : ClosedT K (leafB hw N l) emH n T) (y : Sym) {i j : Nat} (hij : i ≤ j) (hj : j ≤ n) :
    (ofT (leafB hw N l) T y i j).isSome = true ↔ Dx K (lfB hw N l) y i j := by
  have g := gokB (hw := hw) (N := N) (l := l) (n := n) (ok := fun _ => True)
  have hvo := of_vo g h
  constructor
  · intro e
    cases e2 : ofT (leafB hw N l) T y i j with
    | none => rw [e2] at e; cases e
    | some v =>
      obtain ⟨k, hd⟩ := (hvo.2 y i j v hij hj e2).1
      exact ⟨k, dr_d hd⟩
  · rintro ⟨k, hd⟩
    have hc := closed_of g (cg_wf g h) hcl
    obtain ⟨_, u, h1, _⟩ := closed_le (fun y i j v e => (cl_sound hvo y i j v e).1) (fun y i j v e => by
      unfold clL at e
      split at e
      · exact g.lwf _ _ _ v e
      · cases e) (fun i j v e => by
      unfold clE at e
      split at e
      · exact g.ewf _ _ v e
      · cases e) hc k y i j zero (d_dr hj hd)
    obtain ⟨_, _, h3⟩ := cl_vp.1 h1
    rw [h3]; rfl
end
/-! which symbols have words -/
noncomputable def hwOf (K : List Rule) (N tm : Nat) (y : Sym) : Bool := (svOf K N tm y).isSome
theorem hw_ok {K : List Rule} {N tm : Nat} {T : Tb} (h : CG leafS emS 0 N K (GS tm) T) (hcl : ClosedT K leafS emS 0 T) : HW K (hwOf K N tm) := by
  have g := gokS N tm
  have hvo := of_vo g h
  have hc := closed_of g (cg_wf g h) hcl
  have he : ∀ y, clV 0 (ofT leafS T) y 0 0 = svOf K N tm y := fun y => by
    unfold clV
    rw [if_pos ⟨Nat.le_refl _, Nat.le_refl _⟩]
    exact sv_eqT h hcl y
  have hall : ∀ s : Sym, hwS (hwOf K N tm) s = true → ∃ v, clV 0 (ofT leafS T) s 0 0 = some v := by
    intro s hs
    have : hwOf K N tm s = true := by
      unfold hwS at hs
      cases ht : s.term with
      | true =>
        unfold hwOf
        rw [← sv_eqT h hcl s, of_S, if_pos ht]; rfl
      | false => rw [ht] at hs; simpa using hs
    rw [he]
    unfold hwOf at this
    exact Option.isSome_iff_exists.1 this
  refine ⟨fun r hr hs => ?_, fun A hA => ?_⟩
  · have key : ∃ u, clV 0 (ofT leafS T) ⟨false, r.left⟩ 0 0 = some u := by
      by_cases hre : r.right = []
      · obtain ⟨u, h1, _⟩ := hc.empty r hr hre 0 0 zero (by unfold clE emS; rw [if_pos ⟨Nat.le_refl _, Nat.le_refl _⟩])
        exact ⟨u, h1⟩
      · have row : ∀ {l : List Sym}, l ≠ [] → (∀ s ∈ l, hwS (hwOf K N tm) s = true) → ∃ v, Row (fun s i j v => clV 0 (ofT leafS T) s i j = some v) l 0 0 v := by
          intro l
          induction l with
          | nil => intro h _; exact absurd rfl h
          | cons s l ih =>
            intro _ hs
            obtain ⟨a, ha⟩ := hall s (hs s (by simp))
            cases l with
            | nil => exact ⟨a, ha⟩
            | cons t l =>
              obtain ⟨b, hb⟩ := ih (by simp) (fun s hs2 => hs s (by simp [List.mem_cons] at hs2 ⊢; exact .inr hs2))
              exact ⟨_, 0, a, b, Nat.le_refl _, Nat.le_refl _, ha, hb, rfl⟩
        obtain ⟨v, hv⟩ := row hre hs
        obtain ⟨u, h1, _⟩ := hc.rule r hr 0 0 v hv
        exact ⟨u, h1⟩
    obtain ⟨u, hu⟩ := key
    rw [he] at hu
    unfold hwOf
    rw [hu]; rfl
  · unfold hwOf at hA
    obtain ⟨v, hv⟩ := Option.isSome_iff_exists.1 hA
    rw [← sv_eqT h hcl] at hv
    obtain ⟨k, hd⟩ := (hvo.2 _ 0 0 v (Nat.le_refl _) (Nat.le_refl _) hv).1
    have lfn : clL leafS 0 ⟨false, A⟩ 0 0 ≠ some v := by
      intro e
      unfold clL leafS at e
      simp at e
    have back : ∀ {k : Nat} {s : Sym} {v : Val}, Dr K (clL leafS 0) (clE emS 0) k s 0 0 v → hwS (hwOf K N tm) s = true := by
      intro k s v hd
      obtain ⟨_, u, h1, _⟩ := closed_le (fun y i j v e => (cl_sound hvo y i j v e).1) (fun y i j v e => by
        unfold clL at e
        split at e
        · exact g.lwf _ _ _ v e
        · cases e) (fun i j v e => by
        unfold clE at e
        split at e
        · exact g.ewf _ _ v e
        · cases e) hc k s 0 0 v hd
      rw [he] at h1
      unfold hwS hwOf
      rw [h1]; simp
    cases k with
    | zero => exact absurd hd lfn
    | succ k =>
      rcases hd with hd | ⟨_, r, h2, h3, ⟨h4, _⟩ | h4⟩
      · exact absurd hd lfn
      · exact ⟨r, h2, h3, fun s hs => by rw [h4] at hs; cases hs⟩
      · refine ⟨r, h2, h3, ?_⟩
        have row : ∀ {l : List Sym} {i j : Nat} {v : Val}, i = 0 → j = 0 → Row (Dr K (clL leafS 0) (clE emS 0) k) l i j v → ∀ s ∈ l, hwS (hwOf K N tm) s = true := by
          intro l
          induction l with
          | nil => intro i j v _ _ hh; exact hh.elim
          | cons s l ih =>
            intro i j v hi hj hh
            subst hi hj
            cases l with
            | nil =>
              intro s' hs'
              simp at hs'
              subst hs'
              exact back hh
            | cons t l =>
              obtain ⟨m, a, b, q1, q2, q3, q4, _⟩ := hh
              obtain rfl : m = 0 := by omega
              intro s' hs'
              rcases List.mem_cons.1 hs' with rfl | hs'
              · exact back q3
              · exact ih rfl rfl q4 s' hs'
        exact row rfl rfl h4
theorem it_none {K : List Rule} {hw : Sym → Bool} (hH : HW K hw) {lf : Sym → Nat → Prop} {S : Int} {n : Nat} {t : Int} (hs : hw ⟨false, S⟩ = false) : ¬ It (KW K hw) lf S n t := by
  rintro ⟨r, hr, d, f, hp, _, _⟩
  have : ∀ {f : Nat} {A : Int}, Pd (KW K hw) lf S f A → hw ⟨false, A⟩ = true → False := by
    intro f A hp
    induction hp with
    | start => intro h; rw [hs] at h; cases h
    | @step f r d k A hp hr h0 hd ih => 
      intro _
      exact ih (hH.cl r (mem_KW.1 hr).1 (mem_KW.1 hr).2)
  exact this hp (hH.cl r (mem_KW.1 hr).1 (mem_KW.1 hr).2)
end Ht
end Go.Proofs.Ytjpmebppdcclbaa
namespace Go.Proofs.Ytjpmebppdcclbaa
namespace Ht
open Rp Hl
structure Itm where
  r : Nat
  d : Nat
  f : Nat
deriving DecidableEq
def addI (c : List Itm) (x : Itm) : List Itm := if x ∈ c then c else c ++ [x]
theorem mem_addI {c : List Itm} {x y : Itm} : y ∈ addI c x ↔ y ∈ c ∨ y = x := by
  unfold addI
  split
  · rename_i h
    constructor
    · exact .inl
    · rintro (h1 | rfl)
      · exact h1
      · exact h
  · simp
theorem nodup_addI {c : List Itm} {x : Itm} (h : c.Nodup) : (addI c x).Nodup := by
  unfold addI
  split
  · exact h
  · rename_i hx
    rw [List.nodup_append]
    refine ⟨h, by simp, fun a ha b hb => ?_⟩
    simp at hb
    subst hb
    exact fun e => hx (e ▸ ha)
theorem pre_addI (c : List Itm) (x : Itm) : c <+: addI c x := by
  unfold addI
  split
  · exact List.prefix_refl _
  · exact List.prefix_append _ _
theorem pre_eq {c c' : List Itm} (h : c <+: c') (hl : c'.length = c.length) : c' = c := (h.eq_of_length hl.symm).symm
def nxt (K : List Rule) (x : Itm) : Option Sym := (K[x.r]?).bind fun r => r.right[x.d]?
def okI (K : List Rule) (k : Nat) (x : Itm) : Prop := x.f ≤ k ∧ ∃ r, K[x.r]? = some r ∧ x.d ≤ r.right.length
section
variable (K : List Rule) (lf : Sym → Nat → Prop) (S : Int)
def Sd (k : Nat) (x : Itm) : Prop := ∃ r, K[x.r]? = some r ∧ x.d ≤ r.right.length ∧ Pd K lf S x.f r.left ∧ R0 (Dx K lf) (r.right.take x.d) x.f k
def PrC (k : Nat) (c : List Itm) (s : Sym) : Prop := ∀ i r, K[i]? = some r → s = ⟨false, r.left⟩ → (⟨i, 0, k⟩ : Itm) ∈ c
def Clo (k : Nat) (sets : Nat → List Itm) (x : Itm) : Prop := match nxt K x with
  | some s => PrC K k (sets k) s
  | none => ∀ r, K[x.r]? = some r → ∀ y ∈ sets x.f, nxt K y = some ⟨false, r.left⟩ → (⟨y.r, y.d + 1, y.f⟩ : Itm) ∈ sets k
structure GS2 (n : Nat) (sets : Nat → List Itm) : Prop where
  start : PrC K 0 (sets 0) ⟨false, S⟩
  clo : ∀ k, k ≤ n → ∀ x ∈ sets k, Clo K k sets x
  scan : ∀ k, k < n → ∀ x ∈ sets k, ∀ s, nxt K x = some s → lf s k → (⟨x.r, x.d + 1, x.f⟩ : Itm) ∈ sets (k + 1)
end
section
variable {K : List Rule} {lf lf' : Sym → Nat → Prop} {S : Int}
theorem nxt_some {x : Itm} {s : Sym} : nxt K x = some s ↔ ∃ r, K[x.r]? = some r ∧ r.right[x.d]? = some s := by
  unfold nxt
  rw [Option.bind_eq_some_iff]
theorem nxt_none {x : Itm} {r : Rule} (hr : K[x.r]? = some r) (hd : x.d = r.right.length) : nxt K x = none := by
  unfold nxt
  rw [hr, Option.bind_some, hd, List.getElem?_eq_none (Nat.le_refl _)]
theorem d_lt {r : Rule} {d : Nat} {s : Sym} (h : r.right[d]? = some s) : d < r.right.length := by
  rcases Nat.lt_or_ge d r.right.length with h1 | h1
  · exact h1
  · rw [List.getElem?_eq_none h1] at h; cases h
theorem take_snoc {l : List Sym} {d : Nat} {s : Sym} (h : l[d]? = some s) : l.take (d + 1) = l.take d ++ [s] := by
  rw [List.take_add_one, h]; rfl
/-! sound -/
theorem sd_start {i : Nat} {r : Rule} (hr : K[i]? = some r) (hl : r.left = S) : Sd K lf S 0 ⟨i, 0, 0⟩ := ⟨r, hr, Nat.zero_le _, by rw [hl]; exact .start, rfl⟩
theorem sd_pred {k : Nat} {x : Itm} (hx : Sd K lf S k x) {A : Int} (hn : nxt K x = some ⟨false, A⟩) {i : Nat} {r : Rule} (hr : K[i]? = some r) (hl : r.left = A) : Sd K lf S k ⟨i, 0, k⟩ := by
  obtain ⟨q, h1, h2, h3, h4⟩ := hx
  obtain ⟨q', h5, h6⟩ := nxt_some.1 hn
  rw [h1] at h5
  cases h5
  refine ⟨r, hr, Nat.zero_le _, ?_, rfl⟩
  rw [hl]
  exact .step h3 (List.mem_of_getElem? h1) h4 h6
theorem sd_adv {k m : Nat} {y : Itm} (hy : Sd K lf S m y) {s : Sym} (hn : nxt K y = some s) (hs : Dx K lf s m k) : Sd K lf S k ⟨y.r, y.d + 1, y.f⟩ := by
  obtain ⟨q, h1, h2, h3, h4⟩ := hy
  obtain ⟨q', h5, h6⟩ := nxt_some.1 hn
  rw [h1] at h5
  cases h5
  refine ⟨q, h1, d_lt h6, h3, ?_⟩
  show R0 _ (q.right.take (y.d + 1)) _ _
  rw [take_snoc h6]
  exact R0.snoc (fun s i j hp => Dx.le hp) h4 hs
theorem sd_comp {k : Nat} {x y : Itm} (hx : Sd K lf S k x) (hn : nxt K x = none) {r : Rule} (hr : K[x.r]? = some r) (hy : Sd K lf S x.f y) (hny : nxt K y = some ⟨false, r.left⟩) : Sd K lf S k ⟨y.r, y.d + 1, y.f⟩ := by
  obtain ⟨q, h1, h2, h3, h4⟩ := hx
  rw [hr] at h1
  cases h1
  have hd : x.d = r.right.length := by
    rcases Nat.lt_or_ge x.d r.right.length with h | h
    · have : nxt K x = some r.right[x.d] := nxt_some.2 ⟨r, hr, List.getElem?_eq_getElem h⟩
      rw [hn] at this; cases this
    · omega
  rw [hd, List.take_length] at h4
  exact sd_adv hy hny (Dx.rule (List.mem_of_getElem? hr) h4)
/-! complete -/
theorem gs_adv {n : Nat} {sets : Nat → List Itm} (hlf : ∀ s i, lf s i → i < n) (g : GS2 K lf S n sets) : ∀ {h : Nat} {s : Sym} {m k : Nat}, k ≤ n → D K lf h s m k → ∀ y ∈ sets m, nxt K y = some s → (⟨y.r, y.d + 1, y.f⟩ : Itm) ∈ sets k := by
  intro h
  induction h with
  | zero =>
    rintro s m k hk ⟨rfl, hl⟩ y hy hn
    exact g.scan m (hlf _ _ hl) y hy s hn hl
  | succ h ih =>
    intro s m k hk hD y hy hn
    rcases hD with ⟨rfl, hl⟩ | ⟨h1, r, h2, h3, h4⟩
    · exact g.scan m (hlf _ _ hl) y hy s hn hl
    · have hs : s = ⟨false, r.left⟩ := by obtain ⟨a, b⟩ := s; simp at h1 h3; rw [h1, h3]
      have hmk : m ≤ k := R0.le (fun s i j hp => D.le hp) h4
      obtain ⟨i, hi, hir⟩ := List.getElem_of_mem h2
      have hr : K[i]? = some r := by rw [List.getElem?_eq_getElem hi, hir]
      have h5 := g.clo m (by omega) y hy
      unfold Clo at h5
      rw [hn] at h5
      have h0 : (⟨i, 0, m⟩ : Itm) ∈ sets m := h5 i r hr hs
      have walk : ∀ d j, d ≤ r.right.length → m ≤ j → j ≤ k → R0 (D K lf h) (r.right.drop d) j k → (⟨i, d, m⟩ : Itm) ∈ sets j → (⟨i, r.right.length, m⟩ : Itm) ∈ sets k := by
        intro d j hd
        induction hd' : r.right.length - d generalizing d j with
        | zero =>
          intro _ _ h6 h7
          have : d = r.right.length := by omega
          subst this
          rw [List.drop_length] at h6
          have : j = k := h6
          subst this; exact h7
        | succ e ih2 =>
          intro hj1 hj2 h6 h7
          have hdl : d < r.right.length := by omega
          rw [List.drop_eq_getElem_cons hdl] at h6
          obtain ⟨p, q1, q2, q3, q4⟩ := h6
          have h8 := ih (by omega) q3 ⟨i, d, m⟩ h7 (nxt_some.2 ⟨r, hr, List.getElem?_eq_getElem hdl⟩)
          exact ih2 (d + 1) p (by omega) (by omega) (by omega) (by omega) q4 h8
      have h9 := walk 0 m (Nat.zero_le _) (Nat.le_refl _) hmk (by simpa using h4) h0
      have h10 := g.clo k hk _ h9
      unfold Clo at h10
      rw [nxt_none (x := ⟨i, r.right.length, m⟩) hr rfl] at h10
      exact h10 r hr y hy (by rw [hn, hs])
theorem gs_row {n : Nat} {sets : Nat → List Itm} (hlf : ∀ s i, lf s i → i < n) (g : GS2 K lf S n sets) {i : Nat} {r : Rule} (hr : K[i]? = some r) : ∀ {d : Nat} {f k : Nat}, d ≤ r.right.length → k ≤ n → R0 (Dx K lf) (r.right.take d) f k → (⟨i, 0, f⟩ : Itm) ∈ sets f → (⟨i, d, f⟩ : Itm) ∈ sets k := by
  intro d
  induction d with
  | zero =>
    intro f k _ _ h h0
    have : f = k := by simpa [R0] using h
    subst this; exact h0
  | succ d ih =>
    intro f k hd hk h h0
    have hdl : d < r.right.length := by omega
    rw [take_snoc (List.getElem?_eq_getElem hdl)] at h
    obtain ⟨m, h1, h2, h3, _⟩ := R0.app.1 h
    have h4 := (R0.one (fun s i j hp => Dx.le hp)).1 h2
    obtain ⟨q, hq⟩ := h4
    have := hq.le
    exact gs_adv hlf g hk hq ⟨i, d, f⟩ (ih (by omega) (by omega) h1 h0) (nxt_some.2 ⟨r, hr, List.getElem?_eq_getElem hdl⟩)
theorem gs_pd {n : Nat} {sets : Nat → List Itm} (hlf : ∀ s i, lf s i → i < n) (g : GS2 K lf S n sets) : ∀ {f : Nat} {A : Int}, Pd K lf S f A → f ≤ n → PrC K f (sets f) ⟨false, A⟩ := by
  intro f A hp
  induction hp with
  | start => intro _; exact g.start
  | @step f r d k A hp hr h0 hd ih =>
    intro hk
    have hfk := R0.le (fun s i j hp => Dx.le hp) h0
    obtain ⟨i, hi, hir⟩ := List.getElem_of_mem hr
    have hr' : K[i]? = some r := by rw [List.getElem?_eq_getElem hi, hir]
    have h1 : (⟨i, 0, f⟩ : Itm) ∈ sets f := ih (by omega) i r hr' rfl
    have h2 := gs_row hlf g hr' (Nat.le_of_lt (d_lt hd)) hk h0 h1
    have h3 := g.clo k hk _ h2
    unfold Clo at h3
    rw [nxt_some.2 ⟨r, hr', hd⟩] at h3
    exact h3
theorem gs_it {n : Nat} {sets : Nat → List Itm} (hlf : ∀ s i, lf s i → i < n) (g : GS2 K lf S n sets) (hs : ∀ x ∈ sets n, Sd K lf S n x) (t : Int) : It K lf S n t ↔ ∃ x ∈ sets n, nxt K x = some ⟨true, t⟩ := by
  constructor
  · rintro ⟨r, hr, d, f, hp, h0, hd⟩
    have hfk := R0.le (fun s i j hp => Dx.le hp) h0
    obtain ⟨i, hi, hir⟩ := List.getElem_of_mem hr
    have hr' : K[i]? = some r := by rw [List.getElem?_eq_getElem hi, hir]
    exact ⟨⟨i, d, f⟩, gs_row hlf g hr' (Nat.le_of_lt (d_lt hd)) (Nat.le_refl _) h0 (gs_pd hlf g hp hfk i r hr' rfl), nxt_some.2 ⟨r, hr', hd⟩⟩
  · rintro ⟨x, hx, hn⟩
    obtain ⟨r, h1, h2, h3, h4⟩ := hs x hx
    obtain ⟨r', h5, h6⟩ := nxt_some.1 hn
    rw [h1] at h5
    cases h5
    exact ⟨r, List.mem_of_getElem? h1, x.d, x.f, h3, h4, h6⟩
/-! only the cells before count -/
theorem dx_cells {n : Nat} (hlf : ∀ s i, i < n → (lf s i ↔ lf' s i)) {s : Sym} {i j : Nat} (hj : j ≤ n) (h : Dx K lf s i j) : Dx K lf' s i j := by
  obtain ⟨k, hk⟩ := h
  exact ⟨k, hk.cells hlf hj⟩
theorem r0_cells {n : Nat} (hlf : ∀ s i, i < n → (lf s i ↔ lf' s i)) : ∀ {l : List Sym} {i j : Nat}, j ≤ n → R0 (Dx K lf) l i j → R0 (Dx K lf') l i j
  | [], _, _, _, h => h
  | _ :: _, _, _, hj, ⟨m, h1, h2, h3, h4⟩ => ⟨m, h1, h2, dx_cells hlf (by omega) h3, r0_cells hlf hj h4⟩
theorem pd_cells {n : Nat} (hlf : ∀ s i, i < n → (lf s i ↔ lf' s i)) : ∀ {f : Nat} {A : Int}, Pd K lf S f A → f ≤ n → Pd K lf' S f A := by
  intro f A hp
  induction hp with
  | start => intro _; exact .start
  | @step f r d k A hp hr h0 hd ih =>
    intro hk
    have hfk := R0.le (fun s i j hp => Dx.le hp) h0
    exact .step (ih (by omega)) hr (r0_cells hlf hk h0) hd
theorem it_cells {n : Nat} (hlf : ∀ s i, i < n → (lf s i ↔ lf' s i)) {t : Int} (h : It K lf S n t) : It K lf' S n t := by
  obtain ⟨r, hr, d, f, hp, h0, hd⟩ := h
  have hfk := R0.le (fun s i j hp => Dx.le hp) h0
  exact ⟨r, hr, d, f, pd_cells hlf hp hfk, r0_cells hlf (Nat.le_refl _) h0, hd⟩
end
/-! finitely many items -/
def codeI (a b : Nat) (x : Itm) : Nat := (x.r * a + x.d) * b + x.f
theorem code_inj {a b : Nat} {x y : Itm} (hx : x.d < a ∧ x.f < b) (hy : y.d < a ∧ y.f < b) (h : codeI a b x = codeI a b y) : x = y := by
  unfold codeI at h
  have h1 : x.f = y.f := by
    have := congrArg (· % b) h
    simp only [Nat.mul_add_mod_self_right, Nat.mod_eq_of_lt hx.2, Nat.mod_eq_of_lt hy.2] at this
    exact this
  have h2 : x.r * a + x.d = y.r * a + y.d := by
    have hb : 0 < b := by omega
    have := congrArg (· / b) h
    simp only [Nat.mul_comm _ b, Nat.mul_add_div hb, Nat.div_eq_of_lt hx.2, Nat.div_eq_of_lt hy.2, Nat.add_zero] at this
    exact this
  have h3 : x.d = y.d := by
    have := congrArg (· % a) h2
    simp only [Nat.mul_add_mod_self_right, Nat.mod_eq_of_lt hx.1, Nat.mod_eq_of_lt hy.1] at this
    exact this
  have h4 : x.r = y.r := by
    have ha : 0 < a := by omega
    have := congrArg (· / a) h2
    simp only [Nat.mul_comm _ a, Nat.mul_add_div ha, Nat.div_eq_of_lt hx.1, Nat.div_eq_of_lt hy.1, Nat.add_zero] at this
    exact this
  obtain ⟨_, _, _⟩ := x
  obtain ⟨_, _, _⟩ := y
  simp only at h1 h3 h4
  rw [h1, h3, h4]
theorem items_le {K : List Rule} {k : Nat} {c : List Itm} (hr4 : ∀ r ∈ K, r.right.length ≤ 4) (hc : ∀ x ∈ c, okI K k x) (hn : c.Nodup) : c.length ≤ K.length * 5 * (k + 1) := by
  have hb : ∀ x ∈ c, x.d < 5 ∧ x.f < k + 1 ∧ x.r < K.length := by
    intro x hx
    obtain ⟨h1, r, h2, h3⟩ := hc x hx
    have := hr4 r (List.mem_of_getElem? h2)
    refine ⟨by omega, by omega, ?_⟩
    rcases Nat.lt_or_ge x.r K.length with h | h
    · exact h
    · rw [List.getElem?_eq_none h] at h2; cases h2
  have h1 : (c.map (codeI 5 (k + 1))).Nodup := by
    rw [List.Nodup, List.pairwise_map]
    refine List.Pairwise.imp_of_mem ?_ hn
    intro x y hx hy hne e
    exact hne (code_inj ⟨(hb x hx).1, (hb x hx).2.1⟩ ⟨(hb y hy).1, (hb y hy).2.1⟩ e)
  have h2 := Al.nodup_le _ (List.range (K.length * 5 * (k + 1))) h1 (fun n hn2 => by
    obtain ⟨x, hx, rfl⟩ := List.mem_map.1 hn2
    obtain ⟨q1, q2, q3⟩ := hb x hx
    rw [List.mem_range]
    unfold codeI
    have : (x.r * 5 + x.d + 1) * (k + 1) ≤ K.length * 5 * (k + 1) := Nat.mul_le_mul_right _ (by omega)
    rw [Nat.add_mul, Nat.one_mul] at this
    omega)
  simpa using h2
end Ht
end Go.Proofs.Ytjpmebppdcclbaa
namespace Go.Proofs.Ytjpmebppdcclbaa
open Go.RowKit
set_option maxHeartbeats 400000 in
theorem gramT (x : Int) (w : World) : Calls Try.prog 51 #[.int .i64 x] w fun e w' => e = .returned (.agg #[.bool true, .int .i64 x]) ∧ Below w.heap.size w w' := by
  go_enter Try.func51, Try.ntmps51
  go_wp2
  exact bodyPost_ret (v := .agg #[.bool true, .int .i64 x]) (by simp [results, Try.results51, go_sem]) rfl ⟨rfl, (Below.refl _ _).alloc (Nat.le_refl _) _⟩
set_option maxHeartbeats 400000 in
theorem gramN (x : Int) (w : World) : Calls Try.prog 60 #[.int .i64 x] w fun e w' => e = .returned (.agg #[.bool false, .int .i64 x]) ∧ Below w.heap.size w w' := by
  go_enter Try.func60, Try.ntmps60
  go_wp2
  exact bodyPost_ret (v := .agg #[.bool false, .int .i64 x]) (by simp [results, Try.results60, go_sem]) rfl ⟨rfl, (Below.refl _ _).alloc (Nat.le_refl _) _⟩
end Go.Proofs.Ytjpmebppdcclbaa
namespace Go.Proofs.Ytjpmebppdcclbaa
open Go.RowKit
namespace Hl
open Rp
def HR (P : Nat → Prop) (W : World) (x : Value) (o : Option Val) : Prop :=
  ∃ u, x = .agg #[.int .i64 (oN o), u, .bool o.isSome] ∧ Rd P W (D.ints (oW o)) [u]
theorem HR.below {P : Nat → Prop} {W W' : World} {x : Value} {o : Option Val} (h : HR P W x o) (hb : Below W.heap.size W W') : HR P W' x o := by
  obtain ⟨u, h1, h2⟩ := h; exact ⟨u, h1, h2.below hb⟩
theorem HR.mono {P P' : Nat → Prop} {W : World} {x : Value} {o : Option Val} (h : HR P W x o) (hp : ∀ k, P k → k < W.heap.size → P' k) : HR P' W x o := by
  obtain ⟨u, h1, h2⟩ := h; exact ⟨u, h1, h2.mono hp⟩
theorem HR.grown {P : Nat → Prop} {W W' : World} {x : Value} {o : Option Val} (h : HR P W x o) {row : Option Nat} (hg : W.grownBy W' row) (hr : ∀ k, row = some k → ¬ P k) : HR P W' x o := by
  obtain ⟨u, h1, h2⟩ := h; exact ⟨u, h1, rd_grown h2 hg hr⟩
theorem HR.form {P : Nat → Prop} {w : World} {x : Value} {o : Option Val} (h : HR P w x o) : ∃ a m k, x = .agg #[.int .i64 (oN o), .slice a m k, .bool o.isSome] ∧ Rd P w (D.ints (oW o)) [.slice a m k] := by
  obtain ⟨u, rfl, h⟩ := h
  obtain ⟨a, k, rfl⟩ := (sl_rd h).form
  exact ⟨_, _, _, rfl, h⟩
theorem HR.none (P : Nat → Prop) (W : World) : HR P W (.agg #[.int .i64 0, .slice none 0 0, .bool false]) none := ⟨_, rfl, rd_nil _ _⟩
theorem symEq (a c : Bool) (b d : Int) (w : World) : (binOp .eql 44 (.agg #[.bool a, .int .i64 b]) (.agg #[.bool c, .int .i64 d])).run Try.prog w = .ok (.bool (a == c && b == d)) w := by
  have h1 : Try.prog.underlying 44 = some (.struct (Try.prog.fieldsOf 44)) := by kernel_rfl
  have h2 : Try.prog.stoodInHeld 44 = false := by kernel_rfl
  have h3 := Try.underlying44
  have h4 := Try.underlying4
  have h5 := Try.underlying3
  rw [run_eql_struct, run_equalIn_agg (d := 9999) _ _ _ _ h1 h2]
  simp only [Program.fieldsOf, h3]
  cases hac : (a == c) <;> by_cases hbd : b = d <;> simp [Op.eqFields, go_sem, h4, h5, hac, hbd]
def isB (y c : Sym) : Bool := (y.term == c.term && y.n == c.n) || (y.term && (c.term == true && c.n == -1))
theorem isB_fit (y c : Sym) : isB y c = fitB y c := by
  obtain ⟨a, b⟩ := y
  obtain ⟨c, d⟩ := c
  unfold isB fitB
  simp only [Sym.mk.injEq]
  rw [Bool.eq_iff_iff]
  cases a <;> cases c <;> simp
end Hl
end Go.Proofs.Ytjpmebppdcclbaa
namespace Go.Proofs.Ytjpmebppdcclbaa
open Go.RowKit
namespace Rp
structure NB (b5 b4 : Nat) (c : Co) (w : List Int) (W : World) : Prop where
  cost : W.heap[b5]? = some (.cells #[.int .i64 (c.c0 : Int), .int .i64 (c.c1 : Int), .int .i64 (c.c2 : Int)] 26 (0, 0))
  word : ∃ wa wk, W.heap[b4]? = some (.cells #[.slice wa w.length wk] 25 (0, 0)) ∧ Sl W (.slice wa w.length wk) (ints w)
theorem NB.keep {b5 b4 : Nat} {c : Co} {w : List Int} {W W' : World} (h : NB b5 b4 c w W) (hb : Below W.heap.size W W') : NB b5 b4 c w W' := by
  obtain ⟨h1, wa, wk, h2, h3⟩ := h
  exact ⟨bx_keep h1 hb, wa, wk, bx_keep h2 hb, h3.keep hb⟩
end Rp
end Go.Proofs.Ytjpmebppdcclbaa
namespace Go.Proofs.Ytjpmebppdcclbaa
open Go.RowKit
namespace Hl
open Rp
theorem eg46 : ∀ args w, (callFunc 46 args).run Try.prog w = .ok (.enter 46 args) w := fun _ _ => by kernel_rfl
theorem eg47 : ∀ args w, (callFunc 47 args).run Try.prog w = .ok (.enter 47 args) w := fun _ _ => by kernel_rfl
theorem eg48 : ∀ args w, (callFunc 48 args).run Try.prog w = .ok (.enter 48 args) w := fun _ _ => by kernel_rfl
def FreeFn (fn : Nat) (lb : Array Value) (sv : Sym → Option Val) (ok : Sym → Prop) (P : Nat → Prop) (w : World) : Prop :=
  ∀ W (y : Sym), ok y → Below w.heap.size w W → Calls Try.prog fn (#[.agg #[.bool y.term, .int .i64 y.n]] ++ lb) W fun e w' => ∃ x, e = .returned x ∧ VR (fun k => P k ∨ W.heap.size ≤ k) w' x (sv y) ∧ Below W.heap.size W w'
set_option maxHeartbeats 1000000 in
theorem empS (n : Nat) (P : Nat → Prop) (W : World) : EmpFn 47 #[] emS n P W := by
  intro W' i j hij hj hb
  show Calls _ _ #[.int .i64 (i : Nat), .int .i64 (j : Nat)] _ _
  clear hij hj hb
  go_enter Try.func47, Try.ntmps47
  go_wp2
  refine bodyPost_ret (v := .agg #[.bool true, .int .i64 0, .int .i64 0, .slice none 0 0]) (by simp [results, Try.results47, go_sem]) rfl ?_
  exact ⟨_, rfl, ⟨_, rfl, rd_nil _ _⟩, (Below.refl _ _).alloc (Nat.le_refl _) _⟩
theorem rd_one (w : World) (x : Int) : Rd (fun k => w.heap.size ≤ k) (w.alloc (.cells #[.int .i64 x] 3)) (D.ints [x]) [.slice (some ⟨w.heap.size, 0, none⟩) 1 1] := by
  refine ⟨some ⟨w.heap.size, 0, none⟩, 1, [.int .i64 x], rfl, by simp, by simp [maxLen], (fun e => by cases e), fun i hi => ?_, ?_⟩
  · simp at hi
    subst hi
    refine ⟨⟨w.heap.size, 0, none⟩, rfl, Nat.le_refl _, ?_⟩
    rw [add_at]
    have hn := heap_alloc_new w (.cells #[.int .i64 x] 3)
    simp only [World.cell?, hn]
    rfl
  · simp [RdAll, Rd]
set_option maxHeartbeats 2000000 in
theorem leafSE (ok : Sym → Prop) (n : Nat) (P : Nat → Prop) (W : World) : LeafFn 46 #[] leafS ok n P W := by
  intro W' y i j _ hij hj hb
  show Calls _ _ #[.agg #[.bool y.term, .int .i64 y.n], .int .i64 (i : Nat), .int .i64 (j : Nat)] _ _
  obtain ⟨yt, yn⟩ := y
  unfold leafS
  simp only
  clear hij hj hb
  cases yt with
  | false =>
    simp only [Bool.false_eq_true, if_false]
    go_enter Try.func46, Try.ntmps46
    go_wp2
    refine bodyPost_ret (v := .agg #[.bool false, .int .i64 0, .int .i64 0, .slice none 0 0]) (by simp [results, Try.results46, go_sem]) rfl ?_
    exact ⟨_, rfl, VR.none _ _, ((Below.refl _ _).alloc (Nat.le_refl _) _).alloc (by simp) _⟩
  | true =>
    simp only [if_true]
    obtain ⟨w0, HW⟩ := nameIt ((W'.alloc (.cells #[.bool true, .int .i64 yn] 44)).alloc (.cells #[.bool false, .int .i64 0, .int .i64 0, .slice none 0 0] 36))
    have hw0 : Below W'.heap.size W' w0 := by
      rw [← HW.out]
      exact ((Below.refl _ _).alloc (Nat.le_refl _) _).alloc (by simp) _
    have hy0 : w0.heap[W'.heap.size]? = some (.cells #[.bool true, .int .i64 yn] 44 (0, 0)) := by
      rw [← HW.out]; exact bx_keep (bx_new _ _ _ rfl) ((Below.refl _ _).alloc (Nat.le_refl _) _)
    have hz0 : w0.heap[W'.heap.size + 1]? = some (.cells #[.bool false, .int .i64 0, .int .i64 0, .slice none 0 0] 36 (0, 0)) := by
      rw [← HW.out]; exact bx_new _ _ _ (by simp)
    have hal : Below w0.heap.size w0 (w0.alloc (.cells #[.int .i64 yn] 3)) := (Below.refl _ _).alloc (Nat.le_refl _) _
    obtain ⟨y0, y1⟩ := bx_cells2 hy0
    obtain ⟨z0, z1, z2, z3⟩ := bx_cells4 (bx_keep hz0 hal)
    obtain ⟨f0, f1, f2, f3⟩ := bx_free4 (bx_keep hz0 hal)
    have HSZ : Hid (w0.heap.size = W'.heap.size + 1 + 1) := by show _ = _; rw [← HW.out]; simp
    have HB0 := Lib.hid (hw0.trans (hal.mono hw0.size))
    clear hw0 hy0 hz0 hal
    go_enter Try.func46, Try.ntmps46
    go_upto_region 1 with fail
    rw [HW.out]
    clear HW
    go_wp2_with fail
    refine bodyPost_ret (v := .agg #[.bool true, .int .i64 0, .int .i64 1, .slice (some ⟨w0.heap.size, 0, none⟩) 1 1]) (by simp [results, Try.results46, go_sem, z0, z1, z2, z3]) rfl ?_
    have hg := grown_cell4 (w0.alloc (.cells #[.int .i64 yn] 3)) (W'.heap.size + 1) (.bool true) (.int .i64 0) (.int .i64 1) (.slice (some ⟨w0.heap.size, 0, none⟩) 1 1)
    have hsz := HSZ.out
    refine ⟨_, rfl, ⟨.slice (some ⟨w0.heap.size, 0, none⟩) 1 1, rfl, (rd_grown (rd_one w0 yn) hg (fun k e h => ?_)).mono (fun k h _ => ?_)⟩, HB0.out.grown hg HB0.out.size (fun k e => by cases e; omega)⟩
    · cases e
      have h2 : w0.heap.size ≤ W'.heap.size + 1 := h
      omega
    · have h2 : w0.heap.size ≤ k := h
      exact .inr (by show W'.heap.size ≤ k; omega)
structure ShM (W1 : World) (gt gn gs : Int) (gr : Value) (T : Tb) (b : Nat) (wr : World) : Prop where
  sm : SM (fun _ => False) W1 gt gn gs gr (.func (.func 46) #[] #[]) (.func (.func 47) #[] #[]) 0 T wr
  box : wr.heap[b]? = some (.cells #[.pointer (some ⟨W1.heap.size + 2, 0, none⟩)] 83 (0, 0))
set_option maxHeartbeats 4000000 in
set_option maxRecDepth 100000 in
theorem freeE {W1 : World} {gt gn gs : Int} {gr : Value} {T : Tb} {b : Nat} {wr : World} (h : ShM W1 gt gn gs gr T b wr) (ok : Sym → Prop) (hok : ∀ s, ok s → okN s.n) :
    FreeFn 48 #[.pointer (some ⟨b, 0, none⟩)] (fun y => ofT leafS T y 0 0) ok (fun k => W1.heap.size ≤ k ∧ k < wr.heap.size) wr := by
  intro W y hy hb
  show Calls _ _ #[.agg #[.bool y.term, .int .i64 y.n], .pointer (some ⟨b, 0, none⟩)] _ _
  obtain ⟨w0, HW⟩ := nameIt ((W.alloc (.cells #[.bool y.term, .int .i64 y.n] 44)).alloc (.cells #[.bool false, .int .i64 0, .int .i64 0, .slice none 0 0] 36))
  have hw0 : Below W.heap.size W w0 := by
    rw [← HW.out]
    exact ((Below.refl _ _).alloc (Nat.le_refl _) _).alloc (by simp) _
  have hy0 : w0.heap[W.heap.size]? = some (.cells #[.bool y.term, .int .i64 y.n] 44 (0, 0)) := by
    rw [← HW.out]; exact bx_keep (bx_new _ _ _ rfl) ((Below.refl _ _).alloc (Nat.le_refl _) _)
  have HZ0 : Hid (w0.heap[W.heap.size + 1]? = some (.cells #[.bool false, .int .i64 0, .int .i64 0, .slice none 0 0] 36 (0, 0))) := by
    rw [← HW.out]; exact bx_new _ _ _ (by simp)
  have HSZ : Hid (w0.heap.size = W.heap.size + 1 + 1) := by show _ = _; rw [← HW.out]; simp
  have hbx := bx_keep h.box (hb.trans (hw0.mono hb.size))
  have HB0 := Lib.hid hw0
  have hof := h.sm.ofFn eg46 (leafSE ok 0 (fun _ => False) W1) (fun _ h => h.elim) (by omega) hok w0 y 0 0 hy (Nat.le_refl _) (Nat.le_refl _) (hb.trans (hw0.mono hb.size))
  obtain ⟨o, HO⟩ := nameIt (ofT leafS T y 0 0)
  rw [HO.out] at hof
  have HOF := Lib.hid hof
  rw [show (fun y => ofT leafS T y 0 0) y = o from HO.out]
  obtain ⟨y0, y1⟩ := bx_cells2 hy0
  have c0 := bx_cells1 hbx
  have HBW := Lib.hid hb.size
  have HSS := Lib.hid h.sm.bel.size
  obtain ⟨yt, HYT⟩ := nameIt y.term
  obtain ⟨yn, HYN⟩ := nameIt y.n
  rw [HYT.out] at y0 HOF HW
  rw [HYN.out] at y1 HOF HW
  rw [HYT.out, HYN.out]
  clear hw0 hy0 hbx hof
  go_enter Try.func48, Try.ntmps48
  go_upto_region 1 with fail
  rw [HW.out]
  clear HW
  go_wp2_with fail
  refine HOF.out.mono ?_
  rintro e w1 ⟨x, rfl, hv, hb1⟩
  obtain ⟨a1, m1, k1, rfl, hrd⟩ := vr_form hv
  have HZ1 := Lib.hid (bx_keep HZ0.out hb1)
  have HB1 := Lib.hid (HB0.out.trans (hb1.mono HB0.out.size))
  have HRD := Lib.hid hrd
  obtain ⟨z0, z1, z2, z3⟩ := bx_cells4 HZ1.out
  obtain ⟨f0, f1, f2, f3⟩ := bx_free4 HZ1.out
  clear hv hb1 hrd y0 y1 c0
  go_wp2_with fail
  refine bodyPost_ret (v := .agg #[.bool o.isSome, .int .i64 (oC o), .int .i64 (oN o), .slice a1 m1 k1]) (by simp [results, Try.results48, go_sem, z0, z1, z2, z3]) rfl ?_
  have hg := grown_cell4 w1 (W.heap.size + 1) (.bool o.isSome) (.int .i64 (oC o)) (.int .i64 (oN o)) (.slice a1 m1 k1)
  have hsz := HSZ.out
  have hbw := HBW.out
  have hss := HSS.out
  refine ⟨_, rfl, ⟨.slice a1 m1 k1, rfl, (rd_grown HRD.out hg (fun k e h2 => ?_)).mono (fun k h2 _ => ?_)⟩, HB1.out.grown hg HB1.out.size (fun k e => by cases e; omega)⟩
  · cases e
    rcases h2 with h2 | h2
    · have := h2.2; omega
    · have h3 : w0.heap.size ≤ W.heap.size + 1 := h2; omega
  · rcases h2 with h2 | h2
    · rcases h2.1 with h3 | h3
      · exact h3.elim
      · exact .inl ⟨by omega, h2.2⟩
    · have h3 : w0.heap.size ≤ k := h2
      exact .inr (by show W.heap.size ≤ k; omega)
def ShT (K : List Rule) (N tm : Nat) (T : Tb) : Prop := CG leafS emS 0 N K (GS tm) T ∧ JS N T ∧ ClosedT K leafS emS 0 T
set_option maxHeartbeats 4000000 in
set_option maxRecDepth 100000 in
theorem shortE (K : List Rule) (N tm : Nat) (hN : N ≤ 10) (htm : tm ≤ 100) (hK : KG N K (okS N tm)) (hr4 : ∀ r ∈ K, r.right.length ≤ 4) (gt gn gs : Int) (ga : Option Addr) (gk : Nat) (W : World) (hgr : Rd AnyB W (.sl (K.map Rule.d)) [.slice ga K.length gk]) :
    Calls Try.prog 15 #[.agg #[.int .i64 gt, .int .i64 gn, .int .i64 gs, .slice ga K.length gk]] W fun e w' => ∃ T W1 b, e = .returned (.func (.func 48) #[] #[.pointer (some ⟨b, 0, none⟩)]) ∧ ShT K N tm T ∧ ShM W1 gt gn gs (.slice ga K.length gk) T b w' ∧ Below W.heap.size W W1 ∧ Below W.heap.size W w' := by
  obtain ⟨w0, HW⟩ := nameIt (W.alloc (.cells #[.int .i64 gt, .int .i64 gn, .int .i64 gs, .slice ga K.length gk] 24))
  have hw0 : Below W.heap.size W w0 := by rw [← HW.out]; exact (Below.refl _ _).alloc (Nat.le_refl _) _
  have hg0 : w0.heap[W.heap.size]? = some (.cells #[.int .i64 gt, .int .i64 gn, .int .i64 gs, .slice ga K.length gk] 24 (0, 0)) := by rw [← HW.out]; exact bx_new _ _ _ rfl
  have hoks : ∀ s, okS N tm s → okN s.n := fun s hs => by
    obtain ⟨h1, h2, h3⟩ := hs
    cases ht : s.term with
    | true => have := h2 ht; exact ⟨h1, by omega⟩
    | false => have := h3 ht; exact ⟨h1, by omega⟩
  have hso := solveE 46 #[] leafS 47 #[] emS (okS N tm) 0 1048576 (fun _ => False) w0 eg46 eg47 (leafSE _ _ _ _) (empS _ _ _) (fun _ h => h.elim) (by omega) (by omega) K gt gn gs (.slice ga K.length gk) (hgr.below hw0) (fun r hr => by
    obtain ⟨h1, h2, h3⟩ := hK r hr
    exact ⟨⟨h1, by omega⟩, hr4 r hr, h3⟩) hoks _ _ (planSh hN hK hr4)
  have HSO := Lib.hid hso
  have HB0 := Lib.hid hw0
  obtain ⟨kn, HKN⟩ := nameIt K.length
  rw [HKN.out] at hg0 HSO HW
  rw [HKN.out]
  obtain ⟨x0, x1, x2, x3⟩ := bx_cells4 hg0
  clear hw0 hg0 hso hgr
  go_enter Try.func15, Try.ntmps15
  go_upto_region 2 with fail
  rw [HW.out]
  clear HW
  go_wp2_with fail
  refine HSO.out.mono ?_
  rintro e w1 ⟨T, rfl, ⟨hcg, hjs⟩, hcl, hsm⟩
  have HST : Hid (ShT K N tm T) := ⟨hcg, hjs, hcl⟩
  have HSM := Lib.hid hsm
  clear hcg hjs hcl hsm x0 x1 x2 x3
  go_wp2_with fail
  go_ret
  have hal : Below w1.heap.size w1 (w1.alloc (.cells #[.pointer (some ⟨w0.heap.size + 2, 0, none⟩)] 83)) := (Below.refl _ _).alloc (Nat.le_refl _) _
  have hb := HSM.out.bel
  exact ⟨T, w0, w1.heap.size, rfl, HST.out, ⟨HSM.out.keep hal, bx_new _ _ _ rfl⟩, HB0.out, HB0.out.trans ((hb.trans (hal.mono hb.size)).mono HB0.out.size)⟩
set_option maxHeartbeats 2000000 in
theorem fitsE (y c : Sym) (W : World) : Calls Try.prog 53 #[.agg #[.bool y.term, .int .i64 y.n], .agg #[.bool c.term, .int .i64 c.n]] W fun e w' => e = .returned (.bool (fitB y c)) ∧ Below W.heap.size W w' := by
  obtain ⟨yt, yn⟩ := y
  obtain ⟨ct, cn⟩ := c
  rw [← isB_fit]
  unfold isB
  simp only
  have HB : Hid (Below W.heap.size W ((W.alloc (.cells #[.bool yt, .int .i64 yn] 44)).alloc (.cells #[.bool ct, .int .i64 cn] 44))) := ((Below.refl _ _).alloc (Nat.le_refl _) _).alloc (by simp) _
  have hse1 := symEq yt ct yn cn
  obtain ⟨e1, HE1⟩ := nameIt (yt == ct && yn == cn)
  obtain ⟨e2, HE2⟩ := nameIt (cn == -1)
  have hce : (cn == -1) = e2 := HE2.out
  rw [HE1.out] at hse1 ⊢
  rw [HE2.out]
  clear HE1 HE2
  cases e1 <;> cases yt <;> cases ct <;>
  · go_enter Try.func53, Try.ntmps53
    go_wp2
    go_ret
    exact ⟨by simp, HB.out⟩
end Hl
end Go.Proofs.Ytjpmebppdcclbaa
namespace Go.Proofs.Ytjpmebppdcclbaa
open Go.RowKit
namespace Gs
theorem _root_.Go.Proofs.Ytjpmebppdcclbaa.RowD.lower {S : Nat → Prop} {B B' : Nat} {e : TypeId} {size : Nat} {ds : List D} {v : Value} {wr : World} (h : RowD S B e size ds v wr) (hb : B' ≤ B) : RowD S B' e size ds v wr := by
  obtain ⟨⟨xs, h1, h2⟩, h3⟩ := h
  exact ⟨⟨xs, h1.mono hb, h2⟩, Nat.le_trans hb h3⟩
def SymsPost (l : List Sym) (w : World) (e : Ending) (w' : World) : Prop :=
  ∃ a c, e = .returned (.slice a l.length c) ∧ Rd (fun k => w.heap.size ≤ k) w' (.sl (l.map Sym.d)) [.slice a l.length c] ∧ Below w.heap.size w w'
theorem symsW {S S' : Nat → Prop} {w w' : World} {sy : List Sym} {xs : List Value} (h : RdAll S w (sy.map Sym.d) xs) : RdAll S' w' (sy.map Sym.d) xs := by
  induction sy generalizing xs with
  | nil => exact h
  | cons s sy ih =>
    obtain ⟨c1, c2, rfl, h1, h2⟩ := h
    obtain rfl := h1.sym
    exact ⟨_, _, rfl, rd_sym s, ih h2⟩
set_option maxHeartbeats 1000000 in
theorem cloneSyms (l : List Sym) (a : Option Addr) (c : Nat) (w : World) (h : Rd AnyB w (.sl (l.map Sym.d)) [.slice a l.length c]) (hb : l.length ≤ 1000) :
    Calls Try.prog 65 #[.slice a l.length c] w (SymsPost l w) := by
  have hnil := fun (w : World) (a : Option Addr) (n c : Nat) => Lib.run_eql_slice_nil (P := Try.prog) w 47 44 a n c 0 0 Try.underlying47
  cases a with
  | none =>
    have hl : l = [] := by
      cases l with
      | nil => rfl
      | cons x l => obtain ⟨b, off, e, _⟩ := h.sym_at (i := 0) (by simp); cases e
    subst hl
    go_enter Try.func65, Try.ntmps65
    go_wp2
    go_ret
    exact ⟨none, 0, rfl, ⟨none, 0, [], rfl, by simp, by simp [maxLen], fun _ => rfl, fun i hi => by simp at hi, rfl⟩, Below.refl _ _⟩
  | some x =>
    have hb1 : Below w.heap.size w (w.alloc (.cells #[] 44)) := (Below.refl _ _).alloc (Nat.le_refl _) _
    have HV := Lib.hid (h.below hb1)
    have HO : Hid ((w.alloc (.cells #[] 44)).ownsRow w.heap.size 44 2 (.slice (some ⟨w.heap.size, 0, none⟩) 0 0) 0 []) := World.ownsRow_made w #[] 0 (Nat.le_refl _) (by simp) rfl
    have HB1 := Lib.hid hb1
    have HML : Hid ((l.map Sym.d).length = l.length) := by show _ = _; simp
    clear h hb1
    go_enter Try.func65, Try.ntmps65
    go_wp2_with (at_builtin; refine wp_appD elSym rfl _ _ rfl HO.out rfl HV.out rfl (syms_cells l) (by rw [HML.out]; omega) (by rw [HML.out]; unfold maxLen; omega) (by simp) ?_)
    intro v' w' L hd ho hg hat
    have hb2 : Below w.heap.size w w' := HB1.out.trans (below_grown hg (by simp) (fun k hk => by simp [Value.ownBlock] at hk; omega))
    have hrow : Rd (fun k => w.heap.size ≤ k) w' (.sl (l.map Sym.d)) [v'] := rd_of_own ho (by simpa using symsW hd) (by simp) (fun k e => (ho.lt k e).1)
    obtain ⟨a', c', rfl, -, -⟩ := hrow.form
    rw [HML.out] at hrow
    rw [HML.out]
    have HR := Lib.hid hrow
    have HB2 := Lib.hid hb2
    clear hd ho hg hat hb2 hrow
    go_wp2
    go_ret
    exact ⟨a', c', rfl, HR.out, HB2.out⟩
end Gs
end Go.Proofs.Ytjpmebppdcclbaa
namespace Go.Proofs.Ytjpmebppdcclbaa
open Go.RowKit
namespace Ht
open Rp Gs
structure GRow (w : World) (gb : Nat) (gt gn gs : Int) (l : List Rule) (vr : Value) (wr : World) : Prop where
  out : wr.heap[gb]? = some (.cells #[.int .i64 gt, .int .i64 gn, .int .i64 gs, vr] 24 (0, 0))
  row : RowD (fun k => gb < k) (gb + 1) 69 2 (l.map Rule.d) vr wr
  bel : Below w.heap.size w wr
  le : w.heap.size ≤ gb
theorem below_box4 {B b : Nat} {w w' : World} (h : Below B w w') (hb : B ≤ b) (x y z u : Value) : Below B w ((((w'.setCell ⟨b, 0, none⟩ x).setCell ⟨b, 1, none⟩ y).setCell ⟨b, 2, none⟩ z).setCell ⟨b, 3, none⟩ u) :=
  (((h.setCell (p := ⟨b, 0, none⟩) hb x).setCell (p := ⟨b, 1, none⟩) hb y).setCell (p := ⟨b, 2, none⟩) hb z).setCell (p := ⟨b, 3, none⟩) hb u
theorem grown_box4 (b : Nat) (w : World) (x y z u : Value) : w.grownBy ((((w.setCell ⟨b, 0, none⟩ x).setCell ⟨b, 1, none⟩ y).setCell ⟨b, 2, none⟩ z).setCell ⟨b, 3, none⟩ u) (some b) := grown_trans (grown_trans (grown_trans (grown_cell _ _ _) (grown_cell _ _ _)) (grown_cell _ _ _)) (grown_cell _ _ _)
theorem Rd.box4 {S : Nat → Prop} {w : World} {d : Go.Proofs.Ytjpmebppdcclbaa.D} {cs : List Value} (h : Rd S w d cs) {b : Nat} (hb : ¬ S b) (x y z u : Value) : Rd S ((((w.setCell ⟨b, 0, none⟩ x).setCell ⟨b, 1, none⟩ y).setCell ⟨b, 2, none⟩ z).setCell ⟨b, 3, none⟩ u) d cs :=
  Rd.keep (fun k hk hlt => ⟨hk, (grown_box4 b w x y z u).block k hlt (fun e => by cases e; exact hb hk)⟩) d cs h
theorem bx_lt {w : World} {b : Nat} {o : Obj} (h : w.heap[b]? = some o) : b < w.heap.size := (Array.getElem?_eq_some_iff.1 h).1
theorem GRow.keep {w : World} {gb : Nat} {gt gn gs : Int} {l : List Rule} {vr : Value} {wr w' : World} (h : GRow w gb gt gn gs l vr wr) (hb : Below wr.heap.size wr w') : GRow w gb gt gn gs l vr w' :=
  ⟨bx_keep h.out hb, h.row.keep hb, h.bel.trans (hb.mono h.bel.size), h.le⟩
theorem GRow.step {w : World} {gb g cap m : Nat} {gt gn gs : Int} {l : List Rule} {r : Rule} {vr v : Value} {w3 w4 : World} {xs : List Value} (h : GRow w gb gt gn gs l vr w3) (hn : l.length = m) (ho : w3.ownsRow (gb + 1) 69 2 vr m xs) (hd : RdAll (fun k => gb < k ∧ vr.ownBlock ≠ some k) w3 (l.map Rule.d) xs)
    (hr : Rd (fun k => gb < k ∧ vr.ownBlock ≠ some k) w3 (.sl (r.right.map Sym.d)) [v])
    (ho3 : w4.ownsRow (gb + 1) 69 2 (.slice (some ⟨g, 0, none⟩) (m + 1) cap) (m + 1) (xs ++ [.int .i64 r.left, v])) (hg : w3.grownBy w4 vr.ownBlock) (hat : vr.ownBlock = some g ∨ w3.heap.size ≤ g) :
    w4.heap[gb]? = some (.cells #[.int .i64 gt, .int .i64 gn, .int .i64 gs, vr] 24 (0, 0)) ∧ GRow w gb gt gn gs (l ++ [r]) (.slice (some ⟨g, 0, none⟩) (m + 1) cap) (w4.setCell ⟨gb, 3, none⟩ (.slice (some ⟨g, 0, none⟩) (m + 1) cap)) := by
  have hlt := (Array.getElem?_eq_some_iff.1 h.out).1
  have hb3 : w4.heap[gb]? = some (.cells #[.int .i64 gt, .int .i64 gn, .int .i64 gs, vr] 24 (0, 0)) := by
    rw [hg.block gb hlt (fun e => by have := (ho.lt gb e.symm).1; omega)]; exact h.out
  have hne : gb ≠ g := by have h1 := (ho3.lt g rfl).1; omega
  refine ⟨hb3, ?_, ⟨⟨xs ++ [.int .i64 r.left, v], ?_, ?_⟩, ?_⟩, ?_, h.le⟩
  · rw [bx_set hb3]; rfl
  · rw [List.map_append, List.length_append, List.length_map, hn]
    exact ho3.kept (grown_cell w4 ⟨gb, 3, none⟩ _) (.inr (by simpa [Value.ownBlock] using fun e => hne e.symm))
  · have h1 := own_step (S := fun k => gb < k) (v' := .slice (some ⟨g, 0, none⟩) (m + 1) cap) hd (RdAll.one (rd_rule hr)) hg (by
      rcases hat with e | e
      · exact .inl e.symm
      · exact .inr ⟨g, rfl, e⟩)
    rw [List.map_append]
    refine RdAll.keep (fun k hk _ => ⟨hk, Below.heap_setCell _ _ _ _ ?_⟩) _ _ h1
    intro e
    simp at e
    subst e
    exact Nat.lt_irrefl _ hk.1
  · have := h.row.le; have := hg.size; simp [World.setCell]; omega
  · exact (h.bel.grown hg h.bel.size (fun k e => by have := (ho.lt k e).1; have := h.le; omega)).setCell h.le _
def CopyG (g : Gram) (w : World) (e : Ending) (w' : World) : Prop :=
  ∃ a c, e = .returned (.agg #[.int .i64 g.terms, .int .i64 g.nons, .int .i64 g.start, .slice a g.rules.length c]) ∧ RowD (fun k => w.heap.size ≤ k) w.heap.size 69 2 (g.rules.map Rule.d) (.slice a g.rules.length c) w' ∧ Below w.heap.size w w'
set_option maxHeartbeats 4000000 in
set_option maxRecDepth 100000 in
theorem copyG (g : Gram) (hg : ∀ r ∈ g.rules, r.right.length ≤ 4) (hgl : g.rules.length ≤ 100) (a : Option Addr) (c : Nat) (w : World) (hr : Rd AnyB w (.sl (g.rules.map Rule.d)) [.slice a g.rules.length c]) :
    Calls Try.prog 55 #[.agg #[.int .i64 g.terms, .int .i64 g.nons, .int .i64 g.start, .slice a g.rules.length c]] w (CopyG g w) := by
  obtain ⟨PST, HP⟩ := nameIt (CopyG g w)
  have HFIN : Hid (∀ a c w', RowD (fun k => w.heap.size ≤ k) w.heap.size 69 2 (g.rules.map Rule.d) (.slice a g.rules.length c) w' → Below w.heap.size w w' → PST (.returned (.agg #[.int .i64 g.terms, .int .i64 g.nons, .int .i64 g.start, .slice a g.rules.length c])) w') := by
    intro a c w' h1 h2; rw [← HP.out]; exact ⟨a, c, rfl, h1, h2⟩
  rw [HP.out]
  clear HP
  have HRD := Lib.hid hr
  have HRR := Lib.hid hg
  have hbd := hr.bounds.2
  unfold maxLen at hbd
  obtain ⟨hbd1, hbd2⟩ := hbd
  obtain ⟨gt, HGT⟩ := nameIt g.terms
  obtain ⟨gn, HGN⟩ := nameIt g.nons
  obtain ⟨gs, HGS⟩ := nameIt g.start
  obtain ⟨K, HK⟩ := nameIt g.rules
  rw [HGT.out, HGN.out, HGS.out, HK.out] at HFIN
  rw [HK.out] at HRD HRR hgl hbd1
  rw [HGT.out, HGN.out, HGS.out, HK.out]
  obtain ⟨kl, HKL⟩ := nameIt K.length
  rw [HKL.out] at HFIN HRD hgl hbd1
  rw [HKL.out]
  clear hr hg
  go_enter Try.func55, Try.ntmps55
  obtain ⟨wa, HWA⟩ := nameIt (((w.alloc (.cells #[.int .i64 gt, .int .i64 gn, .int .i64 gs, .slice a kl c] 24)).alloc (.cells #[.int .i64 0, .int .i64 0, .int .i64 0, .slice none 0 0] 24)).alloc (.cells #[.int .i64 gt, .int .i64 gn, .int .i64 gs, .slice none 0 0] 24))
  have hba : Below w.heap.size w wa := by rw [← HWA.out]; exact (((Below.refl _ _).alloc (Nat.le_refl _) _).alloc (by simp) _).alloc (by simp; omega) _
  have XR : Hid (wa.heap[w.heap.size + 1]? = some (.cells #[.int .i64 0, .int .i64 0, .int .i64 0, .slice none 0 0] 24 (0, 0))) := by rw [← HWA.out]; exact bx_keep (bx_new _ _ _ (by simp)) ((Below.refl _ _).alloc (Nat.le_refl _) _)
  have XG : wa.heap[w.heap.size + 1 + 1]? = some (.cells #[.int .i64 gt, .int .i64 gn, .int .i64 gs, .slice none 0 0] 24 (0, 0)) := by rw [← HWA.out]; exact bx_new _ _ _ (by simp)
  obtain ⟨gb, HGB⟩ := nameIt (w.heap.size + 1 + 1)
  rw [HGB.out] at XG
  have hgb : gb = w.heap.size + 2 := by rw [← HGB.out]
  have hgl2 := lt_of_cell (bx_cells4 XG).1
  have HG0 : Hid (GRow w gb gt gn gs (K.take 0) (.slice none 0 0) wa) := ⟨XG, RowD.nil _ _ _ _ _ hgl2, hba, by omega⟩
  have HGE := Lib.hid hgb
  have HR0 : Hid (wa.heap[gb - 1]? = some (.cells #[.int .i64 0, .int .i64 0, .int .i64 0, .slice none 0 0] 24 (0, 0))) := by
    have : gb - 1 = w.heap.size + 1 := by omega
    rw [this]; exact XR.out
  clear hba XG XR hgl2 hgb
  go_wp2_with fail
  rw [HWA.out, HGB.out]
  obtain ⟨rb, HRB⟩ := nameIt (w.heap.size + 1)
  have HRE : Hid (gb - 1 = rb) := by show _ = _; have h1 := HGE.out; have h2 := HRB.out; omega
  have hrg : rb < gb := by have h1 := HGE.out; have h2 := HRB.out; omega
  rw [HRB.out]
  rw [HRE.out] at HR0
  go_loopg [5, 11] kl (fun gg v5 v11 wr => ∃ (i : Nat) (vr : Value), i ≤ kl ∧ kl - i ≤ gg ∧ v11 = .int .i64 (i : Int) ∧ Hid (GRow w gb gt gn gs (K.take i) vr wr) ∧ Hid (wr.heap[rb]? = some (.cells #[.int .i64 0, .int .i64 0, .int .i64 0, .slice none 0 0] 24 (0, 0))))
  case atStart => exact ⟨0, .slice none 0 0, by omega, by omega, rfl, HG0, HR0⟩
  case round =>
    clear HG0 HR0 HWA
    obtain ⟨i, vr, hi, hgg, rfl, HG, HRES⟩ := hrel
    obtain ⟨w0, rfl⟩ : ∃ ww : World, ww = wr := ⟨_, rfl⟩
    obtain ⟨ar, cr, hvr, hcr1, hcr2, hvb⟩ := HG.out.row.form
    have HVLT0 := Lib.hid hvb
    by_cases hik : i < kl
    · have hik' : (i : Int) < (kl : Int) := by omega
      have hiK : i < K.length := by rw [HKL.out]; exact hik
      have hil : (K.take i).length = i := by simp; omega
      rw [List.length_map, hil] at hvr hcr1
      subst hvr
      unfold maxLen at hcr2
      obtain ⟨bk, ro, v, hae, -, hbk, s0, s1, hrr⟩ := (HRD.out.below HG.out.bel).rule_at hiK
      obtain ⟨av, cv, rfl, hv1, hv2⟩ := hrr.form
      have hrl := HRR.out _ (List.getElem_mem hiK)
      have hT1 : K.take (i + 1) = K.take i ++ [K[i]] := List.take_succ_eq_append_getElem hiK
      obtain ⟨kid, HKI⟩ := nameIt (K[i]'hiK)
      rw [HKI.out] at s0 s1 hrr hrl hT1
      obtain ⟨lf, RL⟩ := kid
      dsimp only at s0 s1 hrr hrl
      rw [List.length_map] at s1 hrr hv1
      obtain ⟨w1, HW1⟩ := nameIt (w0.alloc (.cells #[.int .i64 lf, .slice av RL.length cv] 69))
      have hb1 : Below w0.heap.size w0 w1 := by rw [← HW1.out]; exact (Below.refl _ _).alloc (Nat.le_refl _) _
      have HRX : Hid (w1.heap[w0.heap.size]? = some (.cells #[.int .i64 lf, .slice av RL.length cv] 69 (0, 0))) := by rw [← HW1.out]; exact bx_new _ _ _ rfl
      have HG1' := HG.out.keep hb1
      have HG1 : Hid (w1.heap[gb]? = some (.cells #[.int .i64 gt, .int .i64 gn, .int .i64 gs, .slice ar i cr] 24 (0, 0))) := HG1'.out
      have HG1R := Lib.hid HG1'
      have HCL := Lib.hid (fun W (hb : Below w1.heap.size w1 W) => cloneSyms RL av cv W ((hrr.below hb1).below hb) (by omega))
      have HIL := Lib.hid hil
      have HT1 := Lib.hid hT1
      obtain ⟨xs, ho, hd⟩ := HG1'.row.own
      rw [List.length_map, hil] at ho
      have HO := Lib.hid ho
      have HD := Lib.hid hd
      have HRES1 := Lib.hid (bx_keep HRES.out hb1)
      have hgs1 := (bx_lt HG1.out)
      have hrs1 := (bx_lt HRES1.out)
      have hgw1 : gb + 1 ≤ w1.heap.size := hgs1
      have HVLT : Hid (∀ k, (Value.slice ar i cr).ownBlock = some k → k < w1.heap.size) := fun k e => (ho.lt k e).2
      have HVGE : Hid (∀ k, (Value.slice ar i cr).ownBlock = some k → gb < k) := fun k e => (ho.lt k e).1
      obtain ⟨rn, HRN⟩ := nameIt RL.length
      rw [HRN.out] at HRX HW1 s1
      simp only [HRN.out] at HCL
      obtain ⟨rx, HRXN⟩ := nameIt w0.heap.size
      rw [HRXN.out] at HRX
      subst hae
      clear hv1 hv2 hb1 hrr HG1' ho hd hvb hil hT1 hrl HKI hiK
      go_upto_region 6 with fail
      rw [HW1.out, HRXN.out]
      clear HW1 s0 s1
      have HS : Hid (∀ W', Below w1.heap.size w1 W' → (fun w' => w'.cell? ⟨gb, 0 + 3, none⟩ = some (.slice ar i cr) ∧ w'.cell? ⟨rx, 0, none⟩ = some (.int .i64 lf) ∧ w'.cell? ⟨rx, 0 + 1, none⟩ = some (.slice av rn cv)) W') := fun W' hb => ⟨(bx_cells4 (bx_keep HG1.out hb)).2.2.2, (bx_cells2 (bx_keep HRX.out hb)).1, (bx_cells2 (bx_keep HRX.out hb)).2⟩
      refine wp_region_U (S := (fun w' => w'.cell? ⟨gb, 0 + 3, none⟩ = some (.slice ar i cr) ∧ w'.cell? ⟨rx, 0, none⟩ = some (.int .i64 lf) ∧ w'.cell? ⟨rx, 0 + 1, none⟩ = some (.slice av rn cv))) 9 (by kernel_rfl) (fun inv => ?_)
      refine wpU_take (i := 0) (v := .pointer (some ⟨gb, 0 + 3, none⟩)) rfl inv (by kernel_rfl) (by kernel_rfl) (by decide) (by decide) (by kernel_rfl) (by kernel_rfl) (by kernel_rfl) (fun _ _ _ h => h) (Or.inl ⟨by rfl, fun w' hw' => ?_⟩) (HS.out _ (Below.refl _ _).drew) (fun inv => ?_)
      · obtain ⟨h0, h1, h2⟩ := hw'
        go_simp
      try simp only [Act.put, List.setIfInBounds_toArray, List.set_cons_zero, List.set_cons_succ]
      refine wpU_take (i := 1) (v := .slice ar i cr) rfl inv (by kernel_rfl) (by kernel_rfl) (by decide) (by decide) (by kernel_rfl) (by kernel_rfl) (by kernel_rfl) (fun _ _ _ h => h) (Or.inl ⟨by rfl, fun w' hw' => ?_⟩) (HS.out _ (Below.refl _ _).drew) (fun inv => ?_)
      · obtain ⟨h0, h1, h2⟩ := hw'
        go_simp
      try simp only [Act.put, List.setIfInBounds_toArray, List.set_cons_zero, List.set_cons_succ]
      refine wpU_take (i := 2) (v := .pointer (some ⟨rx, 0, none⟩)) rfl inv (by kernel_rfl) (by kernel_rfl) (by decide) (by decide) (by kernel_rfl) (by kernel_rfl) (by kernel_rfl) (fun _ _ _ h => h) (Or.inl ⟨by rfl, fun w' hw' => ?_⟩) (HS.out _ (Below.refl _ _).drew) (fun inv => ?_)
      · obtain ⟨h0, h1, h2⟩ := hw'
        go_simp
      try simp only [Act.put, List.setIfInBounds_toArray, List.set_cons_zero, List.set_cons_succ]
      refine wpU_take (i := 3) (v := .int .i64 lf) rfl inv (by kernel_rfl) (by kernel_rfl) (by decide) (by decide) (by kernel_rfl) (by kernel_rfl) (by kernel_rfl) (fun _ _ _ h => h) (Or.inl ⟨by rfl, fun w' hw' => ?_⟩) (HS.out _ (Below.refl _ _).drew) (fun inv => ?_)
      · obtain ⟨h0, h1, h2⟩ := hw'
        go_simp
      try simp only [Act.put, List.setIfInBounds_toArray, List.set_cons_zero, List.set_cons_succ]
      refine wpU_take (i := 4) (v := .pointer (some ⟨rx, 0 + 1, none⟩)) rfl inv (by kernel_rfl) (by kernel_rfl) (by decide) (by decide) (by kernel_rfl) (by kernel_rfl) (by kernel_rfl) (fun _ _ _ h => h) (Or.inl ⟨by rfl, fun w' hw' => ?_⟩) (HS.out _ (Below.refl _ _).drew) (fun inv => ?_)
      · obtain ⟨h0, h1, h2⟩ := hw'
        go_simp
      try simp only [Act.put, List.setIfInBounds_toArray, List.set_cons_zero, List.set_cons_succ]
      refine wpU_take (i := 5) (v := .slice av rn cv) rfl inv (by kernel_rfl) (by kernel_rfl) (by decide) (by decide) (by kernel_rfl) (by kernel_rfl) (by kernel_rfl) (fun _ _ _ h => h) (Or.inl ⟨by rfl, fun w' hw' => ?_⟩) (HS.out _ (Below.refl _ _).drew) (fun inv => ?_)
      · obtain ⟨h0, h1, h2⟩ := hw'
        go_simp
      try simp only [Act.put, List.setIfInBounds_toArray, List.set_cons_zero, List.set_cons_succ]
      refine wpU_one (i := 6) (by kernel_rfl) rfl (fun K hK => ?_)
      replace inv := inv_setc (i := 6) inv (by kernel_rfl) (by decide)
      go_simp
      with_reducible refine (HCL.out _ (Below.refl _ _).drew).mono ?_
      rintro e w2 ⟨a2, c2, rfl, hr2, hb2⟩
      rw [HRN.out] at hr2
      rw [HRN.out]
      have HB2 : Hid (Below w1.heap.size w1 w2) := (Below.refl _ _).drew.trans (hb2.mono (by simp))
      have HR2 : Hid (Rd (fun k => w1.heap.size ≤ k) w2 (.sl (RL.map Sym.d)) [.slice a2 rn c2]) := hr2
      clear hr2 hb2
      refine hK.out _ _ (fun _ => HS.out _ HB2.out) ?_
      clear hK K
      try simp only [Act.put, List.setIfInBounds_toArray, List.set_cons_zero, List.set_cons_succ]
      refine wpU_one (i := 7) (by kernel_rfl) rfl (fun K hK => ?_)
      replace inv := inv_setc (i := 7) inv (by kernel_rfl) (by decide)
      go_simp
      refine hK.out _ _ (fun _ => HS.out _ HB2.out) ?_
      clear hK K
      try simp only [Act.put, List.setIfInBounds_toArray, List.set_cons_zero, List.set_cons_succ]
      obtain ⟨w3, HW3⟩ := nameIt (w2.alloc (.cells #[.int .i64 lf, .slice a2 rn c2] 69))
      have hb3 : Below w2.heap.size w2 w3 := by rw [← HW3.out]; exact (Below.refl _ _).alloc (Nat.le_refl _) _
      have X3 : Hid (w3.heap[w2.heap.size]? = some (.cells #[.int .i64 lf, .slice a2 rn c2] 69 (0, 0))) := by rw [← HW3.out]; exact bx_new _ _ _ rfl
      have HB3 : Hid (Below w1.heap.size w1 w3) := HB2.out.trans (hb3.mono HB2.out.size)
      have HR3 := Lib.hid (HR2.out.below hb3)
      obtain ⟨q2, HQ2⟩ := nameIt w2.heap.size
      rw [HQ2.out] at X3
      clear hb3
      refine wpU_one (i := 8) (by kernel_rfl) rfl (fun K hK => ?_)
      replace inv := inv_setc (i := 8) inv (by kernel_rfl) (by decide)
      go_simp
      rw [HW3.out, HQ2.out]
      refine hK.out _ _ (fun _ => HS.out _ HB3.out) ?_
      clear hK K
      try simp only [Act.put, List.setIfInBounds_toArray, List.set_cons_zero, List.set_cons_succ]
      have HO3 := Lib.hid (own_keep HO.out HB3.out)
      have HD3 := Lib.hid (HD.out.below HB3.out)
      have HG3 := Lib.hid (HG1R.out.keep HB3.out)
      refine wpU_one (i := 9) (by kernel_rfl) rfl (fun K hK => ?_)
      refine step_appB elRule (by rfl) _ _ (by rfl) HO3.out (by rfl) (by rfl) X3.out (by rfl) (by rfl) (by omega) (by unfold maxLen; omega) (by have := HB3.out.size; omega) ?_
      intro g4 c4 w4 ho4 hg4 hat4 hlt4
      obtain ⟨hbx, hst⟩ := GRow.step HG3.out HIL.out HO3.out HD3.out (r := ⟨lf, RL⟩) (HR3.out.mono (fun k hk _ => ⟨by omega, fun e => by have := HVLT.out k e; omega⟩)) ho4 hg4 (hat4.imp id fun e => Nat.le_of_eq e.symm)
      have HGB4 := Lib.hid hg4
      have HX4 := Lib.hid hbx
      have HST := Lib.hid hst
      clear ho4 hg4 hat4 hbx hst
      refine hK.out _ _ (fun h => absurd (show true = false from h) (by decide)) ?_
      clear hK K
      try simp only [Act.put, List.setIfInBounds_toArray, List.set_cons_zero, List.set_cons_succ]
      refine wpU_one (i := 10) (by kernel_rfl) rfl (fun K hK => ?_)
      go_simp
      refine hK.out _ _ (fun h => absurd (show true = false from h) (by decide)) ?_
      clear hK K
      try simp only [Act.put, List.setIfInBounds_toArray, List.set_cons_zero, List.set_cons_succ]
      obtain ⟨-, -, -, z3⟩ := bx_cells4 HX4.out
      obtain ⟨-, -, -, f3⟩ := bx_free4 HX4.out
      refine wpU_one (i := 11) (by kernel_rfl) rfl (fun K hK => ?_)
      go_simp
      refine hK.out _ _ (fun h => absurd (show true = false from h) (by decide)) ?_
      clear hK K
      try simp only [Act.put, List.setIfInBounds_toArray, List.set_cons_zero, List.set_cons_succ]
      refine wpU_done (by kernel_rfl) ?_ _
      have HRN4 : Hid ((w4.setCell ⟨gb, 3, none⟩ (.slice (some ⟨g4, 0, none⟩) (i + 1) c4)).heap[rb]? = some (.cells #[.int .i64 0, .int .i64 0, .int .i64 0, .slice none 0 0] 24 (0, 0))) :=
        bx_other ((HGB4.out.block rb (by have := HB3.out.size; omega) (fun e => by have := HVGE.out rb e.symm; omega)).trans (bx_keep HRES1.out HB3.out)) (by omega) _ _
      go_wp2_with fail
      go_roundg (kl - (i + 1))
      case measure => omega
      case rel =>
        refine ⟨i + 1, .slice (some ⟨g4, 0, none⟩) (i + 1) c4, by omega, by omega, by go_num, ?_, HRN4⟩
        rw [HT1.out]; exact HST.out
    · have hik' : ¬ (i : Int) < (kl : Int) := by omega
      have htk : K.take i = K := List.take_of_length_le (by rw [HKL.out]; omega)
      rw [htk] at HG
      rw [htk, List.length_map, HKL.out] at hvr
      subst hvr
      have HE := Lib.hid (fun x0 x1 x2 x3 => HFIN.out ar cr ((((w0.setCell ⟨rb, 0, none⟩ x0).setCell ⟨rb, 1, none⟩ x1).setCell ⟨rb, 2, none⟩ x2).setCell ⟨rb, 3, none⟩ x3) (by
        obtain ⟨xs, h3, h4⟩ := HG.out.row.own
        rw [List.length_map, HKL.out] at h3
        have hgr := grown_box4 rb w0 x0 x1 x2 x3
        refine RowD.lower (B := gb + 1) ⟨⟨xs, ?_, ?_⟩, ?_⟩ (by have := HRB.out; have := HGE.out; omega)
        · rw [List.length_map, HKL.out]
          exact h3.kept hgr (.inr (fun e => by have := (h3.lt rb e).1; omega))
        · exact RdAll.keep (fun k hk hlt => ⟨⟨by have := HRB.out; have := hk.1; omega, hk.2⟩, hgr.block k hlt (fun e => by cases e; have := hk.1; omega)⟩) _ _ h4
        · have := hgr.size; have := HG.out.row.le; omega) (below_box4 HG.out.bel (by have := HRB.out; omega) x0 x1 x2 x3))
      obtain ⟨x0, x1, x2, x3⟩ := bx_cells4 HG.out.out
      obtain ⟨z0, z1, z2, z3⟩ := bx_cells4 HRES.out
      obtain ⟨f0, f1, f2, f3⟩ := bx_free4 HRES.out
      clear htk hvb hcr1 hcr2
      go_wp2_with fail
      refine bodyPost_ret (v := .agg #[.int .i64 gt, .int .i64 gn, .int .i64 gs, .slice ar kl cr]) (by simp [results, Try.results55, go_sem, z0, z1, z2, z3]) rfl ?_
      exact HE.out _ _ _ _
end Ht
end Go.Proofs.Ytjpmebppdcclbaa
