/- Plain: dfa.Live: the states from which a word is accepted. Plain: the rounds of dfa.Parts. Plain: the automaton of a closed learner. Plain: dfa.Canon: one state of each part, in the order in which they come up. Plain: the rows of dfa.Canon. The contracts of the tests 'is no symbol' (two closures alike). slices.Min and Max of whole numbers. A region that draws its order, that only loads what was there and calls what makes new memory only: one walk in the order of the text. The contract of dfa.Check: dfaErr. teach.plain: the two rows that it makes, through the region of the two appends. dfa.Canon: the two rows that it makes, beside a third one (X: its block). dfa.Canon: what its loops keep. -/
import Derived.Test.YtgdfbjpahmnekaaJLearnRefusesRow1
import Derived.Test.YtgdfbjpahmnekaaJLearnRefusesRow2
import Derived.Deep.LoopGhost
import Derived.Lib.MinMax
import Derived.BigQuiet
namespace Go.Proofs.Ytgdfbjpahmnekaa
open Go.RowKit
namespace Df

/-- where a symbol leads -/
def edge (x : Dfa) (s c : Nat) : Option Int := (x.next[s]?).bind fun r => r[c]?
theorem edge_lt {x : Dfa} {s c : Nat} {v : Int} (h : edge x s c = some v) : s < x.next.length := by
  unfold edge at h
  cases hr : x.next[s]? with
  | none => rw [hr] at h; cases h
  | some r => exact (List.getElem?_eq_some_iff.1 hr).1
theorem edge_at {x : Dfa} {s : Nat} (hs : s < x.next.length) {c : Nat} (hc : c < x.next[s].length) : edge x s c = some (x.next[s][c]) := by
  unfold edge
  rw [List.getElem?_eq_getElem hs, Option.bind_some, List.getElem?_eq_getElem hc]
theorem edge_none {x : Dfa} {s : Nat} (hs : s < x.next.length) {c : Nat} (hc : x.next[s].length ≤ c) : edge x s c = none := by
  unfold edge
  rw [List.getElem?_eq_getElem hs, Option.bind_some, List.getElem?_eq_none hc]
/-- a state from which something is accepted -/
inductive Liv (x : Dfa) : Nat → Prop
  | acc {s : Nat} {a : Int} : x.acc[s]? = some a → 0 ≤ a → Liv x s
  | step {s c t : Nat} : edge x s c = some (t : Int) → Liv x t → Liv x s
/-- what the first s rows and c cells of the next one tell of the ways into t -/
def PreI (x : Dfa) (s c t : Nat) (p : Int) : Prop := ∃ s' c' : Nat, p = (s' : Int) ∧ edge x s' c' = some (t : Int) ∧ (s' < s ∨ (s' = s ∧ c' < c))
theorem preI_start {x : Dfa} {t : Nat} {p : Int} : ¬ PreI x 0 0 t p := by rintro ⟨s', c', _, _, h⟩; omega
theorem preI_row {x : Dfa} {s : Nat} (hs : s < x.next.length) {c : Nat} (hc : x.next[s].length ≤ c) {t : Nat} {p : Int} : PreI x s c t p ↔ PreI x (s + 1) 0 t p := by
  constructor
  · rintro ⟨s', c', h1, h2, h3⟩; exact ⟨s', c', h1, h2, by omega⟩
  · rintro ⟨s', c', h1, h2, h3⟩
    refine ⟨s', c', h1, h2, ?_⟩
    by_cases e : s' = s
    · subst e
      by_cases e2 : c' < c
      · exact .inr ⟨rfl, e2⟩
      · rw [edge_none hs (by omega)] at h2; cases h2
    · omega
theorem preI_neg {x : Dfa} {s c : Nat} {v : Int} (hv : edge x s c = some v) {t : Nat} (h : v ≠ (t : Int)) {p : Int} : PreI x s (c + 1) t p ↔ PreI x s c t p := by
  constructor
  · rintro ⟨s', c', h1, h2, h3⟩
    refine ⟨s', c', h1, h2, ?_⟩
    by_cases e : s' = s ∧ c' = c
    · obtain ⟨rfl, rfl⟩ := e
      rw [hv] at h2
      exact absurd (Option.some.inj h2) h
    · omega
  · rintro ⟨s', c', h1, h2, h3⟩; exact ⟨s', c', h1, h2, by omega⟩
theorem preI_add {x : Dfa} {s c t : Nat} (hv : edge x s c = some (t : Int)) {p : Int} : PreI x s (c + 1) t p ↔ PreI x s c t p ∨ p = (s : Int) := by
  constructor
  · rintro ⟨s', c', h1, h2, h3⟩
    by_cases e : s' = s ∧ c' = c
    · exact .inr (by rw [h1, e.1])
    · exact .inl ⟨s', c', h1, h2, by omega⟩
  · rintro (⟨s', c', h1, h2, h3⟩ | h)
    · exact ⟨s', c', h1, h2, by omega⟩
    · exact ⟨s, c, h, hv, by omega⟩
/-- the ways in, as lists -/
def InL (x : Dfa) (s c : Nat) (L : Nat → List Int) : Prop := ∀ t, t < x.next.length → (∀ p, p ∈ L t ↔ PreI x s c t p) ∧ (L t).length ≤ s * 16 + c
theorem inL_start (x : Dfa) : InL x 0 0 (fun _ => []) := fun t _ => ⟨fun p => ⟨fun h => (by cases h), fun h => absurd h preI_start⟩, Nat.zero_le _⟩
theorem inL_row {x : Dfa} (hx : Right x) {s c : Nat} {L : Nat → List Int} (hs : s < x.next.length) (hc : c = x.next[s].length) (h : InL x s c L) : InL x (s + 1) 0 L := fun t ht => by
  obtain ⟨h1, h2⟩ := h t ht
  refine ⟨fun p => by rw [h1 p, preI_row hs (by omega)], ?_⟩
  have := hx.rows _ (List.getElem_mem hs)
  have := hx.syms
  omega
theorem inL_neg {x : Dfa} {s c : Nat} {L : Nat → List Int} {v : Int} (hv : edge x s c = some v) (h0 : v < 0) (h : InL x s c L) : InL x s (c + 1) L := fun t ht => by
  obtain ⟨h1, h2⟩ := h t ht
  exact ⟨fun p => by rw [h1 p, preI_neg hv (by omega)], by omega⟩
def updL (L : Nat → List Int) (t : Nat) (s : Int) : Nat → List Int := fun k => if k = t then L t ++ [s] else L k
theorem inL_add {x : Dfa} {s c : Nat} {L : Nat → List Int} {t : Nat} (hv : edge x s c = some (t : Int)) (h : InL x s c L) : InL x s (c + 1) (updL L t s) := fun k hk => by
  obtain ⟨h1, h2⟩ := h k hk
  unfold updL
  by_cases e : k = t
  · subst e
    rw [if_pos rfl]
    refine ⟨fun p => ?_, by rw [List.length_append]; simp; omega⟩
    rw [List.mem_append, h1 p, preI_add hv]; simp
  · rw [if_neg e]
    exact ⟨fun p => by rw [h1 p, preI_neg hv (by omega)], by omega⟩
theorem inL_end {x : Dfa} {L : Nat → List Int} (h : InL x x.next.length 0 L) {t : Nat} (ht : t < x.next.length) {p : Int} : p ∈ L t ↔ ∃ s c : Nat, p = (s : Int) ∧ edge x s c = some (t : Int) := by
  rw [(h t ht).1 p]
  constructor
  · rintro ⟨s', c', h1, h2, _⟩; exact ⟨s', c', h1, h2⟩
  · rintro ⟨s', c', h1, h2⟩; exact ⟨s', c', h1, h2, .inl (edge_lt h2)⟩
/-- how many are not there yet -/
def notM (M : Nat → Bool) : Nat → Nat
  | 0 => 0
  | n + 1 => notM M n + if M n then 0 else 1
def setM (M : Nat → Bool) (s : Nat) : Nat → Bool := fun k => if k = s then true else M k
theorem setM_self (M : Nat → Bool) (s : Nat) : setM M s s = true := by unfold setM; rw [if_pos rfl]
theorem setM_ge {M : Nat → Bool} {s k : Nat} (h : M k = true) : setM M s k = true := by unfold setM; split <;> simp [h]
theorem setM_cases {M : Nat → Bool} {s k : Nat} (h : setM M s k = true) : k = s ∨ M k = true := by
  unfold setM at h
  split at h
  · rename_i e; exact .inl e
  · exact .inr h
theorem notM_le (M : Nat → Bool) : ∀ n, notM M n ≤ n
  | 0 => Nat.le_refl _
  | n + 1 => by have := notM_le M n; unfold notM; split <;> omega
theorem notM_same {M : Nat → Bool} {s : Nat} : ∀ {n : Nat}, n ≤ s → notM (setM M s) n = notM M n
  | 0, _ => rfl
  | n + 1, h => by
    unfold notM
    rw [notM_same (by omega), show setM M s n = M n from by unfold setM; rw [if_neg (by omega)]]
theorem notM_set {M : Nat → Bool} {s : Nat} (hm : M s = false) : ∀ {n : Nat}, s < n → notM (setM M s) n + 1 = notM M n
  | 0, h => by omega
  | n + 1, h => by
    unfold notM
    by_cases e : s = n
    · subst e
      rw [notM_same (Nat.le_refl _), setM_self, hm]; simp
    · have := notM_set hm (n := n) (by omega)
      rw [show setM M s n = M n from by unfold setM; rw [if_neg (fun h => e h.symm)]]
      omega
/-- while the accepting states are taken -/
structure LvA (x : Dfa) (i : Nat) (M : Nat → Bool) (wk : List Int) : Prop where
  mem : ∀ s, M s = true ↔ s < i ∧ ∃ a, x.acc[s]? = some a ∧ 0 ≤ a
  work : ∀ p ∈ wk, ∃ s : Nat, p = (s : Int) ∧ s < x.next.length ∧ M s = true
  all : ∀ s : Nat, M s = true → (s : Int) ∈ wk
  meas : 2 * notM M x.next.length + wk.length ≤ 2 * x.next.length
theorem lvA_start (x : Dfa) : LvA x 0 (fun _ => false) [] := ⟨fun s => ⟨fun h => (by cases h), fun h => (by omega)⟩, fun p hp => (by cases hp), fun s h => (by cases h), by have := notM_le (fun _ => false) x.next.length; rw [List.length_nil]; omega⟩
theorem lvA_no {x : Dfa} {i : Nat} {M : Nat → Bool} {wk : List Int} {a : Int} (ha : x.acc[i]? = some a) (h0 : a < 0) (h : LvA x i M wk) : LvA x (i + 1) M wk := by
  obtain ⟨h1, h2, h3, h4⟩ := h
  refine ⟨fun s => ?_, h2, h3, h4⟩
  rw [h1]
  constructor
  · rintro ⟨k1, k2⟩; exact ⟨by omega, k2⟩
  · rintro ⟨k1, b, k2, k3⟩
    refine ⟨?_, b, k2, k3⟩
    by_cases e : s = i
    · subst e; rw [ha] at k2; cases k2; omega
    · omega
theorem lvA_yes {x : Dfa} {i : Nat} {M : Nat → Bool} {wk : List Int} {a : Int} (hi : i < x.next.length) (ha : x.acc[i]? = some a) (h0 : 0 ≤ a) (h : LvA x i M wk) : LvA x (i + 1) (setM M i) (wk ++ [(i : Int)]) := by
  obtain ⟨h1, h2, h3, h4⟩ := h
  have hm : M i = false := by
    cases e : M i with
    | false => rfl
    | true => have := ((h1 i).1 e).1; omega
  refine ⟨fun s => ?_, fun p hp => ?_, fun s hs => ?_, ?_⟩
  · constructor
    · intro k
      rcases setM_cases k with rfl | k
      · exact ⟨by omega, a, ha, h0⟩
      · obtain ⟨k1, k2⟩ := (h1 s).1 k
        exact ⟨by omega, k2⟩
    · rintro ⟨k1, k2⟩
      by_cases e : s = i
      · subst e; exact setM_self _ _
      · exact setM_ge ((h1 s).2 ⟨by omega, k2⟩)
  · rcases List.mem_append.1 hp with hp | hp
    · obtain ⟨s, k1, k2, k3⟩ := h2 p hp
      exact ⟨s, k1, k2, setM_ge k3⟩
    · simp at hp
      exact ⟨i, hp, hi, setM_self _ _⟩
  · rcases setM_cases hs with rfl | k
    · simp
    · exact List.mem_append.2 (.inl (h3 s k))
  · have := notM_set hm hi
    rw [List.length_append]; simp; omega
/-- while the others are taken: cur: the state whose ways in are walked, its first j taken -/
structure LvI (x : Dfa) (M : Nat → Bool) (wk : List Int) (cur : Option Nat) : Prop where
  sound : ∀ s, M s = true → Liv x s ∧ s < x.next.length
  accs : ∀ (s : Nat) (a : Int), x.acc[s]? = some a → 0 ≤ a → M s = true
  work : ∀ p ∈ wk, ∃ s : Nat, p = (s : Int) ∧ s < x.next.length ∧ M s = true
  clo : ∀ t, M t = true → (t : Int) ∈ wk ∨ cur = some t ∨ ∀ s c, edge x s c = some (t : Int) → M s = true
  meas : 2 * notM M x.next.length + wk.length ≤ 2 * x.next.length
theorem lvI_start {x : Dfa} (hx : Right x) {M : Nat → Bool} {wk : List Int} {i : Nat} (hi : i = x.acc.length) (h : LvA x i M wk) : LvI x M wk none := by
  subst hi
  obtain ⟨h1, h2, h3, h4⟩ := h
  refine ⟨fun s hs => ?_, fun s a k1 k2 => (h1 s).2 ⟨(List.getElem?_eq_some_iff.1 k1).1, a, k1, k2⟩, h2, fun t ht => .inl (h3 t ht), h4⟩
  obtain ⟨k1, a, k2, k3⟩ := (h1 s).1 hs
  exact ⟨.acc k2 k3, by rw [← hx.accs]; exact k1⟩
theorem lvI_pop {x : Dfa} {M : Nat → Bool} {wk : List Int} {t : Nat} (h : LvI x M (wk ++ [(t : Int)]) none) : LvI x M wk (some t) := by
  obtain ⟨h1, h2, h3, h4, h5⟩ := h
  refine ⟨h1, h2, fun p hp => h3 p (List.mem_append.2 (.inl hp)), fun k hk => ?_, by rw [List.length_append] at h5; simp at h5; omega⟩
  rcases h4 k hk with k1 | k1 | k1
  · rcases List.mem_append.1 k1 with k1 | k1
    · exact .inl k1
    · simp at k1
      have : k = t := by omega
      subst this; exact .inr (.inl rfl)
  · cases k1
  · exact .inr (.inr k1)
theorem lvI_push {x : Dfa} {M : Nat → Bool} {wk : List Int} {t s c : Nat} (h : LvI x M wk (some t)) (he : edge x s c = some (t : Int)) (ht : M t = true) (hm : M s = false) : LvI x (setM M s) (wk ++ [(s : Int)]) (some t) := by
  obtain ⟨h1, h2, h3, h4, h5⟩ := h
  have hs := edge_lt he
  refine ⟨fun k hk => ?_, fun k a k1 k2 => setM_ge (h2 k a k1 k2), fun p hp => ?_, fun k hk => ?_, ?_⟩
  · rcases setM_cases hk with rfl | k1
    · exact ⟨.step he (h1 t ht).1, hs⟩
    · exact h1 k k1
  · rcases List.mem_append.1 hp with hp | hp
    · obtain ⟨k, k1, k2, k3⟩ := h3 p hp
      exact ⟨k, k1, k2, setM_ge k3⟩
    · simp at hp
      exact ⟨s, hp, hs, setM_self _ _⟩
  · rcases setM_cases hk with rfl | k1
    · exact .inl (List.mem_append.2 (.inr (by simp)))
    · rcases h4 k k1 with k2 | k2 | k2
      · exact .inl (List.mem_append.2 (.inl k2))
      · exact .inr (.inl k2)
      · exact .inr (.inr fun s' c' k3 => setM_ge (k2 s' c' k3))
  · have := notM_set hm hs
    rw [List.length_append]; simp; omega
theorem lvI_done {x : Dfa} {M : Nat → Bool} {wk : List Int} {t : Nat} {L : List Int} (hL : ∀ p, p ∈ L ↔ ∃ s c : Nat, p = (s : Int) ∧ edge x s c = some (t : Int)) (hA : ∀ p ∈ L, M p.toNat = true) (h : LvI x M wk (some t)) : LvI x M wk none := by
  obtain ⟨h1, h2, h3, h4, h5⟩ := h
  refine ⟨h1, h2, h3, fun k hk => ?_, h5⟩
  rcases h4 k hk with k1 | k1 | k1
  · exact .inl k1
  · cases k1
    refine .inr (.inr fun s c he => ?_)
    have := hA (s : Int) ((hL _).2 ⟨s, c, rfl, he⟩)
    simpa using this
  · exact .inr (.inr k1)
theorem lvI_end {x : Dfa} {M : Nat → Bool} (h : LvI x M [] none) (s : Nat) : M s = true ↔ Liv x s := by
  obtain ⟨h1, h2, h3, h4, h5⟩ := h
  refine ⟨fun k => (h1 s k).1, fun k => ?_⟩
  induction k with
  | acc ha h0 => exact h2 _ _ ha h0
  | step he _ ih =>
    rcases h4 _ ih with k1 | k1 | k1
    · cases k1
    · cases k1
    · exact k1 _ _ he
end Df
end Go.Proofs.Ytgdfbjpahmnekaa
namespace Go.Proofs.Ytgdfbjpahmnekaa
open Go.RowKit
namespace Df

def kkA (x : Dfa) (s : Nat) : List Int := b4 (x.acc.getD s 0)
def kkB (x : Dfa) (P : Nat → Int) (s : Nat) : List Int := keyTo P s (x.next.getD s []) (x.next.getD s []).length
/-- the keys of round j, and the numbers behind it -/
def ptK (x : Dfa) (M : Nat → Bool) (n : Nat) : Nat → Nat → List UInt8
  | 0 => fun s => u8b (kkA x s)
  | j + 1 => fun s => u8b (kkB x (numP M (ptK x M n j) n) s)
def ptI (x : Dfa) (M : Nat → Bool) (n j : Nat) : Nat → Int := numP M (ptK x M n j) n
def ptC (x : Dfa) (M : Nat → Bool) (n j : Nat) : Nat := (seenTo M (ptK x M n j) n).length
theorem ptC_le (x : Dfa) (M : Nat → Bool) (n j : Nat) : ptC x M n j ≤ n := seenTo_len n
theorem nodup_sub {α : Type} [BEq α] [LawfulBEq α] : ∀ (l m : List α), l.Nodup → (∀ a ∈ l, a ∈ m) → l.length ≤ m.length
  | [], _, _, _ => Nat.zero_le _
  | a :: l, m, h, hs => by
    obtain ⟨h1, h2⟩ := List.nodup_cons.1 h
    have ha := hs a List.mem_cons_self
    have := nodup_sub l (m.erase a) h2 (fun b hb => (List.mem_erase_of_ne (fun e => h1 (by rw [← e]; exact hb))).2 (hs b (List.mem_cons_of_mem _ hb)))
    rw [List.length_erase_of_mem ha] at this
    have := List.length_pos_of_mem ha
    simp only [List.length_cons]
    omega
theorem u8b_head {x : Int} (h0 : 0 ≤ x) (h1 : x < 256) (r : List Int) : (u8b (b4 x ++ r)).head? = some (UInt8.ofNat x.toNat) := by
  simp [u8b, b4, show x % 256 = x by omega]
theorem head_inj {x y : Int} (hx : 0 ≤ x) (hx1 : x < 256) (hy : 0 ≤ y) (hy1 : y < 256) {r t : List Int} (h : u8b (b4 x ++ r) = u8b (b4 y ++ t)) : x = y := by
  have e := congrArg List.head? h
  rw [u8b_head hx hx1, u8b_head hy hy1] at e
  have e2 := congrArg UInt8.toNat (Option.some.inj e)
  simp at e2
  omega
/-- a round tells no less apart -/
theorem ptK_fine {x : Dfa} {M : Nat → Bool} {n j : Nat} (hn : n ≤ 200) {s t : Nat} (hs : s < n) (ht : t < n) (hms : M s = true) (hmt : M t = true) (h : ptK x M n (j + 1) s = ptK x M n (j + 1) t) : ptK x M n j s = ptK x M n j t := by
  have r1 := numP_range (M := M) (k := ptK x M n j) hs
  have r2 := numP_range (M := M) (k := ptK x M n j) ht
  have n1 : ¬ numP M (ptK x M n j) n s < 0 := fun e => by rw [numP_neg] at e; rw [hms] at e; cases e
  have n2 : ¬ numP M (ptK x M n j) n t < 0 := fun e => by rw [numP_neg] at e; rw [hmt] at e; cases e
  have h1 : numP M (ptK x M n j) n s = numP M (ptK x M n j) n t := by
    simp only [ptK, kkB, keyTo] at h
    exact head_inj (by omega) (by omega) (by omega) (by omega) h
  exact (numP_eq hs ht hms hmt).1 h1
theorem ptC_mono {x : Dfa} {M : Nat → Bool} {n : Nat} (hn : n ≤ 200) (j : Nat) : ptC x M n j ≤ ptC x M n (j + 1) := by
  have hst : ∀ b, ∃ i, b ∈ seenTo M (ptK x M n j) n → i < n ∧ M i = true ∧ ptK x M n j i = b := fun b => by
    by_cases h : b ∈ seenTo M (ptK x M n j) n
    · obtain ⟨i, hi⟩ := seenTo_from h
      exact ⟨i, fun _ => hi⟩
    · exact ⟨0, fun h2 => absurd h2 h⟩
  obtain ⟨f, hf⟩ := Classical.axiomOfChoice hst
  have h := nodup_sub ((seenTo M (ptK x M n j) n).map fun b => ptK x M n (j + 1) (f b)) (seenTo M (ptK x M n (j + 1)) n) (by
    refine List.pairwise_map.2 (List.Pairwise.imp_of_mem (fun {a b} ha hb hne e => hne ?_) (seenTo_nodup (M := M) (k := ptK x M n j) (s := n)))
    obtain ⟨h1, h2, h3⟩ := hf a ha
    obtain ⟨h4, h5, h6⟩ := hf b hb
    rw [← h3, ← h6]
    exact ptK_fine hn h1 h4 h2 h5 e) (fun a ha => by
    rw [List.mem_map] at ha
    obtain ⟨b, hb, rfl⟩ := ha
    obtain ⟨h1, h2, h3⟩ := hf b hb
    exact seenTo_mem h1 h2)
  rw [List.length_map] at h
  exact h
end Df
end Go.Proofs.Ytgdfbjpahmnekaa
namespace Go.Proofs.Ytgdfbjpahmnekaa
open Go.RowKit
namespace Cl
open Df Lr

def closedD (f : List Int → Bool) (T : List (List Int)) (k : Nat) (A0 : List (List Int)) (N : Nat) : Dfa := ⟨0, accsA f T k A0 N, rowsA f T k A0 N⟩
section
variable {f : List Int → Bool} {T : List (List Int)} {k : Nat} {A0 : List (List Int)} {N : Nat}
theorem disc_reach (h200 : (discA f T k A0 N).length ≤ N) {q : Nat} (hq : q < (discA f T k A0 N).length) : q < (discA f T k A0 q).length := by
  by_cases h : q < (discA f T k A0 q).length
  · exact h
  · have e := discA_end (f := f) (T := T) (k := k) (A0 := A0) (i := q) (by omega) (j := N) (by omega)
    rw [e] at hq
    omega
theorem disc_closed (h200 : (discA f T k A0 N).length ≤ N) {u : List Int} (hu : u ∈ discA f T k A0 N) {c : Nat} (hc : c < k) : rwT f T (u ++ [(c : Int)]) ∈ ks f T (discA f T k A0 N) := by
  obtain ⟨q, hq, e⟩ := List.getElem_of_mem hu
  exact discA_known N q (by omega) u (by rw [List.getElem?_eq_getElem hq, e]) (disc_reach h200 hq) c hc
theorem rows_200 (h200 : (discA f T k A0 N).length ≤ N) : rowsA f T k A0 N = (discA f T k A0 N).map (rowA f T k (discA f T k A0 N)) ∧ accsA f T k A0 N = (discA f T k A0 N).map fun u => if f u then 0 else -1 := by
  unfold rowsA accsA
  rw [List.take_of_length_le h200]
  exact ⟨rfl, rfl⟩
theorem ks_len (A : List (List Int)) : (ks f T A).length = A.length := by unfold ks; rw [List.length_map]
theorem closed_right (hA : OkA f T k A0) (h0 : 0 < A0.length) (hBD : ∀ A, OkA f T k A → A.length ≤ N) (hN : N ≤ 200) (hk : 1 ≤ k ∧ k ≤ 16) :
    Right (closedD f T k A0 N) ∧ Full (closedD f T k A0 N) ∧ (closedD f T k A0 N).width = k ∧ (closedD f T k A0 N).next.length = (discA f T k A0 N).length ∧ (closedD f T k A0 N).acc.length = (discA f T k A0 N).length := by
  have h200 := hBD _ (discA_ok hA N)
  obtain ⟨e1, e2⟩ := rows_200 h200
  have hp := (discA_to (f := f) (T := T) (k := k) (A0 := A0) (i := 0) (j := N) (by omega)).length_le
  have hpos : 0 < (discA f T k A0 N).length := Nat.lt_of_lt_of_le h0 hp
  have hn : (closedD f T k A0 N).next = (discA f T k A0 N).map (rowA f T k (discA f T k A0 N)) := e1
  have ha : (closedD f T k A0 N).acc = (discA f T k A0 N).map fun u => if f u then 0 else -1 := e2
  have hw : (closedD f T k A0 N).width = k := by
    unfold Dfa.width
    rw [hn]
    cases hd : discA f T k A0 N with
    | nil => rw [hd] at hpos; simp at hpos
    | cons u l => simp [rowA]
  have hv : ∀ r ∈ (closedD f T k A0 N).next, ∀ v ∈ r, 0 ≤ v ∧ v < (discA f T k A0 N).length := by
    intro r hr v hv
    rw [hn, List.mem_map] at hr
    obtain ⟨u, hu, rfl⟩ := hr
    unfold rowA at hv
    rw [List.mem_map] at hv
    obtain ⟨c, hc, rfl⟩ := hv
    rw [List.mem_range] at hc
    have h1 := List.idxOf_lt_length_of_mem (disc_closed h200 hu hc)
    rw [ks_len] at h1
    unfold valA
    omega
  refine ⟨⟨?_, ?_, ?_, ?_, ?_, ?_, ?_⟩, fun r hr v hv' => (hv r hr v hv').1, hw, by rw [hn, List.length_map], by rw [ha, List.length_map]⟩
  · rw [hn, List.length_map]; omega
  · rw [hn, ha, List.length_map, List.length_map]
  · rw [hw]; omega
  · intro r hr
    rw [hw]
    rw [hn, List.mem_map] at hr
    obtain ⟨u, hu, rfl⟩ := hr
    simp [rowA]
  · rw [hn, List.length_map]
    show (0 : Int) ≤ 0 ∧ (0 : Int) < _
    omega
  · intro v hv
    rw [ha, List.mem_map] at hv
    obtain ⟨u, hu, rfl⟩ := hv
    split <;> omega
  · intro r hr v hv'
    have := hv r hr v hv'
    rw [hn, List.length_map]
    omega
theorem idx_at {A : List (List Int)} {v : List Int} (h : rwT f T v ∈ ks f T A) : ∃ a, A[(ks f T A).idxOf (rwT f T v)]? = some a ∧ rwT f T a = rwT f T v := by
  have hl := List.idxOf_lt_length_of_mem h
  have h1 : (ks f T A)[(ks f T A).idxOf (rwT f T v)]? = some (rwT f T v) := by rw [List.getElem?_eq_getElem hl, List.getElem_idxOf hl]
  generalize (ks f T A).idxOf (rwT f T v) = i at h1 ⊢
  unfold ks at h1
  rw [List.getElem?_map] at h1
  cases ha : A[i]? with
  | none => rw [ha] at h1; simp at h1
  | some a => rw [ha] at h1; simp at h1; exact ⟨a, rfl, h1⟩
theorem closed_at (h200 : (discA f T k A0 N).length ≤ N) (hac : ∀ u v, rwT f T u = rwT f T v → f u = f v) {v : List Int} (hv : rwT f T v ∈ ks f T (discA f T k A0 N)) : atS (closedD f T k A0 N) ((ks f T (discA f T k A0 N)).idxOf (rwT f T v) : Int) = if f v then 0 else -1 := by
  obtain ⟨e1, e2⟩ := rows_200 h200
  obtain ⟨a, ha, hr⟩ := idx_at hv
  unfold atS
  rw [if_neg (by omega)]
  show ((accsA f T k A0 N)[((((ks f T (discA f T k A0 N)).idxOf (rwT f T v) : Nat) : Int)).toNat]?).getD (-1) = _
  rw [e2, Int.toNat_natCast, List.getElem?_map, ha]
  show (if f a = true then (0 : Int) else -1) = _
  rw [hac _ _ hr]
theorem closed_run (h200 : (discA f T k A0 N).length ≤ N) (hcg : ∀ u v (c : Nat), c < k → rwT f T u = rwT f T v → rwT f T (u ++ [(c : Int)]) = rwT f T (v ++ [(c : Int)])) :
    ∀ (u v : List Int), (∀ y ∈ u, 0 ≤ y ∧ y < (k : Int)) → rwT f T v ∈ ks f T (discA f T k A0 N) →
      rwT f T (v ++ u) ∈ ks f T (discA f T k A0 N) ∧ runS (closedD f T k A0 N) ((ks f T (discA f T k A0 N)).idxOf (rwT f T v) : Int) u = ((ks f T (discA f T k A0 N)).idxOf (rwT f T (v ++ u)) : Int)
  | [], v, _, hv => by
    rw [List.append_nil]
    exact ⟨hv, rfl⟩
  | y :: u, v, hu, hv => by
    obtain ⟨e1, e2⟩ := rows_200 h200
    have hy := hu y List.mem_cons_self
    obtain ⟨c, hc⟩ : ∃ c : Nat, y = (c : Int) := ⟨y.toNat, by omega⟩
    subst hc
    have hck : c < k := by omega
    obtain ⟨a, ha, hg2⟩ := idx_at hv
    have hcl := disc_closed h200 (List.mem_of_getElem? ha) hck
    rw [hcg _ _ c hck hg2] at hcl
    obtain ⟨k1, k2⟩ := closed_run h200 hcg u (v ++ [(c : Int)]) (fun z hz => hu z (List.mem_cons_of_mem _ hz)) hcl
    rw [List.append_assoc] at k1 k2
    refine ⟨k1, ?_⟩
    have ht : toS (closedD f T k A0 N) ((ks f T (discA f T k A0 N)).idxOf (rwT f T v) : Int) c = ((ks f T (discA f T k A0 N)).idxOf (rwT f T (v ++ [(c : Int)])) : Int) := by
      unfold toS
      rw [if_neg (by omega)]
      show (((rowsA f T k A0 N)[((((ks f T (discA f T k A0 N)).idxOf (rwT f T v) : Nat) : Int)).toNat]?.getD [])[c]?).getD (-1) = _
      rw [e1, Int.toNat_natCast, List.getElem?_map, ha]
      show ((rowA f T k (discA f T k A0 N) a)[c]?).getD (-1) = _
      unfold rowA
      rw [List.getElem?_map, List.getElem?_range hck]
      show valA f T _ _ = _
      unfold valA
      rw [hcg _ _ c hck hg2]
    show runS _ (toS _ _ (c : Int).toNat) u = _
    rw [Int.toNat_natCast, ht]
    exact k2
end
/-- one test, the empty word -/
theorem rw1 (f : List Int → Bool) (u : List Int) : rwT f [[]] u = u8b [if f u then 1 else 0] := by simp [rwT, bitsT]
theorem rw1_inj {f : List Int → Bool} {u v : List Int} : rwT f [[]] u = rwT f [[]] v ↔ f u = f v := by
  rw [rw1, rw1]
  constructor
  · intro h
    cases hu : f u <;> cases hv : f v <;> simp [hu, hv, u8b] at h ⊢
  · intro h; rw [h]
theorem ok1 (f : List Int → Bool) (k : Nat) : OkA f [[]] k [[]] := ⟨by simp [ks], fun u hu => by simp at hu; subst hu; simp, fun u hu y hy => by simp at hu; subst hu; cases hy⟩
theorem bd1 (f : List Int → Bool) (k : Nat) (A : List (List Int)) (h : OkA f [[]] k A) : A.length ≤ 2 := by
  have hsub : ∀ x ∈ ks f [[]] A, x ∈ [u8b [1], u8b [0]] := by
    intro x hx
    unfold ks at hx
    rw [List.mem_map] at hx
    obtain ⟨u, _, rfl⟩ := hx
    rw [rw1]
    cases f u <;> simp
  have h1 := nodup_sub _ _ h.nd hsub
  rw [ks_len] at h1
  exact h1
/-- a function that goes by itself: the closed automaton answers as it does -/
theorem run1 {f : List Int → Bool} {k N : Nat} (hN : 2 ≤ N) (hcg : ∀ u v (c : Nat), f u = f v → f (u ++ [(c : Int)]) = f (v ++ [(c : Int)])) (u : List Int) (hu : ∀ y ∈ u, 0 ≤ y ∧ y < (k : Int)) : decide (0 ≤ atS (closedD f [[]] k [[]] N) (runS (closedD f [[]] k [[]] N) 0 u)) = f u := by
  have h200 : (discA f [[]] k [[]] N).length ≤ N := Nat.le_trans (bd1 f k _ (discA_ok (ok1 f k) N)) hN
  have hp := discA_to (f := f) (T := [[]]) (k := k) (A0 := [[]]) (i := 0) (j := N) (by omega)
  obtain ⟨t, ht⟩ := hp
  have hd : discA f [[]] k [[]] N = [] :: t := by rw [← ht]; rfl
  have hi : (ks f [[]] (discA f [[]] k [[]] N)).idxOf (rwT f [[]] []) = 0 := by rw [hd]; simp [ks]
  have hm : rwT f [[]] [] ∈ ks f [[]] (discA f [[]] k [[]] N) := by rw [hd]; simp [ks]
  have hc2 : ∀ u v (c : Nat), c < k → rwT f [[]] u = rwT f [[]] v → rwT f [[]] (u ++ [(c : Int)]) = rwT f [[]] (v ++ [(c : Int)]) := by
    intro u v c _ h
    rw [rw1_inj] at h ⊢
    exact hcg u v c h
  have hac : ∀ u v, rwT f [[]] u = rwT f [[]] v → f u = f v := fun u v h => by rw [rw1_inj] at h; exact h
  have hrun := closed_run h200 hc2 u [] hu hm
  obtain ⟨k1, k2⟩ := hrun
  rw [hi] at k2
  rw [show ((0 : Nat) : Int) = 0 from rfl] at k2
  rw [k2, closed_at h200 hac k1]
  rw [List.nil_append]
  cases f u <;> rfl
end Cl
end Go.Proofs.Ytgdfbjpahmnekaa
namespace Go.Proofs.Ytgdfbjpahmnekaa
open Go.RowKit
namespace Df

/-- is there nothing behind t -/
def deadP (P : Nat → Int) (t : Int) : Prop := t < 0 ∨ P t.toNat < 0
instance (P : Nat → Int) (t : Int) : Decidable (deadP P t) := by unfold deadP; infer_instance
def stepS (P : Nat → Int) (S : List Nat) (t : Int) : List Nat := if deadP P t ∨ P t.toNat ∈ S.map P then S else S ++ [t.toNat]
def valS (P : Nat → Int) (S : List Nat) (t : Int) : Int := if deadP P t then -1 else ((S.map P).idxOf (P t.toNat) : Int)
/-- the states that have come up when i of them have been walked -/
def disc (x : Dfa) (P : Nat → Int) : Nat → List Nat
  | 0 => [x.start.toNat]
  | i + 1 => match (disc x P i)[i]? with
    | none => disc x P i
    | some s => (x.next.getD s []).foldl (stepS P) (disc x P i)
structure DiscOk (x : Dfa) (P : Nat → Int) (n : Nat) (S : List Nat) : Prop where
  lt : ∀ s ∈ S, s < n ∧ 0 ≤ P s ∧ P s < n
  nd : (S.map P).Nodup
theorem DiscOk.len {x : Dfa} {P : Nat → Int} {n : Nat} {S : List Nat} (h : DiscOk x P n S) : S.length ≤ n := by
  have h2 := nodup_sub (S.map P) ((List.range n).map Int.ofNat) h.nd (fun a ha => by
    rw [List.mem_map] at ha
    obtain ⟨s, hs, rfl⟩ := ha
    have := h.lt s hs
    rw [List.mem_map]
    exact ⟨(P s).toNat, by rw [List.mem_range]; omega, by show ((P s).toNat : Int) = _; omega⟩)
  simp at h2
  exact h2
theorem stepS_prefix (P : Nat → Int) (S : List Nat) (t : Int) : S <+: stepS P S t := by
  unfold stepS
  split
  · exact List.prefix_refl _
  · exact List.prefix_append _ _
theorem foldS_prefix (P : Nat → Int) : ∀ (r : List Int) (S : List Nat), S <+: r.foldl (stepS P) S
  | [], S => List.prefix_refl _
  | t :: r, S => (stepS_prefix P S t).trans (foldS_prefix P r (stepS P S t))
theorem stepS_ok {x : Dfa} {P : Nat → Int} {n : Nat} {S : List Nat} {t : Int} (hP : ∀ k, k < n → P k < n) (ht : t < n) (h : DiscOk x P n S) : DiscOk x P n (stepS P S t) := by
  unfold stepS
  split
  · exact h
  · rename_i hc
    have h1 : ¬ deadP P t := fun e => hc (.inl e)
    have h2 : P t.toNat ∉ S.map P := fun e => hc (.inr e)
    unfold deadP at h1
    refine ⟨fun s hs => ?_, ?_⟩
    · rcases List.mem_append.1 hs with hs | hs
      · exact h.lt s hs
      · simp at hs
        subst hs
        have := hP t.toNat (by omega)
        omega
    · rw [List.map_append]
      exact List.nodup_append.2 ⟨h.nd, by simp, fun a ha b hb e => by simp at hb; subst hb; subst e; exact h2 ha⟩
theorem stepS_mem {P : Nat → Int} {S : List Nat} {t : Int} (h : ¬ deadP P t) : P t.toNat ∈ (stepS P S t).map P := by
  unfold stepS
  split
  · rename_i hc
    rcases hc with hc | hc
    · exact absurd hc h
    · exact hc
  · simp
/-- a value stays when more states come up -/
theorem valS_prefix {P : Nat → Int} {S S' : List Nat} {t : Int} (hp : S <+: S') (h : deadP P t ∨ P t.toNat ∈ S.map P) : valS P S' t = valS P S t := by
  unfold valS
  by_cases hd : deadP P t
  · rw [if_pos hd, if_pos hd]
  · rw [if_neg hd, if_neg hd]
    rcases h with h | h
    · exact absurd h hd
    · obtain ⟨u, rfl⟩ := hp
      rw [List.map_append, List.idxOf_append, if_pos h]
theorem foldS_ok {x : Dfa} {P : Nat → Int} {n : Nat} (hP : ∀ k, k < n → P k < n) : ∀ (r : List Int) (S : List Nat), (∀ t ∈ r, t < n) → DiscOk x P n S → DiscOk x P n (r.foldl (stepS P) S)
  | [], _, _, h => h
  | t :: r, S, hr, h => foldS_ok hP r _ (fun u hu => hr u (List.mem_cons_of_mem _ hu)) (stepS_ok hP (hr t List.mem_cons_self) h)
theorem disc_prefix (x : Dfa) (P : Nat → Int) (i : Nat) : disc x P i <+: disc x P (i + 1) := by
  show _ <+: (match (disc x P i)[i]? with | none => _ | some s => _)
  cases (disc x P i)[i]? with
  | none => exact List.prefix_refl _
  | some s => exact foldS_prefix _ _ _
theorem disc_to (x : Dfa) (P : Nat → Int) {i : Nat} : ∀ {j : Nat}, i ≤ j → disc x P i <+: disc x P j
  | 0, h => by rw [show i = 0 by omega]; exact List.prefix_refl _
  | j + 1, h => by
    by_cases e : i = j + 1
    · subst e; exact List.prefix_refl _
    · exact (disc_to x P (j := j) (by omega)).trans (disc_prefix x P j)
theorem disc_end (x : Dfa) (P : Nat → Int) {i : Nat} (h : (disc x P i).length ≤ i) : ∀ {j : Nat}, i ≤ j → disc x P j = disc x P i
  | 0, h2 => by rw [show i = 0 by omega]
  | j + 1, h2 => by
    by_cases e : i = j + 1
    · rw [e]
    · have ih := disc_end x P h (j := j) (by omega)
      show (match (disc x P j)[j]? with | none => _ | some s => _) = _
      rw [ih, List.getElem?_eq_none (by omega)]
end Df
end Go.Proofs.Ytgdfbjpahmnekaa
namespace Go.Proofs.Ytgdfbjpahmnekaa
open Go.RowKit
namespace Df

/-- t is known: dead, or its part has come up -/
def known (P : Nat → Int) (S : List Nat) (t : Int) : Prop := deadP P t ∨ P t.toNat ∈ S.map P
theorem known_prefix {P : Nat → Int} {S S' : List Nat} {t : Int} (hp : S <+: S') (h : known P S t) : known P S' t := by
  rcases h with h | h
  · exact .inl h
  · obtain ⟨u, rfl⟩ := hp
    exact .inr (by rw [List.map_append]; exact List.mem_append.2 (.inl h))
theorem known_step (P : Nat → Int) (S : List Nat) (t : Int) : known P (stepS P S t) t := by
  by_cases h : deadP P t
  · exact .inl h
  · exact .inr (stepS_mem h)
theorem known_fold (P : Nat → Int) : ∀ (r : List Int) (S : List Nat) (t : Int), t ∈ r → known P (r.foldl (stepS P) S) t
  | t' :: r, S, t, h => by
    rcases List.mem_cons.1 h with rfl | h
    · exact known_prefix (foldS_prefix P r _) (known_step P S t)
    · exact known_fold P r _ t h
/-- the row of a state, by what has come up -/
def rowC (x : Dfa) (P : Nat → Int) (S : List Nat) (s : Nat) : List Int := (x.next.getD s []).map (valS P S)
theorem rowC_prefix {x : Dfa} {P : Nat → Int} {S S' : List Nat} {s : Nat} (hp : S <+: S') (h : ∀ t ∈ x.next.getD s [], known P S t) : rowC x P S' s = rowC x P S s := by
  unfold rowC
  exact List.map_congr_left fun t ht => valS_prefix hp (h t ht)
theorem take_prefix {α : Type} {S S' : List α} (hp : S <+: S') {i : Nat} (hi : i ≤ S.length) : S'.take i = S.take i := by
  obtain ⟨u, rfl⟩ := hp
  rw [List.take_append_of_le_length hi]
theorem get_prefix {α : Type} {S S' : List α} (hp : S <+: S') {i : Nat} {s : α} (h : S[i]? = some s) : S'[i]? = some s := by
  obtain ⟨u, rfl⟩ := hp
  have := (List.getElem?_eq_some_iff.1 h).1
  rw [List.getElem?_append_left this]; exact h
/-- behind i rows: what the walked states' symbols lead to is known -/
theorem disc_known (x : Dfa) (P : Nat → Int) : ∀ (i q : Nat), q < i → ∀ s, (disc x P i)[q]? = some s → q < (disc x P q).length → ∀ t ∈ x.next.getD s [], known P (disc x P i) t
  | 0, q, h, _, _, _ => by omega
  | i + 1, q, h, s, hs, hl => by
    intro t ht
    have hs' : (disc x P q)[q]? = some ((disc x P q)[q]'hl) := List.getElem?_eq_getElem hl
    have e1 := get_prefix (disc_to x P (i := q) (j := i + 1) (by omega)) hs'
    rw [e1] at hs
    cases hs
    by_cases e : q = i
    · subst e
      show known P (match (disc x P q)[q]? with | none => _ | some s => _) t
      rw [hs']
      exact known_fold P _ _ t ht
    · exact known_prefix (disc_prefix x P i) (disc_known x P i q (by omega) _ (get_prefix (disc_to x P (i := q) (j := i) (by omega)) hs') hl t ht)
/-- the rows so far -/
def rowsC (x : Dfa) (P : Nat → Int) (i : Nat) : List (List Int) := ((disc x P i).take i).map (rowC x P (disc x P i))
def accsC (x : Dfa) (P : Nat → Int) (i : Nat) : List Int := ((disc x P i).take i).map fun s => x.acc.getD s 0
theorem rowsC_next {x : Dfa} {P : Nat → Int} {i s : Nat} (hal : ∀ q, q < i → q < (disc x P q).length) (h : (disc x P i)[i]? = some s) : rowsC x P (i + 1) = rowsC x P i ++ [rowC x P (disc x P (i + 1)) s] := by
  have hp := disc_prefix x P i
  have h1 := get_prefix hp h
  obtain ⟨hl, e1⟩ := List.getElem?_eq_some_iff.1 h
  obtain ⟨hl1, e2⟩ := List.getElem?_eq_some_iff.1 h1
  unfold rowsC
  rw [List.take_succ_eq_append_getElem hl1, List.map_append, take_prefix hp (Nat.le_of_lt hl), e2]
  refine congrArg (· ++ _) (List.map_congr_left fun s' hs' => ?_)
  obtain ⟨q, hq, e3⟩ := List.getElem_of_mem hs'
  rw [List.length_take] at hq
  rw [List.getElem_take] at e3
  exact rowC_prefix hp (disc_known x P i q (by omega) s' (by rw [List.getElem?_eq_getElem (by omega), e3]) (hal q (by omega)))
theorem accsC_next {x : Dfa} {P : Nat → Int} {i s : Nat} (h : (disc x P i)[i]? = some s) : accsC x P (i + 1) = accsC x P i ++ [x.acc.getD s 0] := by
  have hp := disc_prefix x P i
  have h1 := get_prefix hp h
  obtain ⟨hl, e1⟩ := List.getElem?_eq_some_iff.1 h
  obtain ⟨hl1, e2⟩ := List.getElem?_eq_some_iff.1 h1
  unfold accsC
  rw [List.take_succ_eq_append_getElem hl1, List.map_append, take_prefix hp (Nat.le_of_lt hl), e2]
  rfl
/-- the canonical automaton, by the parts -/
def canonD (x : Dfa) (P : Nat → Int) (n : Nat) : Dfa := if P x.start.toNat < 0 then ⟨0, [-1], [List.replicate x.width (-1)]⟩ else ⟨0, accsC x P n, rowsC x P n⟩
theorem rowsC_end {x : Dfa} {P : Nat → Int} {i n : Nat} (h : (disc x P i).length ≤ i) (hi : i ≤ n) : rowsC x P n = rowsC x P i ∧ accsC x P n = accsC x P i := by
  have e := disc_end x P h hi
  unfold rowsC accsC
  rw [e, List.take_of_length_le (by omega), List.take_of_length_le h]
  exact ⟨rfl, rfl⟩
end Df
end Go.Proofs.Ytgdfbjpahmnekaa
namespace Go.Proofs.Ytgdfbjpahmnekaa
open Go.RowKit
namespace Df

theorem width_at {x : Dfa} (h : 0 < x.next.length) : (x.next[0]'h).length = x.width := by
  obtain ⟨st, ac, nx⟩ := x
  cases nx with
  | nil => simp at h
  | cons r l => rfl

end Df
end Go.Proofs.Ytgdfbjpahmnekaa
namespace Go.Proofs.Ytgdfbjpahmnekaa
open Go.RowKit

end Go.Proofs.Ytgdfbjpahmnekaa
namespace Go.Proofs.Ytgdfbjpahmnekaa
open Go.RowKit

/-- a world behind w0: what was there is as it was -/
structure Aft (w0 : World) where
  w : World
  bel : Below w0.heap.size w0 w
instance (w0 : World) : Nonempty (Aft w0) := ⟨⟨w0, Below.refl _ _⟩⟩
theorem Calls.after {P : Program} {f : FuncId} {args : Array Value} {w0 : World} {x : Aft w0} {v : Value} (h : Calls P f args x.w fun e w' => e = .returned v ∧ Below x.w.heap.size x.w w') :
    Calls P f args x.w fun e w'' => e = .returned v ∧ ∃ y : Aft w0, w'' = y.w :=
  h.mono fun _ w'' ⟨he, hb⟩ => ⟨he, ⟨w'', x.bel.trans (hb.mono x.bel.size)⟩, rfl⟩
end Go.Proofs.Ytgdfbjpahmnekaa
namespace Go.Proofs.Ytgdfbjpahmnekaa
open Go.RowKit
namespace Df

end Df
end Go.Proofs.Ytgdfbjpahmnekaa
namespace Go.Proofs.Ytgdfbjpahmnekaa
open Go.RowKit
namespace Df

theorem elIntsP : ElemT Try.prog 23 22 1 24 := ElemT.mk' (z := .slice none 0 0) (by kernel_rfl) (by kernel_rfl) rfl (by decide)
/-- behind an append to another row -/
theorem own_otherP {w w' : World} {B : Nat} {e : TypeId} {s : Nat} {v : Value} {n : Nat} {xs : List Value} {row : Option Nat} (h : w.ownsRow B e s v n xs) (hg : w.grownBy w' row) (hne : ∀ k, v.ownBlock = some k → row ≠ some k) : w'.ownsRow B e s v n xs := by
  have hlt := h.lt
  obtain ⟨h1, h2⟩ := h
  refine ⟨h1, ?_⟩
  rcases h2 with h2 | ⟨g, cap, cur, rfl, hg', hh, r⟩
  · exact .inl h2
  · exact .inr ⟨g, cap, cur, rfl, hg', (hg.block g (hlt g rfl).2 (fun e => hne g rfl e.symm)).trans hh, r⟩
/-- the blocks where the rows' elements lie -/
def PT (B : Nat) (vR vA : Value) : Nat → Prop := fun k => B ≤ k ∧ vR.ownBlock ≠ some k ∧ vA.ownBlock ≠ some k
structure PS (B : Nat) (w1 : World) (r : List Int) (m : Int) (LR : List (List Int)) (LA : List Int) (vR vA : Value) (oc : Option Value) (ob oa : Option Nat) (W : World) : Prop where
  bel : Below B w1 W
  le : B ≤ w1.heap.size
  rows : ∃ xs, W.ownsRow B 22 1 vR LR.length xs ∧ RdAll (PT B vR vA) W (LR.map D.ints) xs
  acc : W.ownsRow B 3 1 vA LA.length (ints LA)
  apart : ∀ k, vR.ownBlock = some k → vA.ownBlock ≠ some k
  cl : ∀ v, oc = some v → Rd (PT B vR vA) W (D.ints r) [v]
  bB : ∀ g, ob = some g → PT B vR vA g ∧ ∃ v, oc = some v ∧ W.heap[g]? = some (.cells #[v] 22 (0, 0))
  bA : ∀ g, oa = some g → PT B vR vA g ∧ W.heap[g]? = some (.cells #[.int .i64 m] 3 (0, 0))
section
variable {B : Nat} {w1 : World} {r : List Int} {m : Int} {LR : List (List Int)} {LA : List Int} {vR vA : Value} {oc : Option Value} {ob oa : Option Nat} {W W' : World}
theorem PS.keep (h : PS B w1 r m LR LA vR vA oc ob oa W) (hb : Below W.heap.size W W') : PS B w1 r m LR LA vR vA oc ob oa W' := by
  obtain ⟨h1, h2, ⟨xs, h3, h4⟩, h5, h6, h7, h8, h9⟩ := h
  exact ⟨h1.trans (hb.mono (Nat.le_trans h2 h1.size)), h2, ⟨xs, own_keep h3 hb, h4.below hb⟩, own_keep h5 hb, h6, fun v e => (h7 v e).below hb, fun g e => by
    obtain ⟨k1, v, k2, k3⟩ := h8 g e
    exact ⟨k1, v, k2, bx_keep k3 hb⟩, fun g e => ⟨(h9 g e).1, bx_keep (h9 g e).2 hb⟩⟩
theorem PS.size (h : PS B w1 r m LR LA vR vA oc ob oa W) : B ≤ W.heap.size := Nat.le_trans h.le h.bel.size
theorem PS.fresh (h : PS B w1 r m LR LA vR vA oc ob oa W) {g : Nat} (hg : W.heap.size ≤ g) : PT B vR vA g := by
  obtain ⟨xs, h3, _⟩ := h.rows
  refine ⟨Nat.le_trans h.size hg, fun e => ?_, fun e => ?_⟩
  · have := (h3.lt g e).2; omega
  · have := (h.acc.lt g e).2; omega
theorem PS.call {v : Value} {n : Nat} (h : PS B w1 r m LR LA vR vA oc none oa W) (hb : Below W.heap.size W W') (ho : W'.ownsRow W.heap.size 3 1 v n (ints r)) (hn : n = r.length) : PS B w1 r m LR LA vR vA (some v) none oa W' := by
  have hk := h.keep hb
  refine { hk with cl := fun v' e => ?_, bB := fun g e => by cases e }
  cases e
  exact rd_of_own ho ((rdAll_ints r _).2 rfl) (by simpa using hn.symm) (fun k e => h.fresh (ho.lt k e).1)
theorem PS.bltB {v : Value} {g : Nat} (h : PS B w1 r m LR LA vR vA (some v) none oa W) (hg : g = W.heap.size) : PS B w1 r m LR LA vR vA (some v) (some g) oa (W.alloc (.cells #[v] 22)) := by
  have hk := h.keep (W' := W.alloc (.cells #[v] 22)) ((Below.refl _ _).alloc (Nat.le_refl _) _)
  subst hg
  exact { hk with bB := fun g e => by cases e; exact ⟨h.fresh (Nat.le_refl _), v, rfl, bx_new _ _ _ rfl⟩ }
theorem PS.bltA {g : Nat} (h : PS B w1 r m LR LA vR vA oc ob none W) (hg : g = W.heap.size) : PS B w1 r m LR LA vR vA oc ob (some g) (W.alloc (.cells #[.int .i64 m] 3)) := by
  have hk := h.keep (W' := W.alloc (.cells #[.int .i64 m] 3)) ((Below.refl _ _).alloc (Nat.le_refl _) _)
  subst hg
  exact { hk with bA := fun g e => by cases e; exact ⟨h.fresh (Nat.le_refl _), bx_new _ _ _ rfl⟩ }
theorem PS.appR {v v' : Value} {xs : List Value} {g : Nat} {N : List (List Int)} (h : PS B w1 r m LR LA vR vA (some v) (some g) oa W) (hxs : RdAll (PT B vR vA) W (LR.map D.ints) xs) (ho : W'.ownsRow B 22 1 v' (LR.length + 1) (xs ++ [v])) (hg : W.grownBy W' vR.ownBlock) (hat : v'.ownBlock = vR.ownBlock ∨ ∃ k, v'.ownBlock = some k ∧ W.heap.size ≤ k) (hN : N = LR ++ [r]) :
    PS B w1 r m N LA v' vA none none oa W' := by
  subst hN
  obtain ⟨h1, h2, ⟨xs0, h3, h4⟩, h5, h6, h7, h8, h9⟩ := h
  have hlt := h5.lt
  have hT : ∀ k, PT B vR vA k → k < W.heap.size → PT B v' vA k ∧ W'.heap[k]? = W.heap[k]? := by
    rintro k ⟨a1, a2, a3⟩ hk
    refine ⟨⟨a1, ?_, a3⟩, hg.block k hk (fun e => a2 e.symm)⟩
    rcases hat with e | ⟨j, e, hj⟩
    · rw [e]; exact a2
    · rw [e]; intro e; cases e; omega
  refine ⟨h1.grown hg (Nat.le_trans h2 h1.size) (fun k e => (h3.lt k e).1), h2, ⟨xs ++ [v], by rw [List.length_append]; exact ho, ?_⟩, own_otherP h5 hg (fun k e e' => h6 k e' e), ?_, (fun _ e => by cases e), (fun _ e => by cases e), fun g' e => ?_⟩
  · rw [List.map_append]
    exact RdAll.append (RdAll.keep hT _ _ hxs) (RdAll.one (Rd.keep hT _ _ (h7 v rfl)))
  · intro k e
    rcases hat with e' | ⟨j, e', hj⟩
    · exact h6 k (e'.symm.trans e)
    · rw [e'] at e; cases e
      intro e; have := (hlt k e).2; omega
  · obtain ⟨k1, k2⟩ := h9 g' e
    have hgl := (Array.getElem?_eq_some_iff.1 k2).1
    obtain ⟨k3, k4⟩ := hT g' k1 hgl
    exact ⟨k3, k4.trans k2⟩
theorem PS.appA {v' : Value} {g : Nat} {N : List Int} (h : PS B w1 r m LR LA vR vA oc ob (some g) W) (ho : W'.ownsRow B 3 1 v' (LA.length + 1) (ints LA ++ [.int .i64 m])) (hg : W.grownBy W' vA.ownBlock) (hat : v'.ownBlock = vA.ownBlock ∨ ∃ k, v'.ownBlock = some k ∧ W.heap.size ≤ k) (hN : N = LA ++ [m]) :
    PS B w1 r m LR N vR v' oc ob none W' := by
  subst hN
  obtain ⟨h1, h2, ⟨xs0, h3, h4⟩, h5, h6, h7, h8, h9⟩ := h
  have hlt := h3.lt
  have hT : ∀ k, PT B vR vA k → k < W.heap.size → PT B vR v' k ∧ W'.heap[k]? = W.heap[k]? := by
    rintro k ⟨a1, a2, a3⟩ hk
    refine ⟨⟨a1, a2, ?_⟩, hg.block k hk (fun e => a3 e.symm)⟩
    rcases hat with e | ⟨j, e, hj⟩
    · rw [e]; exact a3
    · rw [e]; intro e; cases e; omega
  refine ⟨h1.grown hg (Nat.le_trans h2 h1.size) (fun k e => (h5.lt k e).1), h2, ⟨xs0, own_otherP h3 hg (fun k e e' => h6 k e e'), RdAll.keep hT _ _ h4⟩, ?_, ?_, fun v e => Rd.keep hT _ _ (h7 v e), fun g' e => ?_, (fun _ e => by cases e)⟩
  · rw [List.length_append]; simpa [ints] using ho
  · intro k e
    rcases hat with e' | ⟨j, e', hj⟩
    · rw [e']; exact h6 k e
    · rw [e']; intro e2; cases e2; have := (hlt k e).2; omega
  · obtain ⟨k1, v, k0, k2⟩ := h8 g' e
    have hgl := (Array.getElem?_eq_some_iff.1 k2).1
    obtain ⟨k3, k4⟩ := hT g' k1 hgl
    exact ⟨k3, v, k0, k4.trans k2⟩
theorem PS.nil (B : Nat) (w1 : World) (r : List Int) (m : Int) (h : B ≤ w1.heap.size) : PS B w1 r m [] [] (.slice none 0 0) (.slice none 0 0) none none none w1 :=
  ⟨Below.refl _ _, h, ⟨[], World.ownsRow_nil _ _ _ _, by simp [RdAll]⟩, by simpa [ints] using World.ownsRow_nil w1 B 3 1, (fun _ e => by cases e), (fun _ e => by cases e), (fun _ e => by cases e), (fun _ e => by cases e)⟩
/-- behind a store into a box below the rows -/
theorem PS.store (h : PS B w1 r m LR LA vR vA oc ob oa W) {b : Nat} (hg : W.grownBy W' (some b)) (hb : b < B) (r' : List Int) (m' : Int) : PS B W' r' m' LR LA vR vA none none none W' := by
  obtain ⟨h1, h2, ⟨xs, h3, h4⟩, h5, h6, h7, h8, h9⟩ := h
  refine ⟨Below.refl _ _, Nat.le_trans (Nat.le_trans h2 h1.size) hg.size, ⟨xs, own_otherP h3 hg (fun k e e' => ?_), RdAll.keep (fun k hk hlt => ⟨hk, hg.block k hlt (fun e => ?_)⟩) _ _ h4⟩, own_otherP h5 hg (fun k e e' => ?_), h6, (fun _ e => by cases e), (fun _ e => by cases e), (fun _ e => by cases e)⟩
  · cases e'; have := (h3.lt _ e).1; omega
  · cases e; have := hk.1; omega
  · cases e'; have := (h5.lt _ e).1; omega
theorem PS.next (h : PS B w1 r m LR LA vR vA none none none W) (w2 : World) (r' : List Int) (m' : Int) : PS B W r' m' LR LA vR vA none none none W := by
  obtain ⟨h1, h2, h3, h5, h6, h7, h8, h9⟩ := h
  exact ⟨Below.refl _ _, Nat.le_trans h2 h1.size, h3, h5, h6, (fun _ e => by cases e), (fun _ e => by cases e), (fun _ e => by cases e)⟩
end
end Df
end Go.Proofs.Ytgdfbjpahmnekaa
namespace Go.Proofs.Ytgdfbjpahmnekaa
open Go.RowKit
namespace Df

/-- the blocks where the rows' elements lie -/
def PTX (X : Nat → Prop) (B : Nat) (vR vA : Value) : Nat → Prop := fun k => B ≤ k ∧ ¬ X k ∧ vR.ownBlock ≠ some k ∧ vA.ownBlock ≠ some k
structure PX (X : Nat → Prop) (B : Nat) (w1 : World) (r : List Int) (m : Int) (LR : List (List Int)) (LA : List Int) (vR vA : Value) (oc : Option Value) (ob oa : Option Nat) (W : World) : Prop where
  bel : Below B w1 W
  le : B ≤ w1.heap.size
  rows : ∃ xs, W.ownsRow B 22 1 vR LR.length xs ∧ RdAll (PTX X B vR vA) W (LR.map D.ints) xs
  acc : W.ownsRow B 3 1 vA LA.length (ints LA)
  apart : ∀ k, vR.ownBlock = some k → vA.ownBlock ≠ some k
  xr : ∀ k, vR.ownBlock = some k → ¬ X k
  xa : ∀ k, vA.ownBlock = some k → ¬ X k
  px : ∀ k, X k → k < w1.heap.size ∧ W.heap[k]? = w1.heap[k]?
  cl : ∀ v, oc = some v → Rd (PTX X B vR vA) W (D.ints r) [v]
  bB : ∀ g, ob = some g → PTX X B vR vA g ∧ ∃ v, oc = some v ∧ W.heap[g]? = some (.cells #[v] 22 (0, 0))
  bA : ∀ g, oa = some g → PTX X B vR vA g ∧ W.heap[g]? = some (.cells #[.int .i64 m] 3 (0, 0))
section
variable {X : Nat → Prop} {B : Nat} {w1 : World} {r : List Int} {m : Int} {LR : List (List Int)} {LA : List Int} {vR vA : Value} {oc : Option Value} {ob oa : Option Nat} {W W' : World}
theorem PX.size (h : PX X B w1 r m LR LA vR vA oc ob oa W) : B ≤ W.heap.size := Nat.le_trans h.le h.bel.size
theorem PX.xlt (h : PX X B w1 r m LR LA vR vA oc ob oa W) {k : Nat} (hk : X k) : k < W.heap.size := Nat.lt_of_lt_of_le (h.px k hk).1 h.bel.size
theorem PX.keep (h : PX X B w1 r m LR LA vR vA oc ob oa W) (hb : Below W.heap.size W W') : PX X B w1 r m LR LA vR vA oc ob oa W' := by
  have hx := fun k hk => h.xlt (k := k) hk
  obtain ⟨h1, h2, ⟨xs, h3, h4⟩, h5, h6, h10, h11, h12, h7, h8, h9⟩ := h
  exact ⟨h1.trans (hb.mono (Nat.le_trans h2 h1.size)), h2, ⟨xs, own_keep h3 hb, h4.below hb⟩, own_keep h5 hb, h6, h10, h11, fun k hk => ⟨(h12 k hk).1, (hb.block k (hx k hk)).trans (h12 k hk).2⟩, fun v e => (h7 v e).below hb, fun g e => by
    obtain ⟨k1, v, k2, k3⟩ := h8 g e
    exact ⟨k1, v, k2, bx_keep k3 hb⟩, fun g e => ⟨(h9 g e).1, bx_keep (h9 g e).2 hb⟩⟩
theorem PX.fresh (h : PX X B w1 r m LR LA vR vA oc ob oa W) {g : Nat} (hg : W.heap.size ≤ g) : PTX X B vR vA g := by
  have hx := fun hk => h.xlt (k := g) hk
  obtain ⟨xs, h3, _⟩ := h.rows
  refine ⟨Nat.le_trans h.size hg, fun e => ?_, fun e => ?_, fun e => ?_⟩
  · have := hx e; omega
  · have := (h3.lt g e).2; omega
  · have := (h.acc.lt g e).2; omega
/-- the row of this round, read in W -/
theorem PX.call {v : Value} (h : PX X B w1 r m LR LA vR vA none none none W) (hv : Rd (PTX X B vR vA) W (D.ints r) [v]) : PX X B w1 r m LR LA vR vA (some v) none none W :=
  { h with cl := fun v' e => by cases e; exact hv, bB := fun g e => by cases e }
theorem PX.bltB {v : Value} {g : Nat} (h : PX X B w1 r m LR LA vR vA (some v) none oa W) (hg : g = W.heap.size) : PX X B w1 r m LR LA vR vA (some v) (some g) oa (W.alloc (.cells #[v] 22)) := by
  have hk := h.keep (W' := W.alloc (.cells #[v] 22)) ((Below.refl _ _).alloc (Nat.le_refl _) _)
  subst hg
  exact { hk with bB := fun g e => by cases e; exact ⟨h.fresh (Nat.le_refl _), v, rfl, bx_new _ _ _ rfl⟩ }
theorem PX.bltA {g : Nat} (h : PX X B w1 r m LR LA vR vA oc ob none W) (hg : g = W.heap.size) : PX X B w1 r m LR LA vR vA oc ob (some g) (W.alloc (.cells #[.int .i64 m] 3)) := by
  have hk := h.keep (W' := W.alloc (.cells #[.int .i64 m] 3)) ((Below.refl _ _).alloc (Nat.le_refl _) _)
  subst hg
  exact { hk with bA := fun g e => by cases e; exact ⟨h.fresh (Nat.le_refl _), bx_new _ _ _ rfl⟩ }
theorem PX.appR {v v' : Value} {xs : List Value} {g : Nat} {N : List (List Int)} (h : PX X B w1 r m LR LA vR vA (some v) (some g) oa W) (hxs : RdAll (PTX X B vR vA) W (LR.map D.ints) xs) (ho : W'.ownsRow B 22 1 v' (LR.length + 1) (xs ++ [v])) (hg : W.grownBy W' vR.ownBlock) (hat : v'.ownBlock = vR.ownBlock ∨ ∃ k, v'.ownBlock = some k ∧ W.heap.size ≤ k) (hN : N = LR ++ [r]) :
    PX X B w1 r m N LA v' vA none none oa W' := by
  subst hN
  have hx := fun k hk => h.xlt (k := k) hk
  obtain ⟨h1, h2, ⟨xs0, h3, h4⟩, h5, h6, h10, h11, h12, h7, h8, h9⟩ := h
  have hlt := h5.lt
  have hT : ∀ k, PTX X B vR vA k → k < W.heap.size → PTX X B v' vA k ∧ W'.heap[k]? = W.heap[k]? := by
    rintro k ⟨a1, a0, a2, a3⟩ hk
    refine ⟨⟨a1, a0, ?_, a3⟩, hg.block k hk (fun e => a2 e.symm)⟩
    rcases hat with e | ⟨j, e, hj⟩
    · rw [e]; exact a2
    · rw [e]; intro e; cases e; omega
  refine ⟨h1.grown hg (Nat.le_trans h2 h1.size) (fun k e => (h3.lt k e).1), h2, ⟨xs ++ [v], by rw [List.length_append]; exact ho, ?_⟩, own_otherP h5 hg (fun k e e' => h6 k e' e), ?_, ?_, h11, fun k hk => ⟨(h12 k hk).1, (hg.block k (hx k hk) (fun e => h10 k e.symm hk)).trans (h12 k hk).2⟩, (fun _ e => by cases e), (fun _ e => by cases e), fun g' e => ?_⟩
  · rw [List.map_append]
    exact RdAll.append (RdAll.keep hT _ _ hxs) (RdAll.one (Rd.keep hT _ _ (h7 v rfl)))
  · intro k e
    rcases hat with e' | ⟨j, e', hj⟩
    · exact h6 k (e'.symm.trans e)
    · rw [e'] at e; cases e
      intro e; have := (hlt k e).2; omega
  · intro k e
    rcases hat with e' | ⟨j, e', hj⟩
    · exact h10 k (e'.symm.trans e)
    · rw [e'] at e; cases e
      intro e; have := hx k e; omega
  · obtain ⟨k1, k2⟩ := h9 g' e
    have hgl := (Array.getElem?_eq_some_iff.1 k2).1
    obtain ⟨k3, k4⟩ := hT g' k1 hgl
    exact ⟨k3, k4.trans k2⟩
theorem PX.appA {v' : Value} {g : Nat} {N : List Int} (h : PX X B w1 r m LR LA vR vA oc ob (some g) W) (ho : W'.ownsRow B 3 1 v' (LA.length + 1) (ints LA ++ [.int .i64 m])) (hg : W.grownBy W' vA.ownBlock) (hat : v'.ownBlock = vA.ownBlock ∨ ∃ k, v'.ownBlock = some k ∧ W.heap.size ≤ k) (hN : N = LA ++ [m]) :
    PX X B w1 r m LR N vR v' oc ob none W' := by
  subst hN
  have hx := fun k hk => h.xlt (k := k) hk
  obtain ⟨h1, h2, ⟨xs0, h3, h4⟩, h5, h6, h10, h11, h12, h7, h8, h9⟩ := h
  have hlt := h3.lt
  have hT : ∀ k, PTX X B vR vA k → k < W.heap.size → PTX X B vR v' k ∧ W'.heap[k]? = W.heap[k]? := by
    rintro k ⟨a1, a0, a2, a3⟩ hk
    refine ⟨⟨a1, a0, a2, ?_⟩, hg.block k hk (fun e => a3 e.symm)⟩
    rcases hat with e | ⟨j, e, hj⟩
    · rw [e]; exact a3
    · rw [e]; intro e; cases e; omega
  refine ⟨h1.grown hg (Nat.le_trans h2 h1.size) (fun k e => (h5.lt k e).1), h2, ⟨xs0, own_otherP h3 hg (fun k e e' => h6 k e e'), RdAll.keep hT _ _ h4⟩, ?_, ?_, h10, ?_, fun k hk => ⟨(h12 k hk).1, (hg.block k (hx k hk) (fun e => h11 k e.symm hk)).trans (h12 k hk).2⟩, fun v e => Rd.keep hT _ _ (h7 v e), fun g' e => ?_, (fun _ e => by cases e)⟩
  · rw [List.length_append]; simpa [ints] using ho
  · intro k e
    rcases hat with e' | ⟨j, e', hj⟩
    · rw [e']; exact h6 k e
    · rw [e']; intro e2; cases e2; have := (hlt k e).2; omega
  · intro k e
    rcases hat with e' | ⟨j, e', hj⟩
    · exact h11 k (e'.symm.trans e)
    · rw [e'] at e; cases e
      intro e; have := hx k e; omega
  · obtain ⟨k1, v, k0, k2⟩ := h8 g' e
    have hgl := (Array.getElem?_eq_some_iff.1 k2).1
    obtain ⟨k3, k4⟩ := hT g' k1 hgl
    exact ⟨k3, v, k0, k4.trans k2⟩
theorem PX.nil (X : Nat → Prop) (B : Nat) (w1 : World) (r : List Int) (m : Int) (h : B ≤ w1.heap.size) (hX : ∀ k, X k → k < w1.heap.size) : PX X B w1 r m [] [] (.slice none 0 0) (.slice none 0 0) none none none w1 :=
  ⟨Below.refl _ _, h, ⟨[], World.ownsRow_nil _ _ _ _, by simp [RdAll]⟩, by simpa [ints] using World.ownsRow_nil w1 B 3 1, (fun _ e => by cases e), (fun _ e => by cases e), (fun _ e => by cases e), fun k hk => ⟨hX k hk, rfl⟩, (fun _ e => by cases e), (fun _ e => by cases e), (fun _ e => by cases e)⟩
/-- the base world anew -/
theorem PX.base (h : PX X B w1 r m LR LA vR vA none none none W) (r' : List Int) (m' : Int) : PX X B W r' m' LR LA vR vA none none none W := by
  have hx := fun k hk => h.xlt (k := k) hk
  obtain ⟨h1, h2, h3, h5, h6, h10, h11, h12, h7, h8, h9⟩ := h
  exact ⟨Below.refl _ _, Nat.le_trans h2 h1.size, h3, h5, h6, h10, h11, fun k hk => ⟨hx k hk, rfl⟩, (fun _ e => by cases e), (fun _ e => by cases e), (fun _ e => by cases e)⟩
/-- behind a change of one block that none of the rows has: below B, or one of X, or a new one -/
theorem PX.other (h : PX X B w1 r m LR LA vR vA none none none W) {X' : Nat → Prop} {row : Option Nat} (hg : W.grownBy W' row) (hb : ∀ k, row = some k → k < B ∨ X k ∨ W.heap.size ≤ k) (hX : ∀ k, X' k → X k ∨ (W.heap.size ≤ k ∧ k < W'.heap.size)) (r' : List Int) (m' : Int) : PX X' B W' r' m' LR LA vR vA none none none W' := by
  have hx := fun k hk => h.xlt (k := k) hk
  obtain ⟨h1, h2, ⟨xs, h3, h4⟩, h5, h6, h10, h11, h12, h7, h8, h9⟩ := h
  have hl3 := h3.lt
  have hl5 := h5.lt
  have hz := hg.size
  have q1 : ∀ k, vR.ownBlock = some k → row ≠ some k := by
    intro k e e'
    have := hl3 k e
    rcases hb k e' with h | h | h
    · omega
    · exact h10 k e h
    · omega
  have q2 : ∀ k, vA.ownBlock = some k → row ≠ some k := by
    intro k e e'
    have := hl5 k e
    rcases hb k e' with h | h | h
    · omega
    · exact h11 k e h
    · omega
  have q3 : ∀ k, PTX X B vR vA k → k < W.heap.size → PTX X' B vR vA k ∧ W'.heap[k]? = W.heap[k]? := by
    rintro k ⟨a1, a2, a3, a4⟩ hlt
    refine ⟨⟨a1, fun e => ?_, a3, a4⟩, hg.block k hlt (fun e => ?_)⟩
    · rcases hX k e with h | h
      · exact a2 h
      · omega
    · rcases hb k e.symm with h | h | h
      · omega
      · exact a2 h
      · omega
  have q4 : ∀ k, vR.ownBlock = some k → ¬ X' k := by
    intro k e e'
    have := hl3 k e
    rcases hX k e' with h | h
    · exact h10 k e h
    · omega
  have q5 : ∀ k, vA.ownBlock = some k → ¬ X' k := by
    intro k e e'
    have := hl5 k e
    rcases hX k e' with h | h
    · exact h11 k e h
    · omega
  have q6 : ∀ k, X' k → k < W'.heap.size := by
    intro k hk
    rcases hX k hk with h | h
    · have := hx k h; omega
    · exact h.2
  exact ⟨Below.refl _ _, Nat.le_trans (Nat.le_trans h2 h1.size) hz, ⟨xs, own_otherP h3 hg q1, RdAll.keep q3 _ _ h4⟩, own_otherP h5 hg q2, h6, q4, q5, fun k hk => ⟨q6 k hk, rfl⟩, (fun _ e => by cases e), (fun _ e => by cases e), (fun _ e => by cases e)⟩
end
end Df
end Go.Proofs.Ytgdfbjpahmnekaa
namespace Go.Proofs.Ytgdfbjpahmnekaa
open Go.RowKit
namespace Df
open Km

theorem kmap_blk {k e : TypeId} {b c : Nat} {F : Lit → Option Lit} {w w' : World} (h : KMap k e b F c w) (hb : w'.heap[b]? = w.heap[b]?) : KMap k e b F c w' := by
  obtain ⟨D, ⟨es, ck, h1, h2⟩, h3⟩ := h
  exact ⟨D, ⟨es, ck, hb.trans h1, h2⟩, h3⟩
theorem cellBlk {w w' : World} {b o : Nat} {v : Value} (h : w'.heap[b]? = w.heap[b]?) (hv : w.cell? ⟨b, o, none⟩ = some v) : w'.cell? ⟨b, o, none⟩ = some v := by
  rw [← hv]; simp [World.cell?, h]
theorem intKc : Go.Maps.Keyed Try.prog 3 := Go.Maps.int_keyed Try.underlying3
theorem keyIc {v : Int} (h : 0 ≤ v ∧ v ≤ 1000) : keyOf Try.prog 3 (.int .i64 v) = some (.int .i64 v) := Go.Maps.keyOf_int_mk Try.underlying3 (by simp [Lit.wf, IntKind.min, IntKind.max, IntKind.signed, IntKind.bits]; omega)
/-- what the map of numbers has -/
def FC (P : Nat → Int) (S : List Nat) : Lit → Option Lit
  | .int .i64 v => if v ∈ S.map P then some (.int .i64 ((S.map P).idxOf v : Int)) else none
  | _ => none
theorem fC_nil (P : Nat → Int) : FC P [] = fun _ => none := by
  funext l
  cases l with
  | int q v => cases q <;> simp [FC]
  | _ => rfl
theorem fC_put {P : Nat → Int} {S : List Nat} {t : Nat} (h : P t ∉ S.map P) (l : Lit) : put (FC P S) (.int .i64 (P t)) (.int .i64 (S.length : Int)) l = FC P (S ++ [t]) l := by
  by_cases e : l = .int .i64 (P t)
  · subst e
    rw [put_same]
    simp only [FC]
    rw [if_pos (by simp), List.map_append, List.idxOf_append, if_neg h]
    simp
  · rw [put_other _ _ e]
    cases l with
    | int q v =>
      cases q with
      | i64 =>
        have hne : v ≠ P t := fun h => e (by rw [h])
        simp only [FC]
        by_cases h2 : v ∈ S.map P
        · rw [if_pos h2, if_pos (by rw [List.map_append]; exact List.mem_append.2 (.inl h2)), List.map_append, List.idxOf_append, if_pos h2]
        · rw [if_neg h2, if_neg (by rw [List.map_append]; simp only [List.mem_append, List.map_cons, List.map_nil, List.mem_singleton]; rintro (h3 | h3); exact h2 h3; exact hne h3)]
      | _ => rfl
    | _ => rfl
def nats (S : List Nat) : List Int := S.map fun (s : Nat) => (s : Int)
theorem nats_len (S : List Nat) : (nats S).length = S.length := by simp [nats]
/-- while the states come up -/
structure CnI (n : Nat) (P : Nat → Int) (w0 : World) (pg mb : Nat) (sv : Value) (S : List Nat) (wr : World) : Prop where
  bel : Below w0.heap.size w0 wr
  lo : w0.heap.size ≤ pg ∧ pg < mb
  prt : Vrow 3 pg n (fun s => .int .i64 (P s)) wr
  kmp : KMap 3 3 mb (FC P S) S.length wr
  st : wr.ownsRow (mb + 1) 3 1 sv S.length (ints (nats S))
section
variable {n : Nat} {P : Nat → Int} {w0 : World} {pg mb : Nat} {sv : Value} {S : List Nat} {wr w' : World}
theorem CnI.grown {row : Option Nat} (h : CnI n P w0 pg mb sv S wr) (hg : wr.grownBy w' row) (hr : ∀ k, row = some k → mb - 1 ≤ k ∧ k ≠ mb ∧ k ≠ pg ∧ sv.ownBlock ≠ some k) : CnI n P w0 pg mb sv S w' := by
  obtain ⟨h1, h2, h3, h4, h5⟩ := h
  refine ⟨h1.grown hg h1.size (fun k e => by have := (hr k e).1; omega), h2, h3.grown hg (fun e => (hr pg e).2.2.1 rfl), h4.kept hg (fun e => (hr mb e.symm).2.1 rfl), own_blk h5 fun g e => hg.block g (h5.lt g e).2 (fun e2 => (hr g e2.symm).2.2.2 e)⟩
theorem CnI.keep (h : CnI n P w0 pg mb sv S wr) (hb : Below wr.heap.size wr w') : CnI n P w0 pg mb sv S w' := h.grown (grown_below hb none) (fun k e => by cases e)
theorem CnI.cell (h : CnI n P w0 pg mb sv S wr) {g : Nat} (hg1 : mb - 1 ≤ g) (hg2 : g ≠ mb) (hg3 : g ≠ pg) (hg4 : sv.ownBlock ≠ some g) (j : Nat) (v : Value) : CnI n P w0 pg mb sv S (wr.setCell ⟨g, j, none⟩ v) :=
  h.grown (grown_cell wr ⟨g, j, none⟩ v) (fun k e => by cases e; exact ⟨hg1, hg2, hg3, hg4⟩)
/-- a new state: the map's entry and the append behind it -/
theorem CnI.add (h : CnI n P w0 pg mb sv S wr) {w1 w2 : World} {t : Nat} {sv' : Value} (hP : P t ∉ S.map P) (hk : KMap 3 3 mb (put (FC P S) (.int .i64 (P t)) (.int .i64 (S.length : Int))) (S.length + 1) w1) (hg1 : wr.grownBy w1 (some mb))
    (ho : w2.ownsRow (mb + 1) 3 1 sv' (S.length + 1) (ints (nats S) ++ [.int .i64 (t : Int)])) (hg2 : w1.grownBy w2 sv.ownBlock) : CnI n P w0 pg mb sv' (S ++ [t]) w2 := by
  obtain ⟨h1, h2, h3, h4, h5⟩ := h
  have hl := h5.lt
  have hz := hg1.size
  refine ⟨(h1.grown hg1 h1.size (fun k e => by cases e; omega)).grown hg2 (by have := h1.size; omega) (fun k e => by have := (hl k e).1; omega), h2, (h3.grown hg1 (fun e => by cases e; omega)).grown hg2 (fun e => by have := (hl pg e).1; omega), ?_, ?_⟩
  · rw [List.length_append]
    exact (hk.kept hg2 (fun e => by have := (hl mb e.symm).1; omega)).eq fun l => fC_put hP l
  · rw [List.length_append, show nats (S ++ [t]) = nats S ++ [(t : Int)] by simp [nats], ints_append]
    exact ho
end

/-- the new row is all one value -/
theorem sl_lit1 {w : World} {b : Nat} {v : Value} {T : TypeId} (h : w.heap[b]? = some (.cells #[v] T (0, 0))) : Sl w (.slice (some ⟨b, 0, none⟩) 1 1) [v] := by
  refine ⟨some ⟨b, 0, none⟩, 1, rfl, by simp, by simp [maxLen], (fun h => by cases h), fun i hi => ⟨_, rfl, ?_⟩⟩
  have h0 : i = 0 := by simp at hi; omega
  subst h0
  rw [add_at]
  simpa using bx_cells1 h
theorem rd_lit1 {S : Nat → Prop} {w : World} {b : Nat} {v : Value} {T : TypeId} {d : D} (h : w.heap[b]? = some (.cells #[v] T (0, 0))) (hb : S b) (hd : Rd S w d [v]) : Rd S w (.sl [d]) [.slice (some ⟨b, 0, none⟩) 1 1] := by
  refine ⟨some ⟨b, 0, none⟩, 1, [v], rfl, by simp, by simp [maxLen], (fun h => by cases h), fun i hi => ⟨_, rfl, hb, ?_⟩, RdAll.one hd⟩
  have h0 : i = 0 := by simp at hi; omega
  subst h0
  rw [add_at]
  simpa using bx_cells1 h
theorem rd_vrow {S : Nat → Prop} {w : World} {g m : Nat} {A : Nat → Value} {l : List Int} (h : Vrow 3 g m A w) (hl : l.length = m) (hm : m ≤ maxLen) (hS : S g) (hA : ∀ q (hq : q < l.length), A q = .int .i64 l[q]) : Rd S w (D.ints l) [.slice (some ⟨g, 0, none⟩) m m] := by
  subst hl
  refine ⟨some ⟨g, 0, none⟩, l.length, ints l, by simp, by simp, hm, (fun h => by cases h), fun i hi => ⟨_, rfl, hS, ?_⟩, (rdAll_ints l _).2 rfl⟩
  rw [ints_len] at hi
  rw [add_at, Nat.zero_add]
  have := h.cell hi
  rw [hA i hi] at this
  rw [ints_get]
  exact this
theorem disc_ok {x : Dfa} {P : Nat → Int} {n : Nat} (hP : ∀ k, k < n → P k < n) (h0 : DiscOk x P n [x.start.toNat]) (hr : ∀ s, ∀ t ∈ x.next.getD s [], t < n) : ∀ i, DiscOk x P n (disc x P i)
  | 0 => h0
  | i + 1 => by
    show DiscOk x P n (match (disc x P i)[i]? with | none => _ | some s => _)
    cases (disc x P i)[i]? with
    | none => exact disc_ok hP h0 hr i
    | some s => exact foldS_ok hP _ _ (hr s) (disc_ok hP h0 hr i)
/-- the states behind c symbols of a row -/
def sT (P : Nat → Int) (r : List Int) (S0 : List Nat) (c : Nat) : List Nat := (r.take c).foldl (stepS P) S0
theorem sT_next {P : Nat → Int} {r : List Int} {S0 : List Nat} {c : Nat} (h : c < r.length) : sT P r S0 (c + 1) = stepS P (sT P r S0 c) r[c] := by
  unfold sT
  rw [List.take_succ_eq_append_getElem h, List.foldl_append]
  rfl
theorem sT_prefix {P : Nat → Int} {r : List Int} {S0 : List Nat} {c : Nat} (h : c < r.length) : sT P r S0 c <+: sT P r S0 (c + 1) := by rw [sT_next h]; exact stepS_prefix _ _ _
theorem sT_known {P : Nat → Int} {r : List Int} {S0 : List Nat} {c q : Nat} (h : q < c) (hc : c ≤ r.length) : known P (sT P r S0 c) (r.getD q 0) := by
  have hq : q < r.length := by omega
  rw [List.getD_eq_getElem?_getD, List.getElem?_eq_getElem hq]
  exact known_fold P _ _ _ (List.mem_take_iff_getElem.2 ⟨q, by omega, rfl⟩)
def rowV (P : Nat → Int) (S : List Nat) (r : List Int) (c : Nat) (q : Nat) : Value := .int .i64 (if q < c then valS P S (r.getD q 0) else 0)
theorem rowV_prefix {P : Nat → Int} {r : List Int} {S0 : List Nat} {c q : Nat} (hc : c < r.length) (hq : q ≠ c) : rowV P (sT P r S0 (c + 1)) r (c + 1) q = rowV P (sT P r S0 c) r c q := by
  unfold rowV
  by_cases h : q < c
  · rw [if_pos h, if_pos (by omega), valS_prefix (sT_prefix hc) (sT_known h (by omega))]
  · rw [if_neg h, if_neg (by omega)]
/-- a row is being made: c symbols are done, the states are S -/
structure RwM (n : Nat) (P : Nat → Int) (w0 : World) (pg ob g9 k : Nat) (r : List Int) (S0 : List Nat) (LR : List (List Int)) (LA : List Int) (vR vA : Value) (c : Nat) (z : Int) (S : List Nat) (sv : Value) (wr : World) : Prop where
  cn : CnI n P w0 pg (ob + 1) sv S wr
  bx : wr.heap[ob]? = some (.cells #[.int .i64 0, vA, vR] 25 (0, 0))
  row : Vrow 3 g9 k (fun q => if q = c then .int .i64 z else rowV P (sT P r S0 c) r c q) wr
  px : PX (fun q => sv.ownBlock = some q ∨ q = g9) (ob + 1 + 1) wr [] 0 LR LA vR vA none none none wr
  lo : ob + 1 + 1 ≤ g9 ∧ sv.ownBlock ≠ some g9 ∧ pg < ob
def RwI (n : Nat) (P : Nat → Int) (w0 : World) (pg ob g9 k : Nat) (r : List Int) (S0 : List Nat) (LR : List (List Int)) (LA : List Int) (vR vA : Value) (c : Nat) (sv : Value) (wr : World) : Prop := RwM n P w0 pg ob g9 k r S0 LR LA vR vA c 0 (sT P r S0 c) sv wr
section
variable {n : Nat} {P : Nat → Int} {w0 : World} {pg ob g9 k : Nat} {r : List Int} {S0 : List Nat} {LR : List (List Int)} {LA : List Int} {vR vA : Value} {c : Nat} {z : Int} {S : List Nat} {sv : Value} {wr w1 w2 : World}
theorem RwM.keep (h : RwM n P w0 pg ob g9 k r S0 LR LA vR vA c z S sv wr) (hb : Below wr.heap.size wr w1) : RwM n P w0 pg ob g9 k r S0 LR LA vR vA c z S sv w1 := by
  obtain ⟨h1, h2, h3, h4, h5⟩ := h
  exact ⟨h1.keep hb, bx_keep h2 hb, h3.keep hb, h4.other (row := none) (grown_below hb none) (fun q e => by cases e) (fun q e => .inl e) [] 0, h5⟩
theorem RwM.store (h : RwM n P w0 pg ob g9 k r S0 LR LA vR vA c z S sv wr) (hc : c < k) (z' : Int) : RwM n P w0 pg ob g9 k r S0 LR LA vR vA c z' S sv (wr.setCell ⟨g9, c, none⟩ (.int .i64 z')) := by
  obtain ⟨h1, h2, h3, h4, h5, h6, h7⟩ := h
  have hlt := h1.lo.2
  refine ⟨h1.cell (by omega) (by omega) (by omega) h6 _ _, bx_other h2 (by omega) _ _, h3.set hc fun q _ => ?_, h4.other (row := some g9) (grown_cell _ ⟨g9, c, none⟩ _) (fun q e => by cases e; exact .inr (.inl (.inr rfl))) (fun q e => .inl e) [] 0, h5, h6, h7⟩
  by_cases e : q = c
  · simp [e]
  · simp [e]
/-- a state more: the map's entry, then the append -/
theorem RwM.add (h : RwM n P w0 pg ob g9 k r S0 LR LA vR vA c z S sv wr) {t : Nat} {sv' : Value} (hP : P t ∉ S.map P) (hk : KMap 3 3 (ob + 1) (put (FC P S) (.int .i64 (P t)) (.int .i64 (S.length : Int))) (S.length + 1) w1) (hg1 : wr.grownBy w1 (some (ob + 1)))
    (ho : w2.ownsRow (ob + 1 + 1) 3 1 sv' (S.length + 1) (ints (nats S) ++ [.int .i64 (t : Int)])) (hg2 : w1.grownBy w2 sv.ownBlock) (hat : sv'.ownBlock = sv.ownBlock ∨ ∃ q, sv'.ownBlock = some q ∧ w1.heap.size ≤ q) : RwM n P w0 pg ob g9 k r S0 LR LA vR vA c z (S ++ [t]) sv' w2 := by
  obtain ⟨h1, h2, h3, h4, h5, h6, h7⟩ := h
  have hl := h1.st.lt
  have hg9 : g9 < w1.heap.size := Nat.lt_of_lt_of_le h3.lt hg1.size
  have hl2 := ho.lt
  refine ⟨h1.add hP hk hg1 ho hg2, ?_, (h3.grown hg1 (fun e => by cases e; omega)).grown hg2 h6, ?_, h5, ?_, h7⟩
  · have hbl := (Array.getElem?_eq_some_iff.1 h2).1
    rw [hg2.block ob (Nat.lt_of_lt_of_le hbl hg1.size) (fun e => by have := (hl ob e.symm).1; omega), hg1.block ob hbl (by simp)]
    exact h2
  · have k1 := h4.other (X' := fun q => sv.ownBlock = some q ∨ q = g9) hg1 (fun q e => by cases e; left; omega) (fun q e => .inl e) [] 0
    refine k1.other hg2 (fun q e => .inr (.inl (.inl e))) (fun q e => ?_) [] 0
    rcases e with e | e
    · rcases hat with h | ⟨q', e', hq'⟩
      · exact .inl (.inl (h ▸ e))
      · rw [e'] at e; cases e
        exact .inr ⟨hq', (hl2 _ e').2⟩
    · exact .inl (.inr e)
  · rcases hat with h | ⟨q', e', hq'⟩
    · rw [h]; exact h6
    · rw [e']; intro e; cases e; omega
/-- the symbol is done -/
theorem RwM.fin (h : RwM n P w0 pg ob g9 k r S0 LR LA vR vA c z S sv wr) (hc : c < k) (hk : r.length = k) (hS : S = sT P r S0 (c + 1)) (hz : z = valS P S (r.getD c 0)) : RwI n P w0 pg ob g9 k r S0 LR LA vR vA (c + 1) sv wr := by
  subst hS hz
  obtain ⟨h1, h2, h3, h4, h5⟩ := h
  refine ⟨h1, h2, h3.eq fun q hq => ?_, h4, h5⟩
  by_cases e : q = c
  · subst e
    rw [if_pos rfl, if_neg (by omega)]
    unfold rowV
    rw [if_pos (by omega)]
  · rw [if_neg e, rowV_prefix (by omega) e]
    by_cases e2 : q = c + 1
    · subst e2
      rw [if_pos rfl]
      unfold rowV
      rw [if_neg (by omega)]
    · rw [if_neg e2]
theorem RwI.at (h : RwI n P w0 pg ob g9 k r S0 LR LA vR vA c sv wr) (hc : c < k) : wr.cell? ⟨g9, c, none⟩ = some (.int .i64 0) ∧ wr.frozen? ⟨g9, c, none⟩ = false := by
  have h1 := h.row.cell hc
  rw [if_pos rfl] at h1
  exact ⟨h1, h.row.free c⟩
theorem RwM.at (h : RwM n P w0 pg ob g9 k r S0 LR LA vR vA c z S sv wr) (hc : c < k) : wr.cell? ⟨g9, c, none⟩ = some (.int .i64 z) ∧ wr.frozen? ⟨g9, c, none⟩ = false := by
  have h1 := h.row.cell hc
  rw [if_pos rfl] at h1
  exact ⟨h1, h.row.free c⟩
/-- the row is whole -/
theorem RwI.whole (h : RwI n P w0 pg ob g9 k r S0 LR LA vR vA k sv wr) (hk : r.length = k) (hm : k ≤ maxLen) (m : Int) : PX (fun q => sv.ownBlock = some q) (ob + 1 + 1) wr (r.map (valS P (sT P r S0 k))) m LR LA vR vA (some (.slice (some ⟨g9, 0, none⟩) k k)) none none wr := by
  obtain ⟨h1, h2, h3, h4, h5, h6, h7⟩ := h
  have hl := h1.st.lt
  have k1 := h4.other (X' := fun q => sv.ownBlock = some q) (row := none) (grown_below (Below.refl _ _) none) (fun q e => by cases e) (fun q e => .inl (.inl e)) (r.map (valS P (sT P r S0 k))) m
  refine k1.call (rd_vrow h3 (by rw [List.length_map]; exact hk) hm ⟨h5, h6, fun e => h4.xr _ e (.inr rfl), fun e => h4.xa _ e (.inr rfl)⟩ fun q hq => ?_)
  rw [List.length_map] at hq
  rw [if_neg (by omega), List.getElem_map]
  unfold rowV
  rw [if_pos (by omega), List.getD_eq_getElem?_getD, List.getElem?_eq_getElem hq]
  rfl
end
/-- what the rounds keep -/
structure CanI (x : Dfa) (n : Nat) (P : Nat → Int) (w0 : World) (pg ob : Nat) (i : Nat) (sv vR vA : Value) (wr : World) : Prop where
  cn : CnI n P w0 pg (ob + 1) sv (disc x P i) wr
  bx : wr.heap[ob]? = some (.cells #[.int .i64 0, vA, vR] 25 (0, 0))
  px : PX (fun q => sv.ownBlock = some q) (ob + 1 + 1) wr [] 0 (rowsC x P i) (accsC x P i) vR vA none none none wr
  lo : pg < ob
section
variable {x : Dfa} {n : Nat} {P : Nat → Int} {w0 : World} {pg ob g9 k : Nat} {r : List Int} {vR vA vR' vA' : Value} {i s : Nat} {sv : Value} {wr w1 w2 : World}
theorem CanI.begin (h : CanI x n P w0 pg ob i sv vR vA wr) (hg : g9 = wr.heap.size) (k : Nat) (r : List Int) : RwI n P w0 pg ob g9 k r (disc x P i) (rowsC x P i) (accsC x P i) vR vA 0 sv (wr.alloc (.cells (madeCells #[.int .i64 0] k) 3)) := by
  obtain ⟨h1, h2, h3, h4⟩ := h
  have hb : Below wr.heap.size wr (wr.alloc (.cells (madeCells #[.int .i64 0] k) 3)) := (Below.refl _ _).alloc (Nat.le_refl _) _
  have hl := h1.st.lt
  have hm := h1.kmp.lt
  subst hg
  refine ⟨h1.keep hb, bx_keep h2 hb, (vrow_new wr _ _ k rfl).eq fun q _ => ?_, h3.other (row := none) (grown_below hb none) (fun q e => by cases e) (fun q e => ?_) [] 0, by omega, fun e => ?_, h4⟩
  · unfold rowV; simp
  · rcases e with e | e
    · exact .inl e
    · refine .inr ⟨by omega, by subst e; simp⟩
  · have := (hl _ e).2; omega
theorem CanI.next (h : RwI n P w0 pg ob g9 k r (disc x P i) (rowsC x P i) (accsC x P i) vR vA k sv w1) (hs : (disc x P i)[i]? = some s) (hr : x.next.getD s [] = r) (hk : r.length = k) (hal : ∀ q, q < i → q < (disc x P q).length)
    {m : Int} {r' : List Int} (hp : PX (fun q => sv.ownBlock = some q) (ob + 1 + 1) w1 r' m (rowsC x P i ++ [r.map (valS P (sT P r (disc x P i) k))]) (accsC x P i ++ [x.acc.getD s 0]) vR' vA' none none none w2) :
    CanI x n P w0 pg ob (i + 1) sv vR' vA' ((w2.setCell ⟨ob, 2, none⟩ vR').setCell ⟨ob, 1, none⟩ vA') := by
  have e0 : disc x P (i + 1) = sT P r (disc x P i) k := by
    show (match (disc x P i)[i]? with | none => _ | some s => _) = _
    rw [hs]
    show (x.next.getD s []).foldl _ _ = _
    rw [hr]
    unfold sT
    rw [← hk, List.take_length]
  have e1 : rowsC x P (i + 1) = rowsC x P i ++ [r.map (valS P (sT P r (disc x P i) k))] := by
    rw [rowsC_next hal hs]
    unfold rowC
    rw [hr, e0]
  have e2 := accsC_next hs
  obtain ⟨h1, h2, h3, h4, h5, h6, h7⟩ := h
  have hl := h1.st.lt
  have hlo := h1.lo
  have hz := hp.bel.size
  have hle := hp.le
  have hne : sv.ownBlock ≠ some ob := fun e => by have := (hl ob e).1; omega
  have c2 : CnI n P w0 pg (ob + 1) sv (disc x P (i + 1)) w2 := by
    rw [e0]
    obtain ⟨a1, a2, a3, a4, a5⟩ := h1
    refine ⟨a1.trans (hp.bel.mono ?_), a2, ?_, ?_, own_blk a5 fun g e => (hp.px g e).2⟩
    · omega
    · obtain ⟨cs, b1, b2⟩ := a3
      exact ⟨cs, (hp.bel.block pg (by omega)).trans b1, b2⟩
    · exact kmap_blk a4 (hp.bel.block (ob + 1) (by omega))
  have b2 : w2.heap[ob]? = some (.cells #[.int .i64 0, vA, vR] 25 (0, 0)) := (hp.bel.block ob (by omega)).trans h2
  refine ⟨(c2.cell (g := ob) (by omega) (by omega) (by omega) hne 2 vR').cell (g := ob) (by omega) (by omega) (by omega) hne 1 vA', ?_, ?_, h7⟩
  · have := bx_set (bx_set b2 2 vR') 1 vA'
    simpa using this
  · rw [e1, e2]
    exact (hp.other (X' := fun q => sv.ownBlock = some q) (row := some ob) (grown_cell w2 ⟨ob, 2, none⟩ vR') (fun q e => by cases e; left; omega) (fun q e => .inl e) [] 0).other (X' := fun q => sv.ownBlock = some q) (row := some ob) (grown_cell _ ⟨ob, 1, none⟩ vA') (fun q e => by cases e; left; omega) (fun q e => .inl e) [] 0
end
end Df
end Go.Proofs.Ytgdfbjpahmnekaa
