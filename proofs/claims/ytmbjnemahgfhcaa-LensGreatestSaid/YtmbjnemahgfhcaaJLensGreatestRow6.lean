/- A word that is long enough can be cut; where a cycle grows, words grow. Plain: tables of least lengths. The grammar without what is useless, in plain Lean: the same lengths. A row of one-cell values in memory, written in place. The contract of grid, of whole numbers. What parlref5.heights.row keeps. A region that draws its order: a head that only loads what was there and calls what makes new memory only, then a tail in one forced order. parlref5.heights in memory. copy between slices of elements of several cells, into a block that is known whole. slices.Repeat of one number, few times. Plain: a value of a table of least lengths is set. Plain: the measure of the rounds of useful.lengths; a least value is found (parlref5.Shortest). useful.lengths: the least lengths. -/
import Derived.Test.YtmbjnemahgfhcaaJLensGreatestRow5
import Derived.Test.YtmbjnemahgfhcaaJLensGreatestRow3
import Derived.Test.YtmbjnemahgfhcaaJLensGreatestRow1
import Derived.Deep.OwnRows
import Derived.Test.YtmbjnemahgfhcaaJLensGreatestRow2
import Derived.Deep.LoopGhost
import Derived.Deep.DeepCutAuto
import Derived.Test.YtmbjnemahgfhcaaJLensGreatestRow4
import Derived.StillTail
import Derived.Laws.CopyRow
import Derived.Lib.Overlaps
import Derived.StillTailTactics
namespace Go.Proofs.Ytmbjnemahgfhcaa
open Go.RowKit
namespace Gr
open Cs

def kE (K : List Rule) : List (Nat × Nat) := K.flatMap ruleEdges
def GrowC (K : List Rule) : Prop := ∃ P Q, More K P Q ∧ (P = Q ∨ Pth (kE K) Q P)
section
variable {K : List Rule} {d N : Nat}
theorem edge_mem {A B : Nat} (h : Edge K A B) : (A, B) ∈ kE K := by
  obtain ⟨r, hr, hl, a, s, b, e, ht, hn⟩ := h
  unfold kE
  rw [List.mem_flatMap]
  refine ⟨r, hr, ?_⟩
  unfold ruleEdges
  rw [List.mem_filterMap]
  exact ⟨s, by rw [e]; simp, by simp [ht, hl, hn]⟩
theorem mem_edge (hl : ∀ r ∈ K, 0 ≤ r.left) {A B : Nat} (h : (A, B) ∈ kE K) : Edge K A B := by
  unfold kE at h
  rw [List.mem_flatMap] at h
  obtain ⟨r, hr, h⟩ := h
  unfold ruleEdges at h
  rw [List.mem_filterMap] at h
  obtain ⟨s, hs, h⟩ := h
  cases ht : s.term with
  | true => simp [ht] at h
  | false =>
    simp [ht] at h
    obtain ⟨a, b, e⟩ := List.append_of_mem hs
    have := hl r hr
    exact ⟨r, hr, by omega, a, s, b, e, ht, h.2⟩
theorem more_edge {A B : Nat} (h : More K A B) : Edge K A B := by
  obtain ⟨r, hr, hl, a, s, b, e, ht, hn, _⟩ := h
  exact ⟨r, hr, hl, a, s, b, e, ht, hn⟩
/-- one level down, said of pairs -/
def Stp (K : List Rule) (x y : Nat × Nat) : Prop := y.2 ≤ x.2 ∧ Edge K x.1 y.1 ∧ (y.2 < x.2 → More K x.1 y.1) ∧ ∀ j', Dv K y.1 j' → Dv K x.1 (x.2 - y.2 + j')
theorem chain1 : ∀ (h A k : Nat), Mh K (h + 1) A k → ∃ f : Nat → Nat × Nat, f 0 = (A, k) ∧ (∀ i, i ≤ h → Mh K (h + 1 - i) (f i).1 (f i).2) ∧ ∀ i, i < h → Stp K (f i) (f (i + 1)) := by
  intro h
  induction h with
  | zero =>
    intro A k hm
    refine ⟨fun _ => (A, k), rfl, fun i hi => ?_, fun i hi => by omega⟩
    obtain rfl : i = 0 := by omega
    exact hm
  | succ h ih =>
    intro A k hm
    obtain ⟨B, j, h1, h2, h3, h4, h5⟩ := mh_step (by omega) hm
    obtain ⟨f, f0, f1, f2⟩ := ih B j h1
    refine ⟨fun i => if i = 0 then (A, k) else f (i - 1), rfl, fun i hi => ?_, fun i hi => ?_⟩
    · by_cases e : i = 0
      · subst e; exact hm
      · simp only [if_neg e]
        have := f1 (i - 1) (by omega)
        rwa [show h + 1 - (i - 1) = h + 1 + 1 - i by omega] at this
    · by_cases e : i = 0
      · subst e
        show Stp K (A, k) (f 0)
        rw [f0]
        exact ⟨h2, h3, h4, h5⟩
      · simp only [if_neg e, if_neg (show ¬ i + 1 = 0 by omega)]
        have := f2 (i - 1) (by omega)
        rwa [show i - 1 + 1 = i + 1 - 1 by omega] at this
/-- some levels down -/
theorem steps {f : Nat → Nat × Nat} {h : Nat} (hf : ∀ i, i < h → Stp K (f i) (f (i + 1))) : ∀ (m i : Nat), i + m ≤ h → (f (i + m)).2 ≤ (f i).2 ∧ (m = 0 ∨ Pth (kE K) (f i).1 (f (i + m)).1) ∧ ∀ j', Dv K (f (i + m)).1 j' → Dv K (f i).1 ((f i).2 - (f (i + m)).2 + j') := by
  intro m
  induction m with
  | zero => intro i _; exact ⟨Nat.le_refl _, .inl rfl, fun j' hj => by simpa using hj⟩
  | succ m ih =>
    intro i hi
    obtain ⟨a1, a2, a3⟩ := ih i (by omega)
    obtain ⟨b1, b2, b3, b4⟩ := hf (i + m) (by omega)
    rw [show i + m + 1 = i + (m + 1) by omega] at b1 b2 b3 b4
    refine ⟨Nat.le_trans b1 a1, .inr ?_, fun j' hj => ?_⟩
    · rcases a2 with rfl | a2
      · exact .one (by simpa using edge_mem b2)
      · exact a2.snoc (edge_mem b2)
    · have h1 := a3 _ (b4 j' hj)
      rwa [show (f i).2 - (f (i + m)).2 + ((f (i + m)).2 - (f (i + (m + 1))).2 + j') = (f i).2 - (f (i + (m + 1))).2 + j' by omega] at h1
/-- between two places of a chain that gets less there is a step that gets less -/
theorem fall {f : Nat → Nat × Nat} {h : Nat} (hf : ∀ i, i < h → Stp K (f i) (f (i + 1))) : ∀ (m i : Nat), i + m ≤ h → (f (i + m)).2 < (f i).2 → ∃ p, i ≤ p ∧ p < i + m ∧ (f (p + 1)).2 < (f p).2 := by
  intro m
  induction m with
  | zero => intro i _ h; simp at h
  | succ m ih =>
    intro i hi hl
    by_cases e : (f (i + m)).2 < (f i).2
    · obtain ⟨p, h1, h2, h3⟩ := ih i (by omega) e
      exact ⟨p, h1, by omega, h3⟩
    · exact ⟨i + m, by omega, by omega, by rw [show i + m + 1 = i + (m + 1) by omega]; omega⟩
theorem dv_lt (hK : ∀ r ∈ K, r.left.toNat < N) {A k : Nat} (h : Dv K A k) : A < N := by
  obtain ⟨r, hr, hl, _⟩ := dv_cases h
  have := hK r hr
  omega
/-- a long word: two places of a path with the same nonterminal, the lower one shorter -/
theorem long_two (hd : 1 ≤ d) (hr : ∀ r ∈ K, r.right.length ≤ d) (hK : ∀ r ∈ K, r.left.toNat < N) {A k : Nat} (h : Dv K A k) (hk : d ^ N < k) :
    ∃ (f : Nat → Nat × Nat) (m i j : Nat), f 0 = (A, k) ∧ (∀ i, i < m → Stp K (f i) (f (i + 1))) ∧ i < j ∧ j ≤ m ∧ (f i).1 = (f j).1 ∧ (f j).2 < (f i).2 ∧ (f i).2 ≤ d ^ (N + 1) ∧ Dv K (f j).1 (f j).2 := by
  obtain ⟨h, hm⟩ := mh_some h
  have hN : N < h := by
    rcases Nat.lt_or_ge N h with e | e
    · exact e
    · have h1 := len_h hd hr h A k hm.1
      have h2 := Nat.pow_le_pow_right hd e
      omega
  obtain ⟨m, rfl⟩ : ∃ m, h = m + 1 := ⟨h - 1, by omega⟩
  obtain ⟨f, f0, f1, f2⟩ := chain1 m A k hm
  obtain ⟨a, b, hab, hb, he⟩ := pigeon (size := N) (f := fun t => (f (m - N + t)).1) (fun t ht => dv_lt hK ⟨_, (f1 (m - N + t) (by omega)).1⟩)
  refine ⟨f, m, m - N + a, m - N + b, f0, f2, by omega, by omega, he, ?_, ?_, ⟨_, (f1 (m - N + b) (by omega)).1⟩⟩
  · have hs := (steps f2 (b - a) (m - N + a) (by omega)).1
    rw [show m - N + a + (b - a) = m - N + b by omega] at hs
    rcases Nat.lt_or_ge (f (m - N + b)).2 (f (m - N + a)).2 with e | e
    · exact e
    · have e2 : (f (m - N + a)).2 = (f (m - N + b)).2 := by omega
      have h1 := f1 (m - N + a) (by omega)
      have h2 := f1 (m - N + b) (by omega)
      have he' : (f (m - N + a)).1 = (f (m - N + b)).1 := he
      rw [he', e2] at h1
      have := h1.uniq h2
      omega
  · have h1 := f1 (m - N + a) (by omega)
    exact Nat.le_trans (len_h hd hr _ _ _ h1.1) (Nat.pow_le_pow_right hd (by omega))
theorem cut (hd : 1 ≤ d) (hr : ∀ r ∈ K, r.right.length ≤ d) (hK : ∀ r ∈ K, r.left.toNat < N) {A k : Nat} (h : Dv K A k) (hk : d ^ N < k) : ∃ k', k' < k ∧ k ≤ k' + d ^ (N + 1) ∧ Dv K A k' := by
  obtain ⟨f, m, i, j, f0, f1, hij, hjm, he, hlt, hle, hdv⟩ := long_two hd hr hK h hk
  obtain ⟨a1, _, a3⟩ := steps f1 i 0 (by omega)
  rw [Nat.zero_add, f0] at a1 a3
  have h1 := a3 (f j).2 (by rw [he]; exact hdv)
  have a1' : (f i).2 ≤ k := a1
  have h1' : Dv K A (k - (f i).2 + (f j).2) := h1
  exact ⟨_, by omega, by omega, h1'⟩
/-- of the long words one is not too long -/
theorem window (hd : 1 ≤ d) (hr : ∀ r ∈ K, r.right.length ≤ d) (hK : ∀ r ∈ K, r.left.toNat < N) {A : Nat} : ∀ (k : Nat), Dv K A k → d ^ N < k → ∃ k', Dv K A k' ∧ d ^ N < k' ∧ k' ≤ d ^ N + d ^ (N + 1) := by
  intro k
  induction k using Nat.strongRecOn with
  | ind k ih =>
    intro h hk
    obtain ⟨k', h1, h2, h3⟩ := cut hd hr hK h hk
    by_cases e : d ^ N < k'
    · exact ih k' h1 h3 e
    · exact ⟨k, h, hk, by omega⟩
/-- where there is a long word, a cycle grows -/
theorem long_grow (hd : 1 ≤ d) (hr : ∀ r ∈ K, r.right.length ≤ d) (hK : ∀ r ∈ K, r.left.toNat < N) {A k : Nat} (h : Dv K A k) (hk : d ^ N < k) : GrowC K := by
  obtain ⟨f, m, i, j, f0, f1, hij, hjm, he, hlt, hle, hdv⟩ := long_two hd hr hK h hk
  obtain ⟨p, h1, h2, h3⟩ := fall f1 (j - i) i (by omega) (by rw [show i + (j - i) = j by omega]; exact hlt)
  refine ⟨(f p).1, (f (p + 1)).1, (f1 p (by omega)).2.2.1 h3, ?_⟩
  obtain ⟨_, a2, _⟩ := steps f1 (p - i) i (by omega)
  obtain ⟨_, b2, _⟩ := steps f1 (j - (p + 1)) (p + 1) (by omega)
  rw [show i + (p - i) = p by omega] at a2
  rw [show p + 1 + (j - (p + 1)) = j by omega] at b2
  rw [he] at a2
  rcases a2 with e | a2
  · obtain rfl : p = i := by omega
    rcases b2 with e2 | b2
    · obtain rfl : j = p + 1 := by omega
      exact .inl he
    · rw [← he] at b2; exact .inr b2
  · rcases b2 with e2 | b2
    · obtain rfl : j = p + 1 := by omega
      exact .inr a2
    · exact .inr (b2.trans a2)

/-- what grows below grows above -/
def Wk (K : List Rule) (A B p : Nat) : Prop := ∀ j, Dv K B j → ∃ k, j + p ≤ k ∧ Dv K A k
theorem Wk.trans {A B C p q : Nat} (h : Wk K A B p) (h' : Wk K B C q) : Wk K A C (p + q) := fun j hj => by
  obtain ⟨k, h1, h2⟩ := h' j hj
  obtain ⟨k', h3, h4⟩ := h k h2
  exact ⟨k', by omega, h4⟩
theorem row_app {o : Sym → Nat → Prop} : ∀ {a b : List Sym} {i j : Nat}, Row o a i → Row o b j → Row o (a ++ b) (i + j)
  | [], _, i, j, h1, h2 => by have : i = 0 := h1; subst this; simpa using h2
  | s :: a, b, i, j, ⟨x, y, e, h1, h2⟩, h3 => ⟨x, y + j, by omega, h1, row_app h2 h3⟩
/-- all symbols have words -/
def Full (K : List Rule) : Prop := ∀ r ∈ K, ∀ s ∈ r.right, ∃ k, Ds K s k
theorem row_some : ∀ {l : List Sym}, (∀ s ∈ l, ∃ k, Ds K s k) → ∃ k, Row (Ds K) l k
  | [], _ => ⟨0, rfl⟩
  | s :: l, h => by
    obtain ⟨i, hi⟩ := h s List.mem_cons_self
    obtain ⟨j, hj⟩ := row_some (l := l) fun s hs => h s (List.mem_cons_of_mem _ hs)
    exact ⟨i + j, i, j, rfl, hi, hj⟩
theorem row_more : ∀ {l : List Sym}, (∀ s ∈ l, ∃ k, Ds K s k) → (∃ x ∈ l, Grows K x) → ∃ k, 0 < k ∧ Row (Ds K) l k
  | [], _, ⟨x, hx, _⟩ => by simp at hx
  | s :: l, h, ⟨x, hx, hg⟩ => by
    rcases List.mem_cons.1 hx with rfl | hx
    · obtain ⟨i, h0, hi⟩ := hg
      obtain ⟨j, hj⟩ := row_some (l := l) fun s hs => h s (List.mem_cons_of_mem _ hs)
      exact ⟨i + j, by omega, i, j, rfl, hi, hj⟩
    · obtain ⟨i, hi⟩ := h s List.mem_cons_self
      obtain ⟨j, h0, hj⟩ := row_more (l := l) (fun s hs => h s (List.mem_cons_of_mem _ hs)) ⟨x, hx, hg⟩
      exact ⟨i + j, by omega, i, j, rfl, hi, hj⟩
theorem row_mid {a b : List Sym} {s : Sym} {k j : Nat} (h : Row (Ds K) (a ++ b) k) (hs : Ds K s j) : Row (Ds K) (a ++ s :: b) (k + j) := by
  induction a generalizing k with
  | nil => exact ⟨j, k, by omega, hs, h⟩
  | cons x a ih =>
    obtain ⟨i, i2, e, h1, h2⟩ := h
    exact ⟨i, i2 + j, by omega, h1, ih h2⟩
theorem edge_wk (hF : Full K) {A B : Nat} (h : Edge K A B) : Wk K A B 0 := fun j hj => by
  obtain ⟨r, hr, hl, a, s, b, e, ht, hn⟩ := h
  obtain ⟨k, hk⟩ := row_some (K := K) (l := a ++ b) (fun x hx => hF r hr x (by rw [e]; simp at hx ⊢; rcases hx with h | h <;> simp [h]))
  refine ⟨k + j, by omega, dv_rule hr hl (row_dl.1 (by rw [e]; exact row_mid hk (by unfold Ds; rw [if_neg (by simp [ht]), hn]; exact hj)))⟩
theorem more_wk (hF : Full K) {A B : Nat} (h : More K A B) : Wk K A B 1 := fun j hj => by
  obtain ⟨r, hr, hl, a, s, b, e, ht, hn, hx⟩ := h
  obtain ⟨k, h0, hk⟩ := row_more (K := K) (l := a ++ b) (fun x hx => hF r hr x (by rw [e]; simp at hx ⊢; rcases hx with h | h <;> simp [h])) hx
  refine ⟨k + j, by omega, dv_rule hr hl (row_dl.1 (by rw [e]; exact row_mid hk (by unfold Ds; rw [if_neg (by simp [ht]), hn]; exact hj)))⟩
theorem pth_wk (hF : Full K) (hl : ∀ r ∈ K, 0 ≤ r.left) {A B : Nat} (h : Pth (kE K) A B) : Wk K A B 0 := by
  induction h with
  | one h => exact edge_wk hF (mem_edge hl h)
  | cons h _ ih => exact (edge_wk hF (mem_edge hl h)).trans ih
theorem grow_long (hF : Full K) (hl : ∀ r ∈ K, 0 ≤ r.left) {S : Nat} (hS : ∀ P Q, Edge K P Q → P = S ∨ Pth (kE K) S P) (hg : GrowC K) : ∀ m, ∃ k, m ≤ k ∧ Dv K S k := by
  obtain ⟨P, Q, hm, hc⟩ := hg
  have hPP : Wk K P P 1 := by
    rcases hc with rfl | hc
    · exact more_wk hF hm
    · exact (more_wk hF hm).trans (pth_wk hF hl hc)
  have hSP : Wk K S P 0 := by
    rcases hS P Q (more_edge hm) with rfl | h
    · exact fun j hj => ⟨j, by omega, hj⟩
    · exact pth_wk hF hl h
  have hP : ∃ k, Dv K P k := by
    obtain ⟨r, hr, hlr, a, s, b, e, ht, hn, _⟩ := hm
    obtain ⟨k, hk⟩ := row_some (K := K) (l := r.right) (fun x hx => hF r hr x hx)
    exact ⟨k, dv_rule hr hlr (row_dl.1 hk)⟩
  have hall : ∀ m, ∃ k, m ≤ k ∧ Dv K P k := by
    intro m
    induction m with
    | zero => obtain ⟨k, hk⟩ := hP; exact ⟨k, by omega, hk⟩
    | succ m ih =>
      obtain ⟨k, h1, h2⟩ := ih
      obtain ⟨k', h3, h4⟩ := hPP k h2
      exact ⟨k', by omega, h4⟩
  intro m
  obtain ⟨k, h1, h2⟩ := hall m
  obtain ⟨k', h3, h4⟩ := hSP k h2
  exact ⟨k', by omega, h4⟩
end
end Gr
end Go.Proofs.Ytmbjnemahgfhcaa
namespace Go.Proofs.Ytmbjnemahgfhcaa
open Go.RowKit
namespace Cs

def stepV (X : Nat → Int) (acc : Int) (s : Sym) : Int := if 0 ≤ acc then (if s.term then acc + 1 else if 0 ≤ X s.n.toNat then acc + X s.n.toNat else -1) else -1
def sumV (X : Nat → Int) (l : List Sym) : Int := l.foldl (stepV X) 0
/-- each number is a length, none is below -1 -/
def SoundV (rules : List Rule) (X : Nat → Int) : Prop := ∀ A, -1 ≤ X A ∧ (0 ≤ X A → Dv rules A (X A).toNat)
def ClosedV (rules : List Rule) (X : Nat → Int) : Prop := ∀ r ∈ rules, 0 ≤ sumV X r.right → 0 ≤ X r.left.toNat ∧ X r.left.toNat ≤ sumV X r.right
def LeastV (rules : List Rule) (N : Nat) (X : Nat → Int) : Prop := ∀ A, A < N → -1 ≤ X A ∧ (0 ≤ X A → Dv rules A (X A).toNat) ∧ ∀ k, Dv rules A k → 0 ≤ X A ∧ X A ≤ (k : Int)
theorem stepV_snoc {X : Nat → Int} {l : List Sym} {s : Sym} : sumV X (l ++ [s]) = stepV X (sumV X l) s := by unfold sumV; rw [List.foldl_append]; rfl
section
variable {rules : List Rule} {X : Nat → Int}
theorem fold_neg : ∀ (l : List Sym) (a : Int), a < 0 → l.foldl (stepV X) a < 0
  | [], _, h => h
  | s :: l, a, h => by
    rw [List.foldl_cons]
    refine fold_neg l _ ?_
    unfold stepV
    rw [if_neg (by omega)]; omega
theorem fold_dl (hs : SoundV rules X) : ∀ (l : List Sym) (a : Int), 0 ≤ a → 0 ≤ l.foldl (stepV X) a → a ≤ l.foldl (stepV X) a ∧ Dl rules l (l.foldl (stepV X) a - a).toNat
  | [], a, _, _ => by
    rw [List.foldl_nil]
    exact ⟨Int.le_refl _, by show (a - a).toNat = 0; omega⟩
  | s :: l, a, ha, h => by
    rw [List.foldl_cons] at h ⊢
    by_cases hb : 0 ≤ stepV X a s
    · obtain ⟨h1, h2⟩ := fold_dl hs l _ hb h
      have hst : a ≤ stepV X a s ∧ Ds rules s (stepV X a s - a).toNat := by
        unfold stepV at hb ⊢
        unfold Ds
        rw [if_pos ha] at hb ⊢
        by_cases e : s.term = true
        · rw [if_pos e, if_pos e]; omega
        · rw [if_neg e] at hb
          rw [if_neg e, if_neg e]
          by_cases e2 : 0 ≤ X s.n.toNat
          · rw [if_pos e2]
            refine ⟨by omega, ?_⟩
            have := (hs s.n.toNat).2 e2
            rwa [show a + X s.n.toNat - a = X s.n.toNat by omega]
          · rw [if_neg e2] at hb; omega
      refine ⟨by omega, ?_⟩
      exact ⟨(stepV X a s - a).toNat, (l.foldl (stepV X) (stepV X a s) - stepV X a s).toNat, by omega, hst.2, h2⟩
    · have hn := fold_neg (X := X) l (stepV X a s) (by omega)
      omega
theorem sum_dl (hs : SoundV rules X) {l : List Sym} (h : 0 ≤ sumV X l) : Dl rules l (sumV X l).toNat := by
  have := (fold_dl hs l 0 (Int.le_refl _) h).2
  rwa [Int.sub_zero] at this
/-- a table with which each derivation is met -/
theorem fold_le {h : Nat} (hle : ∀ A k, 0 < cnt rules h A k → 0 ≤ X A ∧ X A ≤ (k : Int)) : ∀ (l : List Sym) (k : Nat) (a : Int), 0 ≤ a → 0 < cN (oN (cnt rules h)) l k → 0 ≤ l.foldl (stepV X) a ∧ l.foldl (stepV X) a ≤ a + k
  | [], k, a, ha, hp => by
    rw [List.foldl_nil]; omega
  | s :: l, k, a, ha, hp => by
    rw [cN] at hp
    obtain ⟨i, hi, hpi⟩ := sumN_pos_iff.1 hp
    have h1 : 0 < oN (cnt rules h) s i := Nat.pos_of_mul_pos_right hpi
    have h2 : 0 < cN (oN (cnt rules h)) l (k - i) := Nat.pos_of_mul_pos_left hpi
    have hst : 0 ≤ stepV X a s ∧ stepV X a s ≤ a + i := by
      unfold stepV
      unfold oN at h1
      rw [if_pos ha]
      by_cases e : s.term = true
      · rw [if_pos e] at h1 ⊢
        by_cases e2 : i = 1
        · omega
        · rw [if_neg e2] at h1; omega
      · rw [if_neg e] at h1 ⊢
        have := hle _ _ h1
        rw [if_pos this.1]; omega
    rw [List.foldl_cons]
    have := fold_le hle l (k - i) _ hst.1 h2
    omega
theorem closed_least (hs : SoundV rules X) (hl : ∀ r ∈ rules, 0 ≤ r.left) (hc : ClosedV rules X) (N : Nat) : LeastV rules N X := by
  have key : ∀ h A k, 0 < cnt rules h A k → 0 ≤ X A ∧ X A ≤ (k : Int) := by
    intro h
    induction h with
    | zero => intro A k hp; exact absurd hp (Nat.lt_irrefl _)
    | succ h ih =>
      intro A k hp
      rw [cnt] at hp
      obtain ⟨r, hr, he, h2⟩ := (cR_posI _).1 hp
      have h3 := fold_le ih r.right k 0 (Int.le_refl _) h2
      have h4 := hc r hr h3.1
      have : r.left.toNat = A := by rw [he]; simp
      rw [this] at h4
      have h5 : sumV X r.right ≤ 0 + k := h3.2
      omega
  intro A _
  exact ⟨(hs A).1, (hs A).2, fun k ⟨h, hp⟩ => key h A k hp⟩
end
end Cs
end Go.Proofs.Ytmbjnemahgfhcaa
namespace Go.Proofs.Ytmbjnemahgfhcaa
open Go.RowKit
namespace Gr
open Cs

/-- the items of the reference's way have the lengths -/
theorem row_snoc {o : Sym → Nat → Prop} {a : List Sym} {s : Sym} {i j : Nat} (h : Row o a i) (hs : o s j) : Row o (a ++ [s]) (i + j) := row_app h ⟨j, 0, by omega, hs, rfl⟩
section
variable {K : List Rule}
theorem it_row (hl : ∀ r ∈ K, 0 ≤ r.left) {i d l : Nat} (h : Ln.It K i d l) : Row (Ds K) ((Ln.rt K i).take d) l := by
  induction h with
  | start h => exact rfl
  | @term i d l s h1 h2 h3 ih =>
    obtain ⟨hd, he⟩ := List.getElem?_eq_some_iff.1 h2
    rw [List.take_succ_eq_append_getElem hd, he]
    exact row_snoc ih (by unfold Ds; rw [if_pos h3])
  | @non i d l j k s h1 h2 h3 h4 h5 ih ih2 =>
    obtain ⟨hd, he⟩ := List.getElem?_eq_some_iff.1 h2
    rw [List.take_succ_eq_append_getElem hd, he]
    refine row_snoc ih ?_
    unfold Ds
    rw [if_neg (by simp [h3])]
    rw [List.take_length] at ih2
    have hj := h4.lt
    have hm := List.getElem_mem hj
    have h0 := hl _ hm
    rw [Ln.rt_eq hj] at ih2
    rw [Ln.lft_eq hj] at h5
    exact dv_rule hm (by rw [h5] at h0 ⊢; omega) (row_dl.1 ih2)
theorem row_it {i : Nat} (hi : i < K.length) : ∀ (b a : List Sym) (l k : Nat), Ln.rt K i = a ++ b → Ln.It K i a.length l → Row (fun s x => if s.term then x = 1 else Ln.Has K s.n x) b k → Ln.It K i (a ++ b).length (l + k)
  | [], a, l, k, he, h, hr => by have : k = 0 := hr; subst this; simpa using h
  | s :: b, a, l, k, he, h, ⟨x, y, e, h1, h2⟩ => by
    have hs : (Ln.rt K i)[a.length]? = some s := by rw [he]; simp
    have h3 : Ln.It K i (a ++ [s]).length (l + x) := by
      rw [List.length_append]
      dsimp only at h1
      by_cases ht : s.term = true
      · rw [if_pos ht] at h1
        subst h1
        exact .term h hs ht
      · rw [if_neg ht] at h1
        obtain ⟨j, hj, hj2⟩ := h1
        exact .non h hs (by simpa using ht) hj hj2
    have h4 := row_it hi b (a ++ [s]) (l + x) y (by rw [he]; simp) h3 h2
    rw [e, show l + (x + y) = l + x + y by omega]
    simpa using h4
theorem has_dv (hl : ∀ r ∈ K, 0 ≤ r.left) (hn : ∀ r ∈ K, ∀ s ∈ r.right, s.term = false → 0 ≤ s.n) {A k : Nat} : Ln.Has K (A : Int) k ↔ Dv K A k := by
  constructor
  · rintro ⟨j, hj, he⟩
    have h1 := it_row hl hj
    rw [List.take_length] at h1
    have hlt := hj.lt
    rw [Ln.rt_eq hlt] at h1
    rw [Ln.lft_eq hlt] at he
    exact dv_rule (List.getElem_mem hlt) he (row_dl.1 h1)
  · intro h
    refine dv_ind (P := fun A k => Ln.Has K (A : Int) k) (fun r hr A k hlr hrow => ?_) h
    obtain ⟨i, hi, rfl⟩ := List.getElem_of_mem hr
    refine ⟨i, ?_, by rw [Ln.lft_eq hi]; exact hlr⟩
    have h1 := row_it hi K[i].right [] 0 k (by rw [Ln.rt_eq hi]; rfl) (.start hi) (hrow.mono_in fun s hs x hx => by
      by_cases ht : s.term = true
      · rw [if_pos ht] at hx ⊢; exact hx
      · rw [if_neg ht] at hx ⊢
        have := hn _ hr s hs (by simpa using ht)
        rw [show ((s.n.toNat : Nat) : Int) = s.n by omega] at hx
        exact hx)
    rw [Ln.rt_eq hi]
    simpa using h1
end

def useR (X : Nat → Int) (r : Rule) : Bool := !(r.right.any fun s => !s.term && decide (X s.n.toNat < 0))
def toF (I : Nat → Bool) (A : Nat) : Nat := if I A then ((List.range A).filter I).length else 0
def renS (I : Nat → Bool) (s : Sym) : Sym := if s.term then s else ⟨false, (toF I s.n.toNat : Int)⟩
def renR (I : Nat → Bool) (r : Rule) : Rule := ⟨(toF I r.left.toNat : Int), r.right.map (renS I)⟩
def keepR (X : Nat → Int) (I : Nat → Bool) (r : Rule) : Bool := I r.left.toNat && useR X r
def trimR (X : Nat → Int) (I : Nat → Bool) (K : List Rule) : List Rule := (K.filter (keepR X I)).map (renR I)
/-- what is reached: by rules that have words -/
def useE (X : Nat → Int) (K : List Rule) : List (Nat × Nat) := kE (K.filter (useR X))
structure Trm (K : List Rule) (N S : Nat) (X : Nat → Int) (I : Nat → Bool) : Prop where
  least : LeastV K N X
  left : ∀ r ∈ K, 0 ≤ r.left ∧ r.left.toNat < N
  right : ∀ r ∈ K, ∀ s ∈ r.right, s.term = false → 0 ≤ s.n ∧ s.n.toNat < N
  hS : S < N
  start : I S = true
  lt : ∀ A, I A = true → A < N
  clo : ∀ r ∈ K, I r.left.toNat = true → useR X r = true → ∀ s ∈ r.right, s.term = false → I s.n.toNat = true
  snd : ∀ A, I A = true → A = S ∨ Pth (useE X K) S A
section
variable {K : List Rule} {N S : Nat} {X : Nat → Int} {I : Nat → Bool}
theorem use_iff {r : Rule} : useR X r = true ↔ ∀ s ∈ r.right, s.term = false → 0 ≤ X s.n.toNat := by
  unfold useR
  simp
theorem filter_lt : ∀ {A B : Nat}, A < B → I A = true → ((List.range A).filter I).length < ((List.range B).filter I).length := by
  intro A B h hA
  induction B with
  | zero => omega
  | succ B ih =>
    rw [List.range_succ, List.filter_append, List.length_append]
    by_cases e : A = B
    · subst e; simp [hA]
    · have := ih (by omega); omega
theorem toF_inj {A B : Nat} (hA : I A = true) (hB : I B = true) (h : toF I A = toF I B) : A = B := by
  unfold toF at h
  rw [if_pos hA, if_pos hB] at h
  rcases Nat.lt_trichotomy A B with e | e | e
  · have := filter_lt e hA; omega
  · exact e
  · have := filter_lt e hB; omega
theorem toF_lt {A : Nat} (hA : I A = true) (h : A < N) : toF I A < ((List.range N).filter I).length := by
  unfold toF
  rw [if_pos hA]
  exact filter_lt h hA
/-- a nonterminal that is kept has words -/
theorem Trm.word (h : Trm K N S X I) (hS : 0 ≤ X S) {A : Nat} (hA : I A = true) : 0 ≤ X A := by
  rcases h.snd A hA with rfl | hp
  · exact hS
  · have : ∀ {P Q : Nat}, Pth (useE X K) P Q → 0 ≤ X Q := by
      intro P Q hp
      induction hp with
      | @one i j hm =>
        unfold useE kE at hm
        rw [List.mem_flatMap] at hm
        obtain ⟨r, hr, hm⟩ := hm
        rw [List.mem_filter] at hr
        unfold ruleEdges at hm
        rw [List.mem_filterMap] at hm
        obtain ⟨s, hs, hm⟩ := hm
        cases ht : s.term with
        | true => simp [ht] at hm
        | false =>
          simp [ht] at hm
          rw [← hm.2]
          exact use_iff.1 hr.2 s hs ht
      | cons _ _ ih => exact ih
    exact this hp
theorem keep_iff {r : Rule} : keepR X I r = true ↔ I r.left.toNat = true ∧ useR X r = true := by unfold keepR; simp
theorem mem_trim {r : Rule} : r ∈ trimR X I K ↔ ∃ q ∈ K, I q.left.toNat = true ∧ useR X q = true ∧ r = renR I q := by
  unfold trimR
  rw [List.mem_map]
  constructor
  · rintro ⟨q, hq, rfl⟩
    rw [List.mem_filter, keep_iff] at hq
    exact ⟨q, hq.1, hq.2.1, hq.2.2, rfl⟩
  · rintro ⟨q, h1, h2, h3, rfl⟩
    exact ⟨q, by rw [List.mem_filter, keep_iff]; exact ⟨h1, h2, h3⟩, rfl⟩
theorem renS_term (s : Sym) : (renS I s).term = s.term := by unfold renS; cases h : s.term <;> simp [h]
theorem row_ren {o o' : Sym → Nat → Prop} : ∀ {l : List Sym} {k : Nat}, (∀ s ∈ l, ∀ i, o s i → o' (renS I s) i) → Row o l k → Row o' (l.map (renS I)) k
  | [], _, _, h => h
  | s :: l, k, hs, ⟨i, j, e, h1, h2⟩ => ⟨i, j, e, hs s List.mem_cons_self _ h1, row_ren (fun s h => hs s (List.mem_cons_of_mem _ h)) h2⟩
theorem row_unren {o o' : Sym → Nat → Prop} : ∀ {l : List Sym} {k : Nat}, (∀ s ∈ l, ∀ i, o' (renS I s) i → o s i) → Row o' (l.map (renS I)) k → Row o l k
  | [], _, _, h => h
  | s :: l, k, hs, ⟨i, j, e, h1, h2⟩ => ⟨i, j, e, hs s List.mem_cons_self _ h1, row_unren (fun s h => hs s (List.mem_cons_of_mem _ h)) h2⟩
theorem row_each {o : Sym → Nat → Prop} : ∀ {l : List Sym} {k : Nat}, Row o l k → ∀ s ∈ l, ∃ i, o s i
  | [], _, _, s, hs => by simp at hs
  | x :: l, k, ⟨i, j, e, h1, h2⟩, s, hs => by
    rcases List.mem_cons.1 hs with rfl | hs
    · exact ⟨i, h1⟩
    · exact row_each h2 s hs
theorem Trm.to (h : Trm K N S X I) {A k : Nat} (hd : Dv K A k) : I A = true → Dv (trimR X I K) (toF I A) k := by
  have := dv_ind (P := fun A k => Dv K A k ∧ (I A = true → Dv (trimR X I K) (toF I A) k)) (fun r hr A k hl hrow => ?_) hd
  · exact this.2
  · have h1 : Row (Ds K) r.right k := hrow.mono fun s i hs => by
      unfold Ds
      split
      · next e => rw [if_pos e] at hs; exact hs
      · next e => rw [if_neg e] at hs; exact hs.1
    refine ⟨dv_rule hr hl (row_dl.1 h1), fun hA => ?_⟩
    have hlA : r.left.toNat = A := by omega
    have hu : useR X r = true := use_iff.2 fun s hs ht => by
      obtain ⟨i, hi⟩ := row_each h1 s hs
      unfold Ds at hi
      rw [if_neg (by simp [ht])] at hi
      exact ((h.least s.n.toNat (h.right r hr s hs ht).2).2.2 i hi).1
    have hm : renR I r ∈ trimR X I K := mem_trim.2 ⟨r, hr, by rw [hlA]; exact hA, hu, rfl⟩
    refine dv_rule hm (by show ((toF I r.left.toNat : Nat) : Int) = _; rw [hlA]) (row_dl.1 (row_ren (fun s hs i hsi => ?_) hrow))
    unfold Ds
    rw [renS_term]
    split
    · next e => rw [if_pos e] at hsi; exact hsi
    · next e =>
      rw [if_neg e] at hsi
      have ht : s.term = false := by simpa using e
      have h2 := hsi.2 (h.clo r hr (by rw [hlA]; exact hA) hu s hs ht)
      unfold renS
      rw [if_neg e]
      exact h2
theorem Trm.from (h : Trm K N S X I) {B k : Nat} (hd : Dv (trimR X I K) B k) : ∀ A, I A = true → toF I A = B → Dv K A k := by
  refine dv_ind (P := fun B k => ∀ A, I A = true → toF I A = B → Dv K A k) (fun r hr B k hl hrow A hA hAB => ?_) hd
  obtain ⟨q, hq, hI, hu, rfl⟩ := mem_trim.1 hr
  have hl' : ((toF I q.left.toNat : Nat) : Int) = (B : Int) := hl
  have hqA : q.left.toNat = A := toF_inj hI hA (by omega)
  have h0 := (h.left q hq).1
  refine dv_rule hq (by omega) (row_dl.1 (row_unren (fun s hs i hsi => ?_) hrow))
  rw [renS_term] at hsi
  unfold Ds
  split
  · next e => rw [if_pos e] at hsi; exact hsi
  · next e =>
    rw [if_neg e] at hsi
    have ht : s.term = false := by simpa using e
    refine hsi _ (h.clo q hq hI hu s hs ht) ?_
    unfold renS
    rw [if_neg e]
    rfl
theorem Trm.full (h : Trm K N S X I) : Full (trimR X I K) := by
  intro r hr s hs
  obtain ⟨q, hq, hI, hu, rfl⟩ := mem_trim.1 hr
  obtain ⟨s', hs', rfl⟩ := List.mem_map.1 (show s ∈ q.right.map (renS I) from hs)
  unfold Ds
  rw [renS_term]
  cases ht : s'.term with
  | true => exact ⟨1, rfl⟩
  | false =>
    have h0 := use_iff.1 hu s' hs' ht
    have hd := (h.least s'.n.toNat (h.right q hq s' hs' ht).2).2.1 h0
    refine ⟨(X s'.n.toNat).toNat, ?_⟩
    rw [if_neg (by simp)]
    have h2 := h.to hd (h.clo q hq hI hu s' hs' ht)
    unfold renS
    rw [if_neg (by simp [ht])]
    exact h2
theorem Trm.in_path (h : Trm K N S X I) {A B : Nat} (hp : Pth (useE X K) A B) : I A = true → I B = true ∧ Pth (kE (trimR X I K)) (toF I A) (toF I B) := by
  have step : ∀ {A B : Nat}, (A, B) ∈ useE X K → I A = true → I B = true ∧ (toF I A, toF I B) ∈ kE (trimR X I K) := by
    intro A B hm hA
    have he := mem_edge (fun r hr => (h.left r (List.mem_filter.1 hr).1).1) hm
    obtain ⟨r, hr, hl, a, s, b, e, ht, hn⟩ := he
    rw [List.mem_filter] at hr
    have hlA : r.left.toNat = A := by omega
    have hB : I B = true := by rw [← hn]; exact h.clo r hr.1 (by rw [hlA]; exact hA) hr.2 s (by rw [e]; simp) ht
    refine ⟨hB, edge_mem ⟨renR I r, mem_trim.2 ⟨r, hr.1, by rw [hlA]; exact hA, hr.2, rfl⟩, by show ((toF I r.left.toNat : Nat) : Int) = _; rw [hlA], a.map (renS I), renS I s, b.map (renS I), by show r.right.map (renS I) = _; rw [e]; simp, by rw [renS_term]; exact ht, ?_⟩⟩
    unfold renS
    rw [if_neg (by simp [ht]), hn]
    rfl
  induction hp with
  | one hm => intro hA; have := step hm hA; exact ⟨this.1, .one this.2⟩
  | cons hm _ ih => intro hA; have h1 := step hm hA; have h2 := ih h1.1; exact ⟨h2.1, .cons h1.2 h2.2⟩
theorem Trm.reach (h : Trm K N S X I) : ∀ P Q, Edge (trimR X I K) P Q → P = toF I S ∨ Pth (kE (trimR X I K)) (toF I S) P := by
  rintro P Q ⟨r, hr, hl, _⟩
  obtain ⟨q, hq, hI, hu, rfl⟩ := mem_trim.1 hr
  have hl' : ((toF I q.left.toNat : Nat) : Int) = (P : Int) := hl
  have hP : P = toF I q.left.toNat := by omega
  rcases h.snd _ hI with e | hp
  · exact .inl (by rw [hP, e])
  · exact .inr (by rw [hP]; exact (h.in_path hp h.start).2)
end
end Gr
end Go.Proofs.Ytmbjnemahgfhcaa
namespace Go.Proofs.Ytmbjnemahgfhcaa
open Go.RowKit

theorem made_atV (z : Value) (n j : Nat) (h : j < n) : (madeCells #[z] n)[j]? = some z := by
  simp [madeCells, h, Nat.mod_one]
/-- the row in block g has m cells, A k at place k -/
def Vrow (e : TypeId) (g m : Nat) (A : Nat → Value) (wr : World) : Prop := ∃ cs, wr.heap[g]? = some (.cells cs e (0, 0)) ∧ cs.size = m ∧ ∀ k, k < m → cs[k]? = some (A k)
section
variable {e : TypeId} {g m : Nat} {A A' : Nat → Value} {wr w' : World}
theorem Vrow.lt (h : Vrow e g m A wr) : g < wr.heap.size := by obtain ⟨cs, h1, _⟩ := h; exact (Array.getElem?_eq_some_iff.1 h1).1
theorem Vrow.keep (h : Vrow e g m A wr) (hb : Below wr.heap.size wr w') : Vrow e g m A w' := by obtain ⟨cs, h1, h2⟩ := h; exact ⟨cs, bx_keep h1 hb, h2⟩
theorem Vrow.grown {row : Option Nat} (h : Vrow e g m A wr) (hg : wr.grownBy w' row) (hr : row ≠ some g) : Vrow e g m A w' := by obtain ⟨cs, h1, h2⟩ := h; exact ⟨cs, (hg.block g (Array.getElem?_eq_some_iff.1 h1).1 (fun e => hr e.symm)).trans h1, h2⟩
theorem Vrow.cell (h : Vrow e g m A wr) {k : Nat} (hk : k < m) : wr.cell? ⟨g, k, none⟩ = some (A k) := by obtain ⟨cs, h1, h2, h3⟩ := h; simp [World.cell?, h1, h3 k hk]
theorem Vrow.free (h : Vrow e g m A wr) (k : Nat) : wr.frozen? ⟨g, k, none⟩ = false := by obtain ⟨cs, h1, h2, h3⟩ := h; simp [World.frozen?, h1]
theorem Vrow.eq (h : Vrow e g m A wr) (he : ∀ k, k < m → A k = A' k) : Vrow e g m A' wr := by obtain ⟨cs, h1, h2, h3⟩ := h; exact ⟨cs, h1, h2, fun k hk => by rw [h3 k hk, he k hk]⟩
theorem Vrow.set (h : Vrow e g m A wr) {j : Nat} {x : Value} (hj : j < m) (he : ∀ k, k < m → A' k = if k = j then x else A k) : Vrow e g m A' (wr.setCell ⟨g, j, none⟩ x) := by
  obtain ⟨cs, h1, h2, h3⟩ := h
  refine ⟨cs.setIfInBounds j x, bx_set h1 _ _, by simpa using h2, fun k hk => ?_⟩
  rw [Array.getElem?_setIfInBounds, he k hk]
  by_cases e : j = k
  · subst e; rw [if_pos rfl, if_pos (by omega)]; simp
  · rw [if_neg e, h3 k hk, if_neg (fun h => e h.symm)]
theorem Vrow.other (h : Vrow e g m A wr) {b : Nat} (hne : g ≠ b) (j : Nat) (v : Value) : Vrow e g m A (wr.setCell ⟨b, j, none⟩ v) := by obtain ⟨cs, h1, h2⟩ := h; exact ⟨cs, bx_other h1 hne _ _, h2⟩
theorem vrow_new (w : World) (e : TypeId) (z : Value) (m : Nat) {g : Nat} (hg : g = w.heap.size) : Vrow e g m (fun _ => z) (w.alloc (.cells (madeCells #[z] m) e)) := by
  subst hg
  exact ⟨_, bx_new _ _ _ rfl, size_madeCells _ _, fun k hk => made_atV _ _ _ hk⟩
end
end Go.Proofs.Ytmbjnemahgfhcaa
namespace Go.Proofs.Ytmbjnemahgfhcaa
open Go.RowKit
namespace Df

end Df
end Go.Proofs.Ytmbjnemahgfhcaa
namespace Go.Proofs.Ytmbjnemahgfhcaa
open Go.RowKit
namespace Cs

def cap9 (x : Nat) : Int := min (x : Int) 1000000000
/-- how many first lengths have been reckoned in at place z, the rounds being at X, Y -/
def cp (X Y z : Nat) : Nat := min (z + 1) X + (if X ≤ z ∧ z < X + Y then 1 else 0)
/-- the sum so far -/
def ps (o : Sym → Nat → Nat) (l : List Sym) (s : Sym) (X Y z : Nat) : Nat := sumN (fun x => cN o l x * o s (z - x)) (cp X Y z)
/-- three rows: numbers, whether there are any, and any just so high -/
structure R3 (B p1 p2 p3 m : Nat) (V1 : Nat → Int) (V2 V3 : Nat → Bool) (W : World) : Prop where
  r1 : Vrow 3 p1 m (fun k => .int .i64 (V1 k)) W
  r2 : Ln.Brow p2 m V2 W
  r3 : Ln.Brow p3 m V3 W
  lo : B ≤ p1 ∧ B ≤ p2 ∧ B ≤ p3
  ne : p1 ≠ p2 ∧ p1 ≠ p3 ∧ p2 ≠ p3
section
variable {B p1 p2 p3 m : Nat} {V1 V1' : Nat → Int} {V2 V3 V2' V3' : Nat → Bool} {W W' : World}
theorem R3.keep (h : R3 B p1 p2 p3 m V1 V2 V3 W) (hb : Below W.heap.size W W') : R3 B p1 p2 p3 m V1 V2 V3 W' := ⟨h.r1.keep hb, h.r2.keep hb, h.r3.keep hb, h.lo, h.ne⟩
theorem R3.other (h : R3 B p1 p2 p3 m V1 V2 V3 W) {q : Nat} (h1 : p1 ≠ q) (h2 : p2 ≠ q) (h3 : p3 ≠ q) (j : Nat) (v : Value) : R3 B p1 p2 p3 m V1 V2 V3 (W.setCell ⟨q, j, none⟩ v) := ⟨h.r1.other h1 j v, h.r2.other h2 j v, h.r3.other h3 j v, h.lo, h.ne⟩
theorem R3.eq (h : R3 B p1 p2 p3 m V1 V2 V3 W) (h1 : ∀ k, k < m → V1 k = V1' k) (h2 : ∀ k, k < m → V2 k = V2' k) (h3 : ∀ k, k < m → V3 k = V3' k) : R3 B p1 p2 p3 m V1' V2' V3' W := ⟨h.r1.eq fun k hk => by rw [h1 k hk], h.r2.eq h2, h.r3.eq h3, h.lo, h.ne⟩
theorem R3.set1 (h : R3 B p1 p2 p3 m V1 V2 V3 W) {j : Nat} {x : Int} (hj : j < m) (he : ∀ k, k < m → V1' k = if k = j then x else V1 k) : R3 B p1 p2 p3 m V1' V2 V3 (W.setCell ⟨p1, j, none⟩ (.int .i64 x)) :=
  ⟨h.r1.set hj (fun k hk => by rw [he k hk]; split <;> rfl), h.r2.other (fun e => h.ne.1 e.symm) _ _, h.r3.other (fun e => h.ne.2.1 e.symm) _ _, h.lo, h.ne⟩
theorem R3.set2 (h : R3 B p1 p2 p3 m V1 V2 V3 W) {j : Nat} {x : Bool} (hj : j < m) (he : ∀ k, k < m → V2' k = if k = j then x else V2 k) : R3 B p1 p2 p3 m V1 V2' V3 (W.setCell ⟨p2, j, none⟩ (.bool x)) :=
  ⟨h.r1.other h.ne.1 _ _, Brow.setV h.r2 hj he, h.r3.other (fun e => h.ne.2.2 e.symm) _ _, h.lo, h.ne⟩
theorem R3.set3 (h : R3 B p1 p2 p3 m V1 V2 V3 W) {j : Nat} {x : Bool} (hj : j < m) (he : ∀ k, k < m → V3' k = if k = j then x else V3 k) : R3 B p1 p2 p3 m V1 V2 V3' (W.setCell ⟨p3, j, none⟩ (.bool x)) :=
  ⟨h.r1.other h.ne.2.1 _ _, h.r2.other h.ne.2.2 _ _, Brow.setV h.r3 hj he, h.lo, h.ne⟩
end
end Cs
end Go.Proofs.Ytmbjnemahgfhcaa
namespace Go.Proofs.Ytmbjnemahgfhcaa
open Go.RowKit

section
variable {P : Program} {ops : Array Oper} {md : Region.Mode} {C : World → Prop}
/-- whatever order the head takes; L behind it -/
def wpHd (P : Program) (md : Region.Mode) (ops : Array Oper) (C : World → Prop) (n : Nat) (L : Array Bool → Act → Prop) : Nat → Array Bool → Act → Prop
  | 0, ld, a => L ld a
  | f + 1, ld, a => Region.ready md ops ld ≠ [] ∧ ∀ i ∈ Region.ready md ops ld, i < n ∧ qOp P ops C i (wpHd P md ops C n L f (ld.setIfInBounds i true)) a
theorem wpAny_of_hd {n g : Nat} {L : Array Bool → Act → Prop} {Q : Exit → Act → World → Prop} (hL : ∀ ld a w, C w → L ld a → wpAny P md ops Q g ld a w) :
    ∀ (f : Nat) (ld : Array Bool) (a : Act) (w : World), C w → wpHd P md ops C n L f ld a → wpAny P md ops Q (f + g) ld a w
  | 0, ld, a, w, hw, h => by rw [Nat.zero_add]; exact hL ld a w hw h
  | f + 1, ld, a, w, hw, h => by
    rw [Nat.add_right_comm]
    exact ⟨fun e => absurd e h.1, fun i hi => wpOp_of_qOp hw (fun a' w' hw' h' => wpAny_of_hd hL f _ a' w' hw' h') (h.2 i hi).2⟩
theorem wpHd_first {n i : Nat} {oi : Oper} {v : Value} {L : Array Bool → Act → Prop} (hi : ops[i]? = some oi) (hsel : ∀ (j : Nat) (o : Oper) cs b, ops[j]? = some o → o.op ≠ .select cs b)
    (hs : Region.sinkB md ops n = true) (hc : Region.chainB md ops n = true) (hn : n < ops.size) (hin : i < n) (hend : ∀ ld a, L ld a → ∀ j ∈ Region.ready md ops ld, n ≤ j) :
    ∀ (f : Nat) (ld : Array Bool) (a : Act), HeadInv md ops n ld →
      (∀ j oj, ops[j]? = some oj → j ≠ i → ld.getD j true = false → (∀ e ∈ oj.after, Region.binds md e = true → e.on ≠ i) → oi.apart ops oj = true) →
      i ∈ Region.ready md ops ld → YieldsIn P ops C oi v a → wpHd P md ops C n L f (ld.setIfInBounds i true) (a.put oi.dst v) → wpHd P md ops C n L (f + 1) ld a := by
  intro f
  induction f with
  | zero =>
    intro ld a inv _ hr hy H
    refine ⟨fun e => (by rw [e] at hr; cases hr), fun j hj => ?_⟩
    have hjn : j < n := Nat.lt_of_not_le fun h => tail_waits hs hc hn inv _ i rfl hin (mem_ready.1 hr).1 j h hj
    by_cases e : j = i
    · subst e; exact ⟨hjn, hy.qOp hi H⟩
    · have := hend _ _ H j (ready_mono hj e)
      omega
  | succ f ih =>
    intro ld a inv hfree hr hy H
    refine ⟨fun e => (by rw [e] at hr; cases hr), fun j hj => ?_⟩
    have hjn : j < n := Nat.lt_of_not_le fun h => tail_waits hs hc hn inv _ i rfl hin (mem_ready.1 hr).1 j h hj
    refine ⟨hjn, ?_⟩
    by_cases e : j = i
    · subst e; exact hy.qOp hi H
    obtain ⟨hju, oj, hoj, hall⟩ := mem_ready.1 hj
    have hno : ∀ e ∈ oj.after, Region.binds md e = true → e.on ≠ i := fun x hx hb he => by
      have h1 := hall x hx hb
      rw [he, getD_both (mem_ready.1 hr).1] at h1
      cases h1
    have h2 := qOp_put hoj (hfree j oj hoj e hju hno) (fun cs b => hsel i oi cs b hi) (fun cs b => hsel j oj cs b hoj) hy (H.2 j (ready_mono hj e)).2
    refine qOp_mono (fun a' h3 => ih _ a' (inv.set hj hjn) ?_ (ready_mono hr (Ne.symm e)) h3.1 ?_) h2
    · intro k ok hk hki hu hn'
      by_cases hjk : j = k
      · subst hjk; exact hfree j ok hk hki hju hn'
      · exact hfree k ok hk hki (by rwa [getD_set_ne true hjk] at hu) hn'
    · rw [Array.setIfInBounds_comm _ _ e]
      exact h3.2
theorem wpHd_lex {n g : Nat} {R : Act → Prop} (hsel : Region.noSelect ops = true) (hs : Region.sinkB md ops n = true) (hc : Region.chainB md ops n = true) (hn : n < ops.size) :
    ∀ (l : List Oper) (k : Nat) (ld : Array Bool) (a : Act), (∀ j, j < l.length → l[j]? = ops[k + j]?) → k + l.length = n → HeadInv md ops n ld →
    Region.lexHead md ops g l.length k ld = true → wpQuiet P ops C R l a → wpHd P md ops C n (fun ld' a' => Region.seqB md ops g n ld' = true ∧ R a') l.length ld a
  | [], k, ld, a, _, hk, _, hB, h => by
    obtain rfl : k = n := by simpa using hk
    exact ⟨by simpa [Region.lexHead] using hB, h⟩
  | o :: l, k, ld, a, hl, hk, inv, hB, h => by
    have h0 : ops[k]? = some o := by simpa using (hl 0 (by simp)).symm
    simp only [List.length_cons, Region.lexHead, Bool.and_eq_true] at hB
    have hkn : k < n := by rw [List.length_cons] at hk; omega
    have hr : k ∈ Region.ready md ops ld := by simpa using hB.1.1
    obtain ⟨v, hy, hK⟩ := yieldsIn_of_qOp h0 (show qOp P ops C k (wpQuiet P ops C R l) a by unfold qOp; simp only [h0]; exact h)
    refine wpHd_first h0 (Region.noSelect_spec hsel) hs hc hn hkn (fun _ _ hL => seqB_ready hL.1) l.length ld a inv (Region.free_spec h0 hB.1.2) hr hy ?_
    exact wpHd_lex hsel hs hc hn l (k + 1) _ _ (fun j hj => by have := hl (j + 1) (by simp; omega); simpa [Nat.add_assoc, Nat.add_comm 1 j] using this) (by rw [List.length_cons] at hk; omega) (inv.set hr hkn) hB.2 hK
theorem wp_region_after_tail {id : Nat} {Q : Exit → Act → World → Prop} {a : Act} {w0 : World} {l : List Oper} (n : Nat) (hm : P.follows .mixedOrders = true) (hB : Region.lexTailB .any l.toArray n = true)
    (h : wpQuiet P l.toArray (fun w' => ∃ x : Aft w0, w' = x.w) (fun a' => ∀ w', (∃ x : Aft w0, w' = x.w) → wpList P l.toArray Q (l.drop n) a' w') (l.take n) a) : (Code.region id l.toArray true).wp P Q a w0 := by
  simp only [Region.lexTailB, Bool.and_eq_true, decide_eq_true_eq] at hB
  obtain ⟨⟨⟨⟨hsel, hn⟩, hs⟩, hc⟩, hlex⟩ := hB
  have hn' : n < l.length := by simpa using hn
  have htl : (l.take n).length = n := by simp; omega
  have hdl : (l.drop n).length = l.toArray.size - n := by simp
  have H := wpHd_lex (C := fun w' => ∃ x : Aft w0, w' = x.w) (md := .any) (g := l.toArray.size - n) hsel hs hc hn (l.take n) 0 (Array.replicate l.toArray.size false) a (fun j hj => by
    have hj' : j < n := by rw [htl] at hj; exact hj
    simp [hj']) (by simpa using htl) ⟨by simp, fun j oj _ hl => (by rw [getD_replicate_false] at hl; cases hl), fun t _ ht => getD_in (by simpa using ht) (getD_replicate_false _ _)⟩ (by rw [htl]; exact hlex) h
  refine wp_region_any hm ?_
  have h3 := wpAny_of_hd (Q := Q) (g := l.toArray.size - n) (fun ld a' w' hw hL => by
    have h4 := wpAny_of_seq (md := .any) (Q' := Q) (l.drop n) n ld a' w' (fun j => by simp [List.getElem?_drop]) (by rw [hdl]; exact hL.1) (hL.2 w' hw)
    rwa [hdl] at h4) _ _ _ w0.drew ⟨⟨_, (Below.refl _ w0).drew⟩, rfl⟩ H
  rw [htl, show n + (l.toArray.size - n) = l.toArray.size by omega] at h3
  exact h3
end
end Go.Proofs.Ytmbjnemahgfhcaa
namespace Go.Proofs.Ytmbjnemahgfhcaa
open Go.RowKit
namespace Cs

section
variable {P : Program} {ops : Array Oper} {md : Region.Mode} {Q : Exit → Act → World → Prop} {S : World → Prop} {n : Nat}
end
/-- where the levels lie -/
structure Hs where
  hb : Nat
  tm : Nat
  ta : Nat
  tj : Nat
  rm : Nat → Nat
  ra : Nat → Nat
  rj : Nat → Nat
  lo : Nat
  hi : Nat
/-- what the rounds over the places keep -/
structure RX (W : World) (sx : Nat) (SB : Array Value) (p1 p2 p3 g1 g2 g3 m : Nat) (V1 : Nat → Int) (V2 V3 : Nat → Bool) (U1 : Nat → Int) (U2 U3 : Nat → Bool) (wr : World) : Prop where
  bel : Below W.heap.size W wr
  sbox : wr.heap[sx]? = some (.cells SB 42 (0, 0))
  pr : R3 W.heap.size p1 p2 p3 m V1 V2 V3 wr
  gr : R3 (sx + 1) g1 g2 g3 m U1 U2 U3 wr
  ps : p1 < sx ∧ p2 < sx ∧ p3 < sx ∧ W.heap.size ≤ sx
section
variable {W : World} {sx : Nat} {SB : Array Value} {p1 p2 p3 g1 g2 g3 m : Nat} {V1 : Nat → Int} {V2 V3 : Nat → Bool} {U1 U1' : Nat → Int} {U2 U3 U2' U3' : Nat → Bool} {wr w' : World}
theorem RX.eq (h : RX W sx SB p1 p2 p3 g1 g2 g3 m V1 V2 V3 U1 U2 U3 wr) (h1 : ∀ k, k < m → U1 k = U1' k) (h2 : ∀ k, k < m → U2 k = U2' k) (h3 : ∀ k, k < m → U3 k = U3' k) : RX W sx SB p1 p2 p3 g1 g2 g3 m V1 V2 V3 U1' U2' U3' wr := ⟨h.bel, h.sbox, h.pr, h.gr.eq h1 h2 h3, h.ps⟩
theorem RX.keep (h : RX W sx SB p1 p2 p3 g1 g2 g3 m V1 V2 V3 U1 U2 U3 wr) (hb : Below wr.heap.size wr w') : RX W sx SB p1 p2 p3 g1 g2 g3 m V1 V2 V3 U1 U2 U3 w' := ⟨h.bel.trans (hb.mono h.bel.size), bx_keep h.sbox hb, h.pr.keep hb, h.gr.keep hb, h.ps⟩
theorem RX.set1 (h : RX W sx SB p1 p2 p3 g1 g2 g3 m V1 V2 V3 U1 U2 U3 wr) {j : Nat} {x : Int} (hj : j < m) (he : ∀ k, k < m → U1' k = if k = j then x else U1 k) : RX W sx SB p1 p2 p3 g1 g2 g3 m V1 V2 V3 U1' U2 U3 (wr.setCell ⟨g1, j, none⟩ (.int .i64 x)) := by
  obtain ⟨h1, h2, h3, h4, h5⟩ := h
  have hl := h4.lo
  exact ⟨h1.setCell (p := ⟨g1, j, none⟩) (by show W.heap.size ≤ g1; omega) _, bx_other h2 (by omega) _ _, h3.other (by omega) (by omega) (by omega) _ _, h4.set1 hj he, h5⟩
theorem RX.set2 (h : RX W sx SB p1 p2 p3 g1 g2 g3 m V1 V2 V3 U1 U2 U3 wr) {j : Nat} {x : Bool} (hj : j < m) (he : ∀ k, k < m → U2' k = if k = j then x else U2 k) : RX W sx SB p1 p2 p3 g1 g2 g3 m V1 V2 V3 U1 U2' U3 (wr.setCell ⟨g2, j, none⟩ (.bool x)) := by
  obtain ⟨h1, h2, h3, h4, h5⟩ := h
  have hl := h4.lo
  exact ⟨h1.setCell (p := ⟨g2, j, none⟩) (by show W.heap.size ≤ g2; omega) _, bx_other h2 (by omega) _ _, h3.other (by omega) (by omega) (by omega) _ _, h4.set2 hj he, h5⟩
theorem RX.set3 (h : RX W sx SB p1 p2 p3 g1 g2 g3 m V1 V2 V3 U1 U2 U3 wr) {j : Nat} {x : Bool} (hj : j < m) (he : ∀ k, k < m → U3' k = if k = j then x else U3 k) : RX W sx SB p1 p2 p3 g1 g2 g3 m V1 V2 V3 U1 U2 U3' (wr.setCell ⟨g3, j, none⟩ (.bool x)) := by
  obtain ⟨h1, h2, h3, h4, h5⟩ := h
  have hl := h4.lo
  exact ⟨h1.setCell (p := ⟨g3, j, none⟩) (by show W.heap.size ≤ g3; omega) _, bx_other h2 (by omega) _ _, h3.other (by omega) (by omega) (by omega) _ _, h4.set3 hj he, h5⟩
end
def u1 (c : Nat → Nat → Nat) (l : List Sym) (s : Sym) (X Y z : Nat) : Int := cap9 (ps (oN c) l s X Y z)
def u2 (c : Nat → Nat → Nat) (l : List Sym) (s : Sym) (X Y z : Nat) : Bool := decide (0 < ps (oN c) l s X Y z)
def u3 (c c' : Nat → Nat → Nat) (l : List Sym) (s : Sym) (X Y z : Nat) : Bool := decide (ps (oN c') l s X Y z < ps (oN c) l s X Y z)
def v1 (c : Nat → Nat → Nat) (l : List Sym) (z : Nat) : Int := cap9 (cN (oN c) l z)
def v2 (c : Nat → Nat → Nat) (l : List Sym) (z : Nat) : Bool := decide (0 < cN (oN c) l z)
def v3 (c c' : Nat → Nat → Nat) (l : List Sym) (z : Nat) : Bool := decide (cN (oN c') l z < cN (oN c) l z)
end Cs
end Go.Proofs.Ytmbjnemahgfhcaa
namespace Go.Proofs.Ytmbjnemahgfhcaa
open Go.RowKit

/-- the operation, where its run is known -/
theorem wp_copyK {P : Program} (w : World) {o : Oper} {a : Act} {K : Act → World → Prop} {Q : Exit → Act → World → Prop} (d s : Operand) (t t' : TypeId)
    (ho : o.op = .call { callee := .builtin .copy, args := #[d, s], argTypes := #[t, t'] }) {v u v' : Value} {w' : World} (hd : a.eval d = v) (hs : a.eval s = u)
    (hr : (Builtin.copy_ #[t, t'] o.type #[v, u]).run P w = .ok v' w') (h : K (a.put o.dst v') w') : o.wp P a w K Q := by
  unfold Oper.wp execOp
  simp only [ho, resolve, invoke, builtin, Sem.run_bind, Sem.run_pure, Result.andThen_ok, List.map_toArray, List.map_cons, List.map_nil, hd, hs, hr]
  exact h
theorem wpl_copyK {P : Program} (w : World) {ops : Array Oper} {rest : List Oper} {o : Oper} {a : Act} {Q : Exit → Act → World → Prop} (hgd : o.guard = none) (d s : Operand) (t t' : TypeId)
    (ho : o.op = .call { callee := .builtin .copy, args := #[d, s], argTypes := #[t, t'] }) {v u v' : Value} {w' : World} (hd : a.eval d = v) (hs : a.eval s = u)
    (hr : (Builtin.copy_ #[t, t'] o.type #[v, u]).run P w = .ok v' w') (h : wpList P ops Q rest (a.put o.dst v') w') : wpList P ops Q (o :: rest) a w :=
  wpList_plain hgd fun _ hK => wp_copyK w d s t t' ho hd hs hr (hK _ _ h)
theorem step_copyK {P : Program} {ops : Array Oper} {o : Oper} {a : Act} {w : World} {K : Act → World → Prop} {Q : Exit → Act → World → Prop} {E : Prop} (hg : o.guard = none) (d x : Operand) (dT sT : TypeId)
    (hop : o.op = .call { callee := .builtin .copy, args := #[d, x], argTypes := #[dT, sT] }) {v u v' : Value} {w' : World} (hd : a.eval d = v) (hx : a.eval x = u)
    (hr : (Builtin.copy_ #[dT, sT] o.type #[v, u]).run P w = .ok v' w') (hK : K (a.put o.dst v') w') : if Region.wanted o (yielded ops a.tmps) = true then Oper.wp P o a w K Q else E := by
  have hw : Region.wanted o (yielded ops a.tmps) = true := by simp [Region.wanted, hg]
  rw [if_pos hw]
  exact wp_copyK w d x dT sT hop hd hx hr hK
end Go.Proofs.Ytmbjnemahgfhcaa
namespace Go.Proofs.Ytmbjnemahgfhcaa
open Go.RowKit
namespace Cs

set_option maxHeartbeats 4000000 in
theorem mul64E (N : Nat) (h1 : 1 ≤ N) (h2 : N ≤ 16) (W : World) : Calls Try.prog 39 #[.int .u64 1, .int .u64 (N : Int)] W fun e w' => e = .returned (.tuple #[.int .u64 0, .int .u64 (N : Int)]) ∧ W = w' := by
  have h : N = 1 ∨ N = 2 ∨ N = 3 ∨ N = 4 ∨ N = 5 ∨ N = 6 ∨ N = 7 ∨ N = 8 ∨ N = 9 ∨ N = 10 ∨ N = 11 ∨ N = 12 ∨ N = 13 ∨ N = 14 ∨ N = 15 ∨ N = 16 := by omega
  rcases h with rfl | rfl | rfl | rfl | rfl | rfl | rfl | rfl | rfl | rfl | rfl | rfl | rfl | rfl | rfl | rfl <;> (
    go_enter Try.func39, Try.ntmps39
    go_wp2_with fail
    refine bodyPost_ret (results_tmp2 Try.results39 _ _ _) rfl ?_
    exact ⟨rfl, rfl⟩)
set_option maxHeartbeats 4000000 in
theorem mulE (N : Nat) (h1 : 1 ≤ N) (h2 : N ≤ 16) (W : World) : Calls Try.prog 36 #[.int .u64 1, .int .u64 (N : Int)] W fun e w' => e = .returned (.tuple #[.int .u64 0, .int .u64 (N : Int)]) ∧ W = w' := by
  have HM := Lib.hid (mul64E N h1 h2)
  go_enter Try.func36, Try.ntmps36
  go_wp2_with fail
  with_reducible refine (HM.out _).mono ?_
  rintro e w1 ⟨rfl, rfl⟩
  go_wp2_with fail
  refine bodyPost_ret (results_tmp2 Try.results36 _ _ _) rfl ?_
  exact ⟨rfl, rfl⟩
theorem vrow_cells {e : TypeId} {p m : Nat} {x : Value} : ∀ (k o : Nat) (A : Nat → Value) (w : World), o + k ≤ m → Vrow e p m A w → Vrow e p m (fun j => if o ≤ j ∧ j < o + k then x else A j) (w.setCells p o (List.replicate k x))
  | 0, o, A, w, _, h => h.eq (fun j _ => by rw [if_neg (by omega)])
  | k + 1, o, A, w, hk, h => by
    rw [List.replicate_succ]
    show Vrow e p m _ ((w.setCell ⟨p, o, none⟩ x).setCells p (o + 1) (List.replicate k x))
    have h1 := h.set (A' := fun j => if j = o then x else A j) (j := o) (x := x) (by omega) (fun j _ => rfl)
    refine (vrow_cells k (o + 1) _ _ (by omega) h1).eq (fun j _ => ?_)
    by_cases e1 : o + 1 ≤ j ∧ j < o + 1 + k
    · rw [if_pos e1, if_pos (by omega)]
    · rw [if_neg e1]
      by_cases e2 : j = o
      · rw [if_pos e2, if_pos (by omega)]
      · rw [if_neg e2, if_neg (by omega)]
theorem below_cells {B p : Nat} {w0 : World} (hp : B ≤ p) : ∀ (l : List Value) (o : Nat) (w : World), Below B w0 w → Below B w0 (w.setCells p o l)
  | [], _, _, h => h
  | x :: l, o, w, h => below_cells hp l (o + 1) _ (h.setCell (p := ⟨p, o, none⟩) hp x)
set_option maxHeartbeats 4000000 in
set_option maxRecDepth 100000 in
theorem repE (N : Nat) (h1 : 1 ≤ N) (h2 : N ≤ 16) (x : Int) (a : Option Addr) (c : Nat) (W : World) (hs : Sl W (.slice a 1 c) (ints [x])) :
    Calls Try.prog 28 #[.slice a 1 c, .int .i64 (N : Int)] W fun e w' => ∃ p, e = .returned (.slice (some ⟨p, 0, none⟩) N N) ∧ Vrow 3 p N (fun _ => .int .i64 x) w' ∧ W.heap.size ≤ p ∧ Below W.heap.size W w' := by
  obtain ⟨PST, HP⟩ := nameIt (fun (e : Ending) (w' : World) => ∃ p, e = .returned (.slice (some ⟨p, 0, none⟩) N N) ∧ Vrow 3 p N (fun _ => .int .i64 x) w' ∧ W.heap.size ≤ p ∧ Below W.heap.size W w')
  rw [HP.out]
  have HFIN : Hid (∀ p w', Vrow 3 p N (fun _ => .int .i64 x) w' → W.heap.size ≤ p → Below W.heap.size W w' → PST (.returned (.slice (some ⟨p, 0, none⟩) N N)) w') := by
    intro p w' q1 q2 q3; rw [← HP.out]; exact ⟨p, rfl, q1, q2, q3⟩
  have HMU := Lib.hid (mulE N h1 h2)
  obtain ⟨bx, ox, hae, hcx⟩ := hs.at (k := 0) (by simp [ints])
  subst hae
  have hc0 : W.cell? ⟨bx, ox, none⟩ = some (.int .i64 x) := by simpa [ints] using hcx 0 (by simp [ints])
  have hmk : ∀ W : World, (Instr.makeSlice 36 (.int .i64 (N : Int)) (.int .i64 (N : Int))).run Try.prog W = .ok (.slice (some ⟨W.heap.size, 0, none⟩) N N) (W.alloc (.cells (madeCells #[.int .i64 0] N) 3)) := fun W => by
    have := run_make_row' (P := Try.prog) 36 3 (.int .i64 0) 8 Try.underlying36 (by kernel_rfl) rfl .i64 .i64 N (by omega) (by omega) W
    simpa using this
  have hn0 : decide ((N : Int) < 0) = false := by simp
  have hn1 : decide ((9223372036854775807 : Int) < (N : Int)) = false := by simp; omega
  clear hcx hs HP
  go_enter Try.func28, Try.ntmps28
  have hinf : (Try.prog.info? 3).map (·.size) = some 1 := by kernel_rfl
  have HINF := Lib.hid hinf
  clear hinf
  obtain ⟨z, HZ⟩ := nameIt (Value.int .i64 x)
  have HZ1 : Hid (z.oneCell' = true) := by rw [← HZ.out]; rfl
  rw [HZ.out] at hc0
  simp only [HZ.out] at HFIN
  have hg1 : decide (0 < (0 : Int)) = false := rfl
  have hg2 : decide ((9223372036854775807 : Int) < (N : Int)) = false := hn1
  go_wp2_with fail
  with_reducible refine (HMU.out _).mono ?_
  rintro e w1 ⟨rfl, rfl⟩
  go_upto_region 6 with fail
  obtain ⟨w2, HW2⟩ := nameIt (W.alloc (.cells (madeCells #[.int .i64 0] N) 3))
  obtain ⟨p, HPN⟩ := nameIt W.heap.size
  have hv2 : Vrow 3 p N (fun _ => .int .i64 0) w2 := by rw [← HW2.out]; exact vrow_new W _ _ N HPN.out.symm
  have hb2 : Below W.heap.size W w2 := by rw [← HW2.out]; exact (Below.refl _ _).alloc (Nat.le_refl _) _
  have hbxl : bx < W.heap.size := lt_of_cell hc0
  have hc2 := (hb2.cell (p := ⟨bx, ox, none⟩) hbxl).trans hc0
  have hpp : W.heap.size ≤ p := by have := HPN.out; omega
  have hcp1 : ∀ ty, (Builtin.copy_ #[36, 36] ty #[.slice (some ⟨p, 0, none⟩) N N, .slice (some ⟨bx, ox, none⟩) 1 c]).run Try.prog w2 = .ok (goInt 1) (w2.setCells p 0 [z]) := by
    intro ty
    have h := run_copy_cells (P := Try.prog) w2 36 36 ty 3 p 0 N N ⟨bx, ox, none⟩ 1 c [z] Try.underlying36 HINF.out (by show 1 = min 1 N; omega)
      (fun j v hj => by
        obtain rfl : j = 0 := by
          have := (List.getElem?_eq_some_iff.1 hj).1
          simp at this; exact this
        simp at hj; subst hj
        simpa [Addr.add] using hc2)
      (fun j hj => by rw [hv2.cell (k := 0 + j) (by simp at hj; omega)]; rfl) (fun j _ => hv2.free _) (fun v hv => by simp at hv; subst hv; exact HZ1.out)
    simpa using h
  have hv3 := vrow_cells (x := z) 1 0 _ w2 (by omega) hv2
  have hb3 := below_cells (B := W.heap.size) hpp (List.replicate 1 z) 0 w2 hb2
  rw [show List.replicate 1 z = [z] from rfl] at hv3 hb3
  obtain ⟨w3, HW3⟩ := nameIt (w2.setCells p 0 [z])
  rw [HW3.out] at hcp1 hv3 hb3
  have HV3 : Hid (Vrow 3 p N (fun j => if j < 1 then z else .int .i64 0) w3) := hv3.eq (fun k _ => by
    by_cases h : k < 1
    · rw [if_pos (by omega), if_pos h]
    · rw [if_neg (by omega), if_neg h])
  have HB3 := Lib.hid hb3
  have HPW := Lib.hid hpp
  clear hv2 hv3 hb3 hb2 hc2 hbxl
  go_upto_region 7 with fail
  rw [HW2.out, HPN.out]
  go_wp2_with (at_builtin; refine wpl_copyK _ rfl _ _ 36 36 rfl rfl rfl (hcp1 _) ?_)
  clear hcp1 hc0
  go_loopg [8] N (fun gg v8 wr => ∃ k : Nat, 1 ≤ k ∧ k ≤ N ∧ N - k ≤ gg ∧ v8 = .int .i64 k ∧ Hid (Vrow 3 p N (fun j => if j < k then z else .int .i64 0) wr) ∧ Hid (Below W.heap.size W wr))
  case atStart => exact ⟨1, by omega, by omega, by omega, rfl, HV3, HB3⟩
  case round =>
    clear HV3 HB3
    obtain ⟨k, hk1, hkN, hgk, rfl, HV, HB⟩ := hrel
    obtain ⟨w5, rfl⟩ : ∃ ww : World, ww = wr := ⟨_, rfl⟩
    by_cases hlt : k < N
    · have hlt' : (k : Int) < (N : Int) := by omega
      obtain ⟨m, HM⟩ := nameIt (min k (N - k))
      have hm1 : 1 ≤ m ∧ m ≤ k ∧ k + m ≤ N := by have := HM.out; omega
      have hcp2 : ∀ ty dc sc, (Builtin.copy_ #[36, 36] ty #[.slice (some ⟨p, k, none⟩) (N - k) dc, .slice (some ⟨p, 0, none⟩) k sc]).run Try.prog w5.drew = .ok (goInt (m : Int)) (w5.drew.setCells p k (List.replicate m z)) := by
        intro ty dc sc
        have hv5 := HV.out.keep ((Below.refl _ _).drew)
        have h := run_copy_cells (P := Try.prog) w5.drew 36 36 ty 3 p k (N - k) dc ⟨p, 0, none⟩ k sc (List.replicate m z) Try.underlying36 HINF.out (by rw [List.length_replicate]; exact HM.out.symm)
          (fun j v hj => by
            have hjm : j < m := by have := (List.getElem?_eq_some_iff.1 hj).1; simpa using this
            have hvz : v = z := by rw [List.getElem?_replicate, if_pos hjm] at hj; exact (Option.some.inj hj).symm
            have := hv5.cell (k := j) (by omega)
            rw [if_pos (by omega)] at this
            rw [hvz]
            have e : (⟨p, 0, none⟩ : Addr).add j = ⟨p, j, none⟩ := by unfold Addr.add; by_cases e : j = 0 <;> simp [e]
            rw [e]; exact this)
          (fun j hj => by rw [hv5.cell (k := k + j) (by simp at hj; omega)]; rfl) (fun j _ => hv5.free _) (fun v hv => by rw [List.eq_of_mem_replicate hv]; exact HZ1.out)
        simpa using h
      have hv6 := vrow_cells (x := z) m k _ w5.drew (by omega) (HV.out.keep ((Below.refl _ _).drew))
      have hb6 := below_cells (B := W.heap.size) HPW.out (List.replicate m z) k w5.drew HB.out.drew
      obtain ⟨w6, HW6⟩ := nameIt (w5.drew.setCells p k (List.replicate m z))
      rw [HW6.out] at hcp2 hv6 hb6
      have HV6 : Hid (Vrow 3 p N (fun j => if j < k + m then z else .int .i64 0) w6) := hv6.eq (fun j _ => by
        by_cases h : k ≤ j ∧ j < k + m
        · rw [if_pos h, if_pos h.2]
        · rw [if_neg h]
          by_cases h2 : j < k
          · rw [if_pos h2, if_pos (by omega)]
          · rw [if_neg h2, if_neg (by omega)])
      have HB6 := Lib.hid hb6
      have hk0 : (0 : Int) ≤ (k : Int) := by omega
      have hkN' : (k : Int) ≤ (N : Int) := by omega
      obtain ⟨km, HKM⟩ := nameIt (k + m)
      have hw : IntKind.i64.wrap ((k : Int) + (m : Int)) = (km : Int) := by rw [IntWalk.i64_in _ (by omega), ← HKM.out]; omega
      have hne : ¬ N = k := by omega
      rw [HKM.out] at HV6
      have hkm : 1 ≤ km ∧ km ≤ N ∧ k < km := by have := HKM.out; omega
      clear hv6 hb6 HV HB HM HKM
      go_upto_region 9 with fail
      go_region_law (refine step_copyK rfl _ _ 36 36 rfl (by simp [Act.eval, Act.put]; try rfl) (by simp [Act.eval, Act.put]; try rfl) (hcp2 _ _ _) ?_)
      all_goals first | (go_wp2_with fail
                         go_roundg (N - km)
                         case measure => omega
                         case rel => exact ⟨km, by omega, by omega, by omega, by go_num, HV6, HB6⟩) | fail
    · have hlt' : ¬ (k : Int) < (N : Int) := by omega
      have hke : k = N := by omega
      subst hke
      have HE := Lib.hid (HFIN.out p w5 (HV.out.eq (fun j hj => by rw [if_pos hj])) HPW.out HB.out)
      go_wp2_with fail
      exact HE.out
end Cs
end Go.Proofs.Ytmbjnemahgfhcaa
namespace Go.Proofs.Ytmbjnemahgfhcaa
open Go.RowKit
namespace Cs

def setV (X : Nat → Int) (A : Nat) (v : Int) : Nat → Int := fun B => if B = A then v else X B
/-- how many are set -/
def nset (X : Nat → Int) (N : Nat) : Nat := sumN (fun A => if 0 ≤ X A then 1 else 0) N
/-- the values are small -/
def BdV (X : Nat → Int) (N : Nat) : Prop := (∀ A, X A ≤ ((4 ^ nset X N : Nat) : Int)) ∧ ∀ A, N ≤ A → X A = -1
section
variable {rules : List Rule} {X : Nat → Int} {N A : Nat} {v : Int}
theorem setV_sound (hs : SoundV rules X) (h0 : 0 ≤ v) (hd : Dv rules A v.toNat) : SoundV rules (setV X A v) := by
  intro B
  unfold setV
  by_cases e : B = A
  · subst e; rw [if_pos rfl]; exact ⟨by omega, fun _ => hd⟩
  · rw [if_neg e]; exact hs B
theorem nset_le : nset X N ≤ N := by
  unfold nset
  have h : ∀ n, sumN (fun A => if 0 ≤ X A then 1 else 0) n ≤ n := by
    intro n
    induction n with
    | zero => exact Nat.le_refl _
    | succ n ih =>
      show sumN _ n + (if 0 ≤ X n then 1 else 0) ≤ n + 1
      split <;> omega
  exact h N
theorem nset_set (hA : A < N) (h0 : 0 ≤ v) : nset X N ≤ nset (setV X A v) N ∧ (X A < 0 → nset X N + 1 ≤ nset (setV X A v) N) := by
  unfold nset
  have hle : ∀ i, i < N → (if 0 ≤ X i then 1 else 0) ≤ (if 0 ≤ setV X A v i then 1 else 0) := by
    intro i _
    unfold setV
    by_cases e : i = A
    · rw [if_pos e, if_pos h0]; split <;> omega
    · rw [if_neg e]; exact Nat.le_refl _
  refine ⟨sumN_le _ hle, fun hx => ?_⟩
  refine sumN_lt_iff hle |>.2 ⟨A, hA, ?_⟩
  rw [if_neg (by omega)]
  unfold setV
  rw [if_pos rfl, if_pos h0]; omega
/-- a sum of at most four small values -/
theorem fold_bd {M : Int} (hM : 1 ≤ M) (hX : ∀ A, X A ≤ M) : ∀ (l : List Sym) (a : Int), l.foldl (stepV X) a ≤ (if 0 ≤ a then a else 0) + M * l.length
  | [], a => by
    rw [List.foldl_nil]
    split <;> simp <;> omega
  | s :: l, a => by
    rw [List.foldl_cons]
    have ih := fold_bd hM hX l (stepV X a s)
    have h2 : (if 0 ≤ stepV X a s then stepV X a s else 0) ≤ (if 0 ≤ a then a else 0) + M := by
      unfold stepV
      have := hX s.n.toNat
      repeat (any_goals split)
      all_goals omega
    have h3 : M * ((s :: l).length : Int) = M * l.length + M := by rw [List.length_cons]; push_cast; rw [Int.mul_add, Int.mul_one]
    rw [h3]
    omega
theorem bdV_set (hb : BdV X N) (hA : A < N) (h0 : 0 ≤ v) (hv : v < X A ∨ (X A < 0 ∧ v ≤ 4 * ((4 ^ nset X N : Nat) : Int))) : BdV (setV X A v) N := by
  obtain ⟨h1, h2⟩ := hb
  obtain ⟨n1, n2⟩ := nset_set (X := X) hA h0
  have hp : ((4 ^ nset X N : Nat) : Int) ≤ ((4 ^ nset (setV X A v) N : Nat) : Int) := by exact_mod_cast Nat.pow_le_pow_right (by decide) n1
  refine ⟨fun B => ?_, fun B hB => ?_⟩
  · unfold setV
    by_cases e : B = A
    · rw [if_pos e]
      rcases hv with hv | ⟨hx, hv⟩
      · have := h1 A
        unfold setV at hp
        omega
      · have h4 : 4 ^ (nset X N + 1) ≤ 4 ^ nset (setV X A v) N := Nat.pow_le_pow_right (by decide) (n2 hx)
        rw [Nat.pow_succ] at h4
        unfold setV at h4
        omega
    · rw [if_neg e]
      have := h1 B
      unfold setV at hp
      omega
  · unfold setV
    rw [if_neg (by omega)]; exact h2 B hB
end
end Cs
end Go.Proofs.Ytmbjnemahgfhcaa
namespace Go.Proofs.Ytmbjnemahgfhcaa
open Go.RowKit
namespace Cs

def muV (X : Nat → Int) (N : Nat) : Nat := sumN (fun A => if 0 ≤ X A then (X A).toNat else 2000000) N
section
variable {rules : List Rule} {X : Nat → Int} {N A : Nat} {v : Int}
theorem pow10 {m : Nat} (h : m ≤ 10) : 4 ^ m ≤ 1048576 := Nat.le_trans (Nat.pow_le_pow_right (by decide) h) (by decide)
theorem BdV.le (hb : BdV X N) (hN : N ≤ 10) (A : Nat) : X A ≤ 1048576 := by
  have h1 := hb.1 A
  have h2 := pow10 (m := nset X N) (Nat.le_trans nset_le hN)
  omega
theorem foldV_ge : ∀ (l : List Sym) (a : Int), -1 ≤ a → -1 ≤ l.foldl (stepV X) a
  | [], _, h => h
  | s :: l, a, h => by
    rw [List.foldl_cons]
    refine foldV_ge l _ ?_
    unfold stepV
    repeat (any_goals split)
    all_goals omega
theorem sum_ge (l : List Sym) : -1 ≤ sumV X l := foldV_ge l 0 (by omega)
theorem sum_bd (hb : BdV X N) {l : List Sym} (hl : l.length ≤ 4) : sumV X l ≤ 4 * ((4 ^ nset X N : Nat) : Int) := by
  have h1 : 1 ≤ 4 ^ nset X N := Nat.one_le_pow _ _ (by decide)
  have h2 := fold_bd (X := X) (M := ((4 ^ nset X N : Nat) : Int)) (by omega) hb.1 l 0
  unfold sumV
  have h3 : ((4 ^ nset X N : Nat) : Int) * (l.length : Int) ≤ ((4 ^ nset X N : Nat) : Int) * 4 := Int.mul_le_mul_of_nonneg_left (by omega) (by omega)
  have h4 : (if (0 : Int) ≤ 0 then (0 : Int) else 0) = 0 := rfl
  rw [h4] at h2
  omega
theorem sum_le (hb : BdV X N) (hN : N ≤ 10) {l : List Sym} (hl : l.length ≤ 4) : sumV X l ≤ 4194304 := by
  have h1 := sum_bd hb hl
  have h2 := pow10 (m := nset X N) (Nat.le_trans nset_le hN)
  omega
theorem mu_set (hN : N ≤ 10) (hA : A < N) (h0 : 0 ≤ v) (hv : v < X A ∨ (X A < 0 ∧ v ≤ 4 * ((4 ^ nset X N : Nat) : Int))) : muV (setV X A v) N < muV X N := by
  have hv2 : X A < 0 → v ≤ 1048576 := by
    intro hx
    have h1 := (nset_set (X := X) (N := N) hA h0).2 hx
    have h2 : nset (setV X A v) N ≤ N := nset_le
    have h3 := pow10 (m := nset X N + 1) (by omega)
    rw [Nat.pow_succ] at h3
    omega
  unfold muV
  have hs : ∀ i, i < N → (if 0 ≤ setV X A v i then (setV X A v i).toNat else 2000000) ≤ (if 0 ≤ X i then (X i).toNat else 2000000) := by
    intro i _
    unfold setV
    by_cases e : i = A
    · subst e
      rw [if_pos rfl, if_pos h0]
      by_cases hx : 0 ≤ X i
      · rw [if_pos hx]; omega
      · rw [if_neg hx]; have := hv2 (by omega); omega
    · rw [if_neg e]; exact Nat.le_refl _
  refine (sumN_lt_iff hs).2 ⟨A, hA, ?_⟩
  unfold setV
  rw [if_pos rfl, if_pos h0]
  by_cases hx : 0 ≤ X A
  · rw [if_pos hx]; omega
  · rw [if_neg hx]; have := hv2 (by omega); omega
theorem sound_start : SoundV rules (fun _ => -1) := fun _ => ⟨Int.le_refl _, fun h => absurd h (by show ¬ (0 : Int) ≤ -1; omega)⟩
theorem bd_start : BdV (fun _ => -1) N := ⟨fun _ => by show (-1 : Int) ≤ _; have : (0 : Int) ≤ ((4 ^ nset (fun _ => -1) N : Nat) : Int) := Int.natCast_nonneg _; omega, fun _ _ => rfl⟩
end
end Cs
end Go.Proofs.Ytmbjnemahgfhcaa
namespace Go.Proofs.Ytmbjnemahgfhcaa
open Go.RowKit
namespace Cs

/-- a table of lengths in memory -/
structure LTb (rules : List Rule) (N : Nat) (W0 : World) (p : Nat) (X : Nat → Int) (wr : World) : Prop where
  row : Vrow 3 p N (fun A => .int .i64 (X A)) wr
  snd : SoundV rules X
  bd : BdV X N
  bel : Below W0.heap.size W0 wr
  lo : W0.heap.size ≤ p
section
variable {rules : List Rule} {N p : Nat} {W0 wr w' : World} {X X' : Nat → Int}
theorem LTb.keep (h : LTb rules N W0 p X wr) (hb : Below wr.heap.size wr w') : LTb rules N W0 p X w' := ⟨h.row.keep hb, h.snd, h.bd, h.bel.trans (hb.mono h.bel.size), h.lo⟩
theorem LTb.set (h : LTb rules N W0 p X wr) {A : Nat} {v : Int} (hA : A < N) (hs : SoundV rules (setV X A v)) (hb : BdV (setV X A v) N) : LTb rules N W0 p (setV X A v) (wr.setCell ⟨p, A, none⟩ (.int .i64 v)) :=
  ⟨h.row.set hA (fun k _ => by unfold setV; split <;> rfl), hs, hb, h.bel.setCell (p := ⟨p, A, none⟩) h.lo _, h.lo⟩
/-- the rules so far are met -/
def ClosedTo (rules : List Rule) (i : Nat) (X : Nat → Int) : Prop := ∀ r ∈ rules.take i, 0 ≤ sumV X r.right → 0 ≤ X r.left.toNat ∧ X r.left.toNat ≤ sumV X r.right
theorem closedTo_next {i : Nat} (hi : i < rules.length) (h : ClosedTo rules i X) (hr : 0 ≤ sumV X rules[i].right → 0 ≤ X rules[i].left.toNat ∧ X rules[i].left.toNat ≤ sumV X rules[i].right) : ClosedTo rules (i + 1) X := by
  intro r hm
  rw [List.take_succ_eq_append_getElem hi, List.mem_append] at hm
  rcases hm with hm | hm
  · exact h r hm
  · simp at hm; subst hm; exact hr
end
def LnPost (rules : List Rule) (N : Nat) (w : World) (e : Ending) (w' : World) : Prop :=
  ∃ p X, e = .returned (.slice (some ⟨p, 0, none⟩) N N) ∧ Vrow 3 p N (fun A => .int .i64 (X A)) w' ∧ LeastV rules N X ∧ w.heap.size ≤ p ∧ Below w.heap.size w w'
set_option maxHeartbeats 8000000 in
set_option maxRecDepth 100000 in
theorem lengthsE (g : Gram) (N : Nat) (hok : OkC g N) (hr4 : ∀ r ∈ g.rules, r.right.length ≤ 4) (ra : Option Addr) (rcap : Nat) (w : World) (hr : Rd AnyB w (.sl (g.rules.map Rule.d)) [.slice ra g.rules.length rcap]) :
    Calls Try.prog 13 #[.agg #[.int .i64 g.terms, .int .i64 g.nons, .int .i64 g.start, .slice ra g.rules.length rcap]] w (LnPost g.rules N w) := by
  have hN1 := hok.n1
  have hN2 := hok.n2
  have HGR := Lib.hid hok.r
  have HLF := Lib.hid hok.l
  have H4 := Lib.hid hr4
  have HL0 : Hid (∀ r ∈ g.rules, 0 ≤ r.left) := fun r hr => (hok.l r hr).1
  have hnn := hok.nons
  rw [hnn]
  obtain ⟨w0, HW0⟩ := nameIt (w.alloc (.cells #[.int .i64 g.terms, .int .i64 (N : Int), .int .i64 g.start, .slice ra g.rules.length rcap] 24))
  have hb0 : Below w.heap.size w w0 := by rw [← HW0.out]; exact (Below.refl _ _).alloc (Nat.le_refl _) _
  have X0 : Hid (w0.heap[w.heap.size]? = some (.cells #[.int .i64 g.terms, .int .i64 (N : Int), .int .i64 g.start, .slice ra g.rules.length rcap] 24 (0, 0))) := by rw [← HW0.out]; exact bx_new _ _ _ rfl
  have HRD := Lib.hid (hr.below hb0)
  obtain ⟨PST, HP⟩ := nameIt (LnPost g.rules N w)
  rw [HP.out]
  have HFIN : Hid (∀ p X w', LTb g.rules N w0 p X w' → ClosedV g.rules X → PST (.returned (.slice (some ⟨p, 0, none⟩) N N)) w') := by
    intro p X w' h1 h2
    rw [← HP.out]
    exact ⟨p, X, rfl, h1.row, closed_least h1.snd HL0.out h2 N, Nat.le_trans hb0.size h1.lo, hb0.trans (h1.bel.mono hb0.size)⟩
  have hbs := hr.bounds.2
  unfold maxLen at hbs
  obtain ⟨hcv1, hcv2⟩ := hbs
  obtain ⟨gt, HGT⟩ := nameIt g.terms
  obtain ⟨gs, HGS⟩ := nameIt g.start
  obtain ⟨rl, HRL⟩ := nameIt g.rules.length
  rw [HGT.out, HGS.out, HRL.out] at HW0 X0
  rw [HRL.out] at HRD hcv1
  rw [HGT.out, HGS.out, HRL.out]
  have HREP : Hid (∀ W a c, Sl W (.slice a 1 c) (ints [-1]) → Calls Try.prog 28 #[.slice a 1 c, .int .i64 (N : Int)] W fun e w' => ∃ p, e = .returned (.slice (some ⟨p, 0, none⟩) N N) ∧ Vrow 3 p N (fun _ => .int .i64 (-1)) w' ∧ W.heap.size ≤ p ∧ Below W.heap.size W w') := fun W a c h => repE N hN1 (by omega) (-1) a c W h
  obtain ⟨gb, HGBN⟩ := nameIt w.heap.size
  rw [HGBN.out] at X0
  obtain ⟨x0, x1, x2, x3⟩ := bx_cells4 X0.out
  clear hb0 hr HP hok hr4 hnn
  go_enter Try.func13, Try.ntmps13
  go_upto_region 1 with fail
  rw [HW0.out, HGBN.out]
  have hb1 : Below w0.heap.size w0 (w0.alloc (.cells #[.int .i64 (-1)] 3)) := (Below.refl _ _).alloc (Nat.le_refl _) _
  have Z1 : Hid ((w0.alloc (.cells #[.int .i64 (-1)] 3)).heap[w0.heap.size]? = some (.cells #[.int .i64 (-1)] 3 (0, 0))) := bx_new _ _ _ rfl
  have hs1 : Sl (w0.alloc (.cells #[.int .i64 (-1)] 3)) (.slice (some ⟨w0.heap.size, 0, none⟩) 1 1) (ints [-1]) := by
    refine ⟨some ⟨w0.heap.size, 0, none⟩, 1, rfl, by simp [ints], by unfold maxLen; omega, (fun h => by cases h), fun i hi => ⟨_, rfl, ?_⟩⟩
    simp [ints] at hi
    subst hi
    simp [ints, Addr.add]
  have HR1 := Lib.hid (HREP.out _ _ _ hs1)
  obtain ⟨y0, y1, y2, y3⟩ := bx_cells4 (bx_keep X0.out hb1)
  clear x0 x1 x2 x3 hs1 HREP Z1
  go_wp2_with fail
  with_reducible refine HR1.out.mono ?_
  rintro e w2 ⟨p, rfl, hv2, hp2, hb2⟩
  have HB2 : Hid (Below w0.heap.size w0 w2) := hb1.trans (hb2.mono hb1.size)
  have HPL : Hid (w0.heap.size ≤ p) := Nat.le_trans hb1.size hp2
  have HL2 : Hid (LTb g.rules N w0 p (fun _ => -1) w2) := ⟨hv2, sound_start, bd_start, HB2.out, HPL.out⟩
  clear hv2 hp2 hb2 hb1 HR1 y0 y1 y2 y3 HB2
  go_wp2_with fail
  go_loopg [4] (muV (fun _ => -1) N + 1) (fun gg v4 wr => ∃ (ag : Bool) (X : Nat → Int), v4 = .bool ag ∧ (ag = true → muV X N + 1 ≤ gg) ∧ Hid (LTb g.rules N w0 p X wr) ∧ Hid (ag = false → ClosedV g.rules X))
  case atStart => exact ⟨true, fun _ => -1, rfl, (fun _ => Nat.le_refl _), HL2, (fun e => by cases e)⟩
  case round =>
    clear HL2
    obtain ⟨ag, X, rfl, hgg, HL, HAG⟩ := hrel
    obtain ⟨w3, rfl⟩ : ∃ ww : World, ww = wr := ⟨_, rfl⟩
    cases ag with
    | false =>
      have HE := Lib.hid (HFIN.out p X w3 HL.out (HAG.out rfl))
      clear hgg HAG
      go_wp2_with fail
      exact HE.out
    | true =>
      have hgg' := hgg rfl
      obtain ⟨mu, HMU⟩ := nameIt (muV X N)
      rw [HMU.out] at hgg'
      obtain ⟨x0, x1, x2, x3⟩ := bx_cells4 (bx_keep X0.out HL.out.bel)
      have HC0 : Hid (ClosedTo g.rules 0 X) := fun r hr => by simp at hr
      clear hgg HAG
      go_wp2_with fail
      clear x0 x1 x2 x3
      go_loopg [4, 19] rl (fun gg v4 v19 wr => ∃ (i : Nat) (Y : Nat → Int) (b : Bool), i ≤ rl ∧ rl - i ≤ gg ∧ v4 = .bool b ∧ v19 = .int .i64 i ∧ Hid (LTb g.rules N w0 p Y wr) ∧ Hid (b = false → Y = X ∧ ClosedTo g.rules i X) ∧ Hid (b = true → muV Y N < mu))
      case atStart => exact ⟨0, X, false, by omega, by omega, rfl, rfl, HL, (fun _ => ⟨rfl, HC0.out⟩), (fun e => by cases e)⟩
      case round =>
        clear HL HC0
        obtain ⟨i, Y, b, hi, hg2, rfl, rfl, HL, HC, HM⟩ := hrel
        obtain ⟨w4, rfl⟩ : ∃ ww : World, ww = wr := ⟨_, rfl⟩
        by_cases hlt : i < rl
        · have hlt' : (i : Int) < (rl : Int) := by omega
          have hi0 : (0 : Int) ≤ (i : Int) := by omega
          have hix : i < g.rules.length := by rw [HRL.out]; exact hlt
          obtain ⟨rbk, ro, rv, hae, -, hrb, r0, r1, hrr⟩ := HRD.out.rule_at hix
          obtain ⟨ar, cr, rfl, hcr1, hcr2⟩ := hrr.form
          rw [List.length_map] at r1 hrr hcr1
          unfold maxLen at hcr2
          have HRR := Lib.hid hrr
          have t0 := (HL.out.bel.cell (lt_of_cell r0)).trans r0
          have t1 := (HL.out.bel.cell (lt_of_cell r1)).trans r1
          have HOKR := Lib.hid (HGR.out _ (List.getElem_mem hix))
          have HOKL := Lib.hid (HLF.out _ (List.getElem_mem hix))
          have hr4 := H4.out _ (List.getElem_mem hix)
          have HMEM := Lib.hid (List.getElem_mem hix)
          have HNX : Hid (ClosedTo g.rules i X → (0 ≤ sumV X g.rules[i].right → 0 ≤ X g.rules[i].left.toNat ∧ X g.rules[i].left.toNat ≤ sumV X g.rules[i].right) → ClosedTo g.rules (i + 1) X) := fun h1 h2 => closedTo_next hix h1 h2
          obtain ⟨r, HRN⟩ := nameIt (g.rules[i]'hix)
          rw [HRN.out] at t0 t1 HRR HOKR HOKL hcr1 hr4 HMEM HNX
          obtain ⟨rt, HRT⟩ := nameIt r.right
          rw [HRT.out] at t1 HRR HOKR hcr1 hr4 HNX
          obtain ⟨rn, HRNL⟩ := nameIt rt.length
          rw [HRNL.out] at t1 HRR hcr1 hr4
          obtain ⟨A, hA⟩ : ∃ A : Nat, r.left = (A : Int) := ⟨r.left.toNat, by have := HOKL.out.1; omega⟩
          have hAN : A < N := by have := HOKL.out.2; rw [hA] at this; simpa using this
          have HAL : Hid (r.left = (A : Int)) := hA
          rw [hA] at t0
          have HLEFT : Hid (r.left.toNat = A) := by show _ = _; rw [hA]; simp
          rw [HLEFT.out] at HNX
          obtain ⟨w5, HW5⟩ := nameIt (w4.alloc (.cells #[.int .i64 (A : Int), .slice ar rn cr] 32))
          have hb5 : Below w4.heap.size w4 w5 := by rw [← HW5.out]; exact (Below.refl _ _).alloc (Nat.le_refl _) _
          have HL5 := Lib.hid (HL.out.keep hb5)
          have Y5 : Hid (w5.heap[w4.heap.size]? = some (.cells #[.int .i64 (A : Int), .slice ar rn cr] 32 (0, 0))) := by rw [← HW5.out]; exact bx_new _ _ _ rfl
          have HPW : Hid (p < w4.heap.size) := HL.out.row.lt
          obtain ⟨rbx, HRBX⟩ := nameIt w4.heap.size
          rw [HRBX.out] at Y5 HPW
          have HSG : Hid (∀ j, -1 ≤ sumV Y (rt.take j) ∧ sumV Y (rt.take j) ≤ 4194304) := fun j => ⟨sum_ge _, sum_le HL.out.bd hN2 (by rw [List.length_take]; rw [← HRNL.out] at hr4; omega)⟩
          have HXB : Hid (∀ B, -1 ≤ Y B ∧ Y B ≤ 1048576) := fun B => ⟨(HL.out.snd B).1, HL.out.bd.le hN2 B⟩
          subst hae
          clear hrr r0 r1 hA hb5
          go_upto_region 8 with fail
          rw [HW5.out, HRBX.out]
          clear t0 t1 HW5 HRBX HL
          obtain ⟨y0, y1⟩ := bx_cells2 Y5.out
          go_wp2_with fail
          clear y0 y1
          go_loopg [7, 26] rn (fun gg v7 v26 wr => ∃ (j : Nat), j ≤ rn ∧ rn - j ≤ gg ∧ v7 = .int .i64 (sumV Y (rt.take j)) ∧ v26 = .int .i64 j ∧ Hid (LTb g.rules N w0 p Y wr) ∧ Hid (wr.heap[rbx]? = some (.cells #[.int .i64 (A : Int), .slice ar rn cr] 32 (0, 0))))
          case atStart => exact ⟨0, by omega, by omega, rfl, rfl, HL5, Y5⟩
          case round =>
            clear HL5 Y5
            obtain ⟨j, hj, hg3, rfl, rfl, HL5, Y5⟩ := hrel
            obtain ⟨w6, rfl⟩ : ∃ ww : World, ww = wr := ⟨_, rfl⟩
            by_cases hjm : j < rn
            · have hjm' : (j : Int) < (rn : Int) := by omega
              have hj0 : (0 : Int) ≤ (j : Int) := by omega
              have hjx : j < rt.length := by rw [HRNL.out]; exact hjm
              obtain ⟨sb, so, hae, -, hsb, s0, s1⟩ := (show Rd AnyB w0 (.sl (rt.map Sym.d)) [.slice ar rt.length cr] by rw [HRNL.out]; exact HRR.out).sym_at hjx
              have u0 := (HL5.out.bel.cell (lt_of_cell s0)).trans s0
              have u1 := (HL5.out.bel.cell (lt_of_cell s1)).trans s1
              have HSN : Hid (sumV Y (rt.take (j + 1)) = stepV Y (sumV Y (rt.take j)) rt[j]) := by show _ = _; rw [List.take_succ_eq_append_getElem hjx, stepV_snoc]
              have HOS := Lib.hid (HOKR.out _ (List.getElem_mem hjx))
              have hg1 := HSG.out j
              have hg2' := HSG.out (j + 1)
              obtain ⟨⟨st, sn⟩, HSY⟩ := nameIt (rt[j]'hjx)
              rw [HSY.out] at u0 u1 HSN HOS
              obtain ⟨sj, HSJ⟩ := nameIt (sumV Y (rt.take j))
              obtain ⟨sk, HSK⟩ := nameIt (sumV Y (rt.take (j + 1)))
              rw [HSJ.out] at HSN hg1
              rw [HSK.out] at HSN hg2'
              rw [HSJ.out]
              simp only at u0 u1
              obtain ⟨w7, HW7⟩ := nameIt (w6.alloc (.cells #[.bool st, .int .i64 sn] 42))
              have hb7 : Below w6.heap.size w6 w7 := by rw [← HW7.out]; exact (Below.refl _ _).alloc (Nat.le_refl _) _
              have HL7 := Lib.hid (HL5.out.keep hb7)
              have Y7 := Lib.hid (bx_keep Y5.out hb7)
              have S7 : Hid (w7.heap[w6.heap.size]? = some (.cells #[.bool st, .int .i64 sn] 42 (0, 0))) := by rw [← HW7.out]; exact bx_new _ _ _ rfl
              subst hae
              clear s0 s1 hb7
              go_upto_region 13 with fail
              rw [HW7.out]
              clear u0 u1 HW7
              obtain ⟨z0, z1⟩ := bx_cells2 S7.out
              have HFN : Hid (Value.int .i64 sk = .int .i64 (sumV Y (rt.take (j + 1)))) := by show _ = _; rw [HSK.out]
              by_cases hs0 : 0 ≤ sj
              · cases st with
                | true =>
                  have hw : IntKind.i64.wrap (sj + 1) = sk := by
                    have : sk = sj + 1 := by rw [HSN.out]; unfold stepV; rw [if_pos hs0]; rfl
                    rw [IntWalk.i64_in _ (by omega)]; exact this.symm
                  go_wp2_with fail
                  go_roundg (rn - (j + 1))
                  case measure => omega
                  case rel => exact ⟨j + 1, by omega, by omega, HFN.out, by go_num, HL7, Y7⟩
                | false =>
                  obtain ⟨hq1, hq2⟩ := HOS.out rfl
                  simp only at hq1 hq2
                  obtain ⟨B, rfl⟩ : ∃ B : Nat, sn = (B : Int) := ⟨sn.toNat, by omega⟩
                  rw [Int.toNat_natCast] at hq2
                  have hB0 : (0 : Int) ≤ (B : Int) := by omega
                  have hB1 : (B : Int) < (N : Int) := by omega
                  have q0 := HL7.out.row.cell hq2
                  have hyb := HXB.out B
                  have HST : Hid (sk = if 0 ≤ Y B then sj + Y B else -1) := by show _ = _; rw [HSN.out]; unfold stepV; rw [if_pos hs0]; rfl
                  obtain ⟨yb, HYB⟩ := nameIt (Y B)
                  rw [HYB.out] at q0 hyb HST
                  by_cases hy : 0 ≤ yb
                  · have hw : IntKind.i64.wrap (sj + yb) = sk := by
                      have : sk = sj + yb := by rw [HST.out, if_pos hy]
                      rw [IntWalk.i64_in _ (by omega)]; exact this.symm
                    go_wp2_with fail
                    go_roundg (rn - (j + 1))
                    case measure => omega
                    case rel => exact ⟨j + 1, by omega, by omega, HFN.out, by go_num, HL7, Y7⟩
                  · have hsk : sk = -1 := by rw [HST.out, if_neg hy]
                    have hy' : yb < 0 := by omega
                    rw [hsk] at HFN
                    go_wp2_with fail
                    go_roundg (rn - (j + 1))
                    case measure => omega
                    case rel => exact ⟨j + 1, by omega, by omega, HFN.out, by go_num, HL7, Y7⟩
              · have hsk : sk = -1 := by rw [HSN.out]; unfold stepV; rw [if_neg hs0]
                have hs0' : sj < 0 := by omega
                rw [hsk] at HFN
                cases st <;> (
                  go_wp2_with fail
                  go_roundg (rn - (j + 1))
                  case measure => omega
                  case rel => exact ⟨j + 1, by omega, by omega, HFN.out, by go_num, HL7, Y7⟩)
            · have hjm' : ¬ (j : Int) < (rn : Int) := by omega
              have hjt : rt.take j = rt := List.take_of_length_le (by rw [HRNL.out]; omega)
              rw [hjt]
              have hg1 := HSG.out j
              rw [hjt] at hg1
              have HSUM : Hid (Y = X → sumV Y rt = sumV X rt) := fun e => by rw [e]
              have HDV : Hid (0 ≤ sumV Y rt → Dv g.rules A (sumV Y rt).toNat) := fun h => dv_rule HMEM.out HAL.out (by rw [HRT.out]; exact sum_dl HL5.out.snd h)
              have HBD4 : Hid (sumV Y rt ≤ 4 * ((4 ^ nset Y N : Nat) : Int)) := sum_bd HL5.out.bd (by rw [HRNL.out]; exact hr4)
              obtain ⟨sm, HSM⟩ := nameIt (sumV Y rt)
              rw [HSM.out] at hg1 HSUM HDV HBD4
              rw [HSM.out]
              have q0 := HL5.out.row.cell hAN
              have qf := HL5.out.row.free A
              have hyb := HXB.out A
              have HYA : Hid (Y = X → Y A = X A) := fun e => by rw [e]
              have HSET : Hid (0 ≤ sm → (Y A < 0 ∨ sm < Y A) → LTb g.rules N w0 p (setV Y A sm) (w6.setCell ⟨p, A, none⟩ (.int .i64 sm)) ∧ muV (setV Y A sm) N < muV Y N) := by
                intro h1 h2
                have hv : sm < Y A ∨ (Y A < 0 ∧ sm ≤ 4 * ((4 ^ nset Y N : Nat) : Int)) := by
                  have := HBD4.out
                  rcases h2 with h2 | h2
                  · exact .inr ⟨h2, this⟩
                  · exact .inl h2
                exact ⟨HL5.out.set hAN (setV_sound HL5.out.snd h1 (HDV.out h1)) (bdV_set HL5.out.bd hAN h1 hv), mu_set hN2 hAN h1 hv⟩
              have HMUL : Hid (b = true → muV Y N < mu) := HM.out
              have HMUE : Hid (muV Y N ≤ mu) := by
                show muV Y N ≤ mu
                cases b with
                | true => exact Nat.le_of_lt (HM.out rfl)
                | false => rw [(HC.out rfl).1, HMU.out]; exact Nat.le_refl _
              have hA0 : (0 : Int) ≤ (A : Int) := by omega
              have hA1 : (A : Int) < (N : Int) := by omega
              obtain ⟨y0, y1⟩ := bx_cells2 Y5.out
              obtain ⟨ya, HYAN⟩ := nameIt (Y A)
              rw [HYAN.out] at q0 hyb HYA HSET
              have hnpr : ¬ p = rbx := by have := HPW.out; omega
              have hnrp : ¬ rbx = p := fun h => hnpr h.symm
              by_cases hs0 : 0 ≤ sm
              · by_cases hset : ya < 0 ∨ sm < ya
                · obtain ⟨hl8, hm8⟩ := HSET.out hs0 hset
                  have HL8 := Lib.hid hl8
                  have HM8 : Hid (muV (setV Y A sm) N < mu) := Nat.lt_of_lt_of_le hm8 HMUE.out
                  clear hl8 hm8
                  by_cases hy : ya < 0
                  · go_wp2_with fail
                    go_roundg (rl - (i + 1))
                    case measure => omega
                    case rel => exact ⟨i + 1, setV Y A sm, true, by omega, by omega, rfl, by go_num, HL8, (fun e => by cases e), (fun _ => HM8.out)⟩
                  · have hlt2 : sm < ya := by omega
                    go_wp2_with fail
                    go_roundg (rl - (i + 1))
                    case measure => omega
                    case rel => exact ⟨i + 1, setV Y A sm, true, by omega, by omega, rfl, by go_num, HL8, (fun e => by cases e), (fun _ => HM8.out)⟩
                · have hy : ¬ ya < 0 := by omega
                  have hlt2 : ¬ sm < ya := by omega
                  have HCN : Hid (b = false → Y = X ∧ ClosedTo g.rules (i + 1) X) := by
                    intro e
                    obtain ⟨h1, h2⟩ := HC.out e
                    refine ⟨h1, HNX.out h2 (fun _ => ?_)⟩
                    rw [← HSUM.out h1, ← HYA.out h1]
                    omega
                  go_wp2_with fail
                  go_roundg (rl - (i + 1))
                  case measure => omega
                  case rel => exact ⟨i + 1, Y, b, by omega, by omega, rfl, by go_num, HL5, HCN, HM⟩
              · have hs0' : sm < 0 := by omega
                have HCN : Hid (b = false → Y = X ∧ ClosedTo g.rules (i + 1) X) := by
                  intro e
                  obtain ⟨h1, h2⟩ := HC.out e
                  refine ⟨h1, HNX.out h2 (fun h => ?_)⟩
                  rw [← HSUM.out h1] at h
                  omega
                go_wp2_with fail
                go_roundg (rl - (i + 1))
                case measure => omega
                case rel => exact ⟨i + 1, Y, b, by omega, by omega, rfl, by go_num, HL5, HCN, HM⟩
        · have hlt' : ¬ (i : Int) < (rl : Int) := by omega
          have HCE : Hid (b = false → ClosedV g.rules Y) := by
            intro e
            obtain ⟨h1, h2⟩ := HC.out e
            intro q hq
            rw [h1]
            exact h2 q (by rw [List.take_of_length_le (by rw [HRL.out]; omega)]; exact hq)
          have HMM : Hid (b = true → muV Y N + 1 ≤ mu) := HM.out
          go_wp2_with fail
          go_roundg mu
          case measure => omega
          case rel => exact ⟨b, Y, rfl, HMM.out, HL, HCE⟩
end Cs
end Go.Proofs.Ytmbjnemahgfhcaa
