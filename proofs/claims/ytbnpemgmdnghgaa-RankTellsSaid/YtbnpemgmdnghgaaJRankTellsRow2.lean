/- Plain: all trees of a symbol with a length, in order; how many, and which has a number. Plain: which tree has a number: first the rule, then the lengths. A table of numbers in memory, that is being filled. Rows of nested data of the call's own: append of one datum, of a slice of data. Tables in memory whose rows were appended; the contracts of census.table. The contracts of tree.kids and tree.walk. The contracts of gram.CopyTree and tree.Clone. The contracts of Below and tree.At. The contract of tree.At. Trees with one subtree put in another's place: the words. -/
import Derived.Test.YtbnpemgmdnghgaaJRankTellsRow1
import Derived.Deep.OwnRows
import Derived.Deep.LoopGhost
import Derived.Deep.DeepCutAuto
import Derived.Deep.Cut
import Derived.Shelf.Abstract
import Derived.Deep.RegionHeld3
import Derived.StillTailTactics
namespace Go.Proofs.Ytbnpemgmdnghgaa
open Go.RowKit
namespace Cs

/-- all lists of trees of symbols with a length together -/
def enL (S : Nat → Nat → Bool) (o : Sym → Nat → List Tree) : List Sym → Nat → List (List Tree)
  | [], k => if k = 0 then [[]] else []
  | s :: l, k => (List.range (k + 1)).flatMap fun i => if (hasK S s i && canK S l (k - i)) = true then (o s i).flatMap fun x => (enL S o l (k - i)).map (x :: ·) else []
def symE (S : Nat → Nat → Bool) (e : Nat → Nat → List Tree) (s : Sym) (k : Nat) : List Tree := if hasK S s k = false then [] else if s.term then [.node (-1) s.n []] else e s.n.toNat k
def enR (S : Nat → Nat → Bool) (o : Sym → Nat → List Tree) (A : Int) (k : Nat) : List Rule → Nat → List Tree
  | [], _ => []
  | r :: rs, j => (if r.left = A then (enL S o r.right k).map fun ks => Tree.node (j : Int) 0 ks else []) ++ enR S o A k rs (j + 1)
/-- all trees of a nonterminal of at most so many levels -/
def enF (rules : List Rule) (S : Nat → Nat → Bool) : Nat → Nat → Nat → List Tree
  | 0, _, _ => []
  | f + 1, A, k => if S A k = false then [] else enR S (symE S (enF rules S f)) (A : Int) k rules 0
theorem enR_append {S : Nat → Nat → Bool} {o : Sym → Nat → List Tree} {A : Int} {k : Nat} : ∀ (a b : List Rule) (j : Nat), enR S o A k (a ++ b) j = enR S o A k a j ++ enR S o A k b (j + a.length)
  | [], b, j => by simp [enR]
  | r :: a, b, j => by
    rw [List.cons_append, enR, enR, enR_append a b (j + 1), List.append_assoc, List.length_cons, show j + (a.length + 1) = j + 1 + a.length by omega]
theorem flat_same {α β : Type} {f g : α → List β} : ∀ (l : List α), (∀ a, a ∈ l → f a = g a) → l.flatMap f = l.flatMap g
  | [], _ => rfl
  | a :: l, h => by
    rw [List.flatMap_cons, List.flatMap_cons, h a List.mem_cons_self, flat_same l fun b hb => h b (List.mem_cons_of_mem _ hb)]
/-- what is asked for is good: its trees alone matter -/
theorem enL_same {S : Nat → Nat → Bool} {o o' : Sym → Nat → List Tree} {G : Nat → Nat → Prop} (ho : ∀ (s : Sym) (i : Nat), s.term = true → o s i = o' s i) (hG : ∀ (s : Sym) (i : Nat), s.term = false → G s.n.toNat i → o s i = o' s i) :
    ∀ (l : List Sym) (k : Nat), Fine S G l k → enL S o l k = enL S o' l k
  | [], _, _ => rfl
  | s :: l, k, h => by
    rw [enL, enL]
    refine flat_same _ fun i hi => ?_
    have hik : i ≤ k := by have := List.mem_range.1 hi; omega
    by_cases e : (hasK S s i && canK S l (k - i)) = true
    · rw [if_pos e, if_pos e]
      rw [Bool.and_eq_true] at e
      rw [enL_same ho hG l (k - i) (h.tail hik e.1)]
      cases ht : s.term with
      | true => rw [ho s i ht]
      | false => rw [hG s i ht (h.head hik e.1 e.2 ht)]
    · rw [if_neg e, if_neg e]
theorem enR_same {S : Nat → Nat → Bool} {o o' : Sym → Nat → List Tree} {A : Int} {k : Nat} : ∀ (l : List Rule) (j : Nat), (∀ r ∈ l, r.left = A → enL S o r.right k = enL S o' r.right k) → enR S o A k l j = enR S o' A k l j
  | [], _, _ => rfl
  | r :: l, j, h => by
    rw [enR, enR, enR_same l (j + 1) fun r' h' => h r' (List.mem_cons_of_mem _ h')]
    by_cases hl : r.left = A
    · rw [if_pos hl, if_pos hl, h r List.mem_cons_self hl]
    · rw [if_neg hl, if_neg hl]
/-- a node from which no circle is reached, in so many steps -/
def Gd (M T : Nat → Nat → Bool) (N n size f A k : Nat) : Prop := A < N ∧ k ≤ n ∧ M A k = false ∧ reachN T size (A * (n + 1) + k) < f
def EndsM (rules : List Rule) (S M T : Nat → Nat → Bool) (N n size : Nat) : Prop :=
  ∀ (A k : Nat) (r : Rule), A < N → k ≤ n → M A k = false → r ∈ rules → r.left = (A : Int) → Fine S (Gd M T N n size (reachN T size (A * (n + 1) + k))) r.right k
theorem Fine.mono {S : Nat → Nat → Bool} {G G' : Nat → Nat → Prop} {l : List Sym} {k : Nat} (h : Fine S G l k) (hg : ∀ A i, G A i → G' A i) : Fine S G' l k := fun p s i a h1 h2 h3 h4 h5 h6 => hg _ _ (h p s i a h1 h2 h3 h4 h5 h6)
section
variable {rules : List Rule} {S M T : Nat → Nat → Bool} {N n size : Nat} {cap many : Int}
theorem Gd.mono {f f' A k : Nat} (h : Gd M T N n size f A k) (hf : f ≤ f') : Gd M T N n size f' A k := ⟨h.1, h.2.1, h.2.2.1, Nat.lt_of_lt_of_le h.2.2.2 hf⟩
theorem enF_stable (hE : EndsM rules S M T N n size) : ∀ (f A k : Nat), Gd M T N n size f A k → ∀ f', f ≤ f' → enF rules S f' A k = enF rules S f A k := by
  intro f
  induction f with
  | zero => intro A k h; exact absurd h.2.2.2 (Nat.not_lt_zero _)
  | succ f ih =>
    intro A k h f' hf
    obtain ⟨hA, hk, hM, hr⟩ := h
    obtain ⟨f0, rfl⟩ : ∃ f0, f' = f0 + 1 := ⟨f' - 1, by omega⟩
    rw [enF, enF]
    by_cases hS : S A k = false
    · rw [if_pos hS, if_pos hS]
    · rw [if_neg hS, if_neg hS]
      refine enR_same _ _ fun r hr' hl => ?_
      refine enL_same (G := Gd M T N n size (reachN T size (A * (n + 1) + k))) (fun s i ht => by unfold symE; simp [ht]) (fun s i ht hg => ?_) r.right k (hE A k r hA hk hM hr' hl)
      unfold symE
      simp only [ht, Bool.false_eq_true, if_false]
      rw [ih _ _ (hg.mono (by omega)) f0 (by omega)]
/-- the trees of a nonterminal -/
def EN (rules : List Rule) (S : Nat → Nat → Bool) (size : Nat) : Nat → Nat → List Tree := enF rules S (size + 2)
theorem EN_eq (hE : EndsM rules S M T N n size) {A k : Nat} (hA : A < N) (hk : k ≤ n) (hM : M A k = false) :
    EN rules S size A k = if S A k = false then [] else enR S (symE S (EN rules S size)) (A : Int) k rules 0 := by
  have hs := reachN_le T size (A * (n + 1) + k)
  unfold EN
  have e := enF_stable hE (size + 2) A k ⟨hA, hk, hM, by omega⟩ (size + 3) (by omega)
  rw [← e, enF]
theorem EN_all (hE : EndsM rules S M T N n size) {A k : Nat} (hA : A < N) (hk : k ≤ n) (hM : M A k = false) (f : Nat) (hf : size + 2 ≤ f) : enF rules S f A k = EN rules S size A k := by
  have hs := reachN_le T size (A * (n + 1) + k)
  exact enF_stable hE (size + 2) A k ⟨hA, hk, hM, by omega⟩ f hf
end
theorem cap_step {cap : Int} (h1 : 1 ≤ cap) (h2 : cap ≤ 1000000000) (a x y : Nat) : listStep cap (min (a : Int) cap) (min (x : Int) cap) (min (y : Int) cap) = min ((a + x * y : Nat) : Int) cap := by
  unfold listStep
  have hx : 0 ≤ min (x : Int) cap := by omega
  have hy : 0 ≤ min (y : Int) cap := by omega
  have hx' : min (x : Int) cap ≤ 1000000000 := by omega
  have hy' : min (y : Int) cap ≤ 1000000000 := by omega
  have hp0 : 0 ≤ min (x : Int) cap * min (y : Int) cap := Int.mul_nonneg hx hy
  have hp1 : min (x : Int) cap * min (y : Int) cap ≤ 1000000000 * 1000000000 := Int.mul_le_mul hx' hy' hy (by decide)
  have ha : 0 ≤ min (a : Int) cap := by omega
  have ha' : min (a : Int) cap ≤ 1000000000 := by omega
  have hxy : min (x : Int) cap * min (y : Int) cap = (x : Int) * y ∨ (cap ≤ min (x : Int) cap * min (y : Int) cap ∧ cap ≤ (x : Int) * y) := by
    by_cases hx0 : x = 0
    · subst hx0
      left
      rw [show min ((0 : Nat) : Int) cap = 0 by omega]
      simp
    · by_cases hy0 : y = 0
      · subst hy0
        left
        rw [show min ((0 : Nat) : Int) cap = 0 by omega]
        simp
      · have x1 : (1 : Int) ≤ x := by omega
        have y1 : (1 : Int) ≤ y := by omega
        by_cases hxc : cap ≤ x
        · right
          rw [Int.min_eq_right hxc]
          have a1 : 1 ≤ min (y : Int) cap := by omega
          have e1 : cap * 1 ≤ cap * min (y : Int) cap := Int.mul_le_mul_of_nonneg_left a1 (by omega)
          have e2 : (x : Int) * 1 ≤ (x : Int) * y := Int.mul_le_mul_of_nonneg_left y1 (by omega)
          omega
        · by_cases hyc : cap ≤ y
          · right
            rw [Int.min_eq_right hyc, Int.min_eq_left (by omega)]
            have e1 : 1 * cap ≤ (x : Int) * cap := Int.mul_le_mul_of_nonneg_right x1 (by omega)
            have e2 : 1 * (y : Int) ≤ (x : Int) * y := Int.mul_le_mul_of_nonneg_right x1 (by omega)
            omega
          · left
            rw [Int.min_eq_left (by omega), Int.min_eq_left (by omega)]
  have hxy0 : (0 : Int) ≤ (x : Int) * y := by exact_mod_cast Nat.zero_le (x * y)
  push_cast
  obtain ⟨P, hP⟩ : ∃ P, P = min (x : Int) cap * min (y : Int) cap := ⟨_, rfl⟩
  obtain ⟨Q, hQ⟩ : ∃ Q, Q = (x : Int) * y := ⟨_, rfl⟩
  rw [← hP] at hxy hp0 hp1 ⊢
  rw [← hQ] at hxy hxy0 ⊢
  rw [IntWalk.i64_in P (by omega), IntWalk.i64_in _ (by omega)]
  omega
theorem len_prod {α : Type} (f : α → List (List α)) (xs : List α) (ys : List (List α)) : (xs.flatMap fun x => ys.map (x :: ·)).length = xs.length * ys.length := by
  induction xs with
  | nil => simp
  | cons x xs ih =>
    rw [List.flatMap_cons, List.length_append, ih, List.length_map, List.length_cons, Nat.add_mul]
    omega
def prodL (xs : List Tree) (ys : List (List Tree)) : List (List Tree) := xs.flatMap fun x => ys.map (x :: ·)
theorem prodL_len (xs : List Tree) (ys : List (List Tree)) : (prodL xs ys).length = xs.length * ys.length := len_prod (fun _ => []) xs ys
/-- the block of lists whose first tree has a length -/
def blk (S : Nat → Nat → Bool) (o : Sym → Nat → List Tree) (s : Sym) (l : List Sym) (k i : Nat) : List (List Tree) := if (hasK S s i && canK S l (k - i)) = true then prodL (o s i) (enL S o l (k - i)) else []
def pre (S : Nat → Nat → Bool) (o : Sym → Nat → List Tree) (s : Sym) (l : List Sym) (k m : Nat) : List (List Tree) := (List.range m).flatMap (blk S o s l k)
theorem pre_next {S : Nat → Nat → Bool} {o : Sym → Nat → List Tree} {s : Sym} {l : List Sym} {k m : Nat} : pre S o s l k (m + 1) = pre S o s l k m ++ blk S o s l k m := by unfold pre; rw [List.range_succ, List.flatMap_append]; simp
theorem enL_pre {S : Nat → Nat → Bool} {o : Sym → Nat → List Tree} {s : Sym} {l : List Sym} {k : Nat} : enL S o (s :: l) k = pre S o s l k (k + 1) := rfl
theorem pre_le {S : Nat → Nat → Bool} {o : Sym → Nat → List Tree} {s : Sym} {l : List Sym} {k m m' : Nat} (h : m ≤ m') : ∃ z, pre S o s l k m' = pre S o s l k m ++ z := by
  induction m' with
  | zero =>
    obtain rfl : m = 0 := by omega
    exact ⟨[], by simp⟩
  | succ m' ih =>
    by_cases e : m = m' + 1
    · subst e; exact ⟨[], by simp⟩
    · obtain ⟨z, hz⟩ := ih (by omega)
      exact ⟨z ++ blk S o s l k m', by rw [pre_next, hz, List.append_assoc]⟩
/-- the number that is reckoned is the number of lists, limited -/
theorem listV_len {S : Nat → Nat → Bool} {cap : Int} (h1 : 1 ≤ cap) (h2 : cap ≤ 1000000000) {ov : Sym → Nat → Int} {o : Sym → Nat → List Tree} {G : Nat → Nat → Prop} (ho : ∀ (s : Sym) (i : Nat), hasK S s i = true → s.term = true → ov s i = min ((o s i).length : Int) cap) (hG : ∀ (s : Sym) (i : Nat), hasK S s i = true → s.term = false → G s.n.toNat i → ov s i = min ((o s i).length : Int) cap) :
    ∀ (l : List Sym) (k : Nat), Fine S G l k → listV S cap ov l k = min ((enL S o l k).length : Int) cap
  | [], k, _ => by
    unfold listV enL
    by_cases hk : k = 0
    · rw [if_pos hk, if_pos hk]; simp; omega
    · rw [if_neg hk, if_neg hk]; simp; omega
  | s :: l, k, h => by
    rw [listV, enL_pre]
    have key : ∀ m, m ≤ k + 1 → (List.range m).foldl (fun sum i => if (hasK S s i && canK S l (k - i)) = true then listStep cap sum (ov s i) (listV S cap ov l (k - i)) else sum) 0 = min ((pre S o s l k m).length : Int) cap := by
      intro m
      induction m with
      | zero => intro _; simp [pre]; omega
      | succ m ih =>
        intro hm
        rw [List.range_succ, List.foldl_append, ih (by omega), pre_next, List.length_append]
        simp only [List.foldl_cons, List.foldl_nil]
        unfold blk
        by_cases e : (hasK S s m && canK S l (k - m)) = true
        · rw [if_pos e, if_pos e, prodL_len]
          rw [Bool.and_eq_true] at e
          have hmk : m ≤ k := by omega
          rw [listV_len h1 h2 ho hG l (k - m) (h.tail hmk e.1)]
          have hov : ov s m = min ((o s m).length : Int) cap := by
            cases ht : s.term with
            | true => exact ho s m e.1 ht
            | false => exact hG s m e.1 ht (h.head hmk e.1 e.2 ht)
          rw [hov]
          exact cap_step h1 h2 _ _ _
        · rw [if_neg e, if_neg e]; simp
    exact key (k + 1) (Nat.le_refl _)
theorem listV_zero {S : Nat → Nat → Bool} {cap : Int} {ov : Sym → Nat → Int} : ∀ (l : List Sym) (k : Nat), canK S l k = false → listV S cap ov l k = 0
  | [], k, h => by
    unfold canK at h
    unfold listV
    rw [if_neg (by simpa using h)]
  | s :: l, k, h => by
    rw [listV]
    have key : ∀ (x : List Nat), (∀ i ∈ x, i ≤ k) → x.foldl (fun sum i => if (hasK S s i && canK S l (k - i)) = true then listStep cap sum (ov s i) (listV S cap ov l (k - i)) else sum) 0 = 0 := by
      intro x
      induction x with
      | nil => intro _; rfl
      | cons i x ih =>
        intro hx
        rw [List.foldl_cons, if_neg, ih fun j hj => hx j (List.mem_cons_of_mem _ hj)]
        intro e
        rw [Bool.and_eq_true] at e
        have : canK S (s :: l) k = true := canK_cons.2 ⟨i, hx i List.mem_cons_self, e.1, e.2⟩
        rw [this] at h
        cases h
    exact key _ fun i hi => by have := List.mem_range.1 hi; omega
section
variable {rules : List Rule} {S M T : Nat → Nat → Bool} {N n size : Nat} {cap many : Int}
/-- so is that of a nonterminal -/
theorem ofF_len (h1 : 1 ≤ cap) (h2 : cap ≤ 1000000000) (hE : EndsM rules S M T N n size) : ∀ (f A k : Nat), Gd M T N n size f A k → ofF rules S M cap many f A k = min ((enF rules S f A k).length : Int) cap := by
  intro f
  induction f with
  | zero => intro A k h; exact absurd h.2.2.2 (Nat.not_lt_zero _)
  | succ f ih =>
    intro A k h
    obtain ⟨hA, hk, hM, hr⟩ := h
    rw [ofF, enF]
    by_cases hS : S A k = false
    · rw [if_pos hS, if_pos hS]; simp; omega
    · rw [if_neg hS, if_neg hS, hM]
      simp only [Bool.false_eq_true, if_false]
      have hL : ∀ r ∈ rules, r.left = (A : Int) → listV S cap (symV S (ofF rules S M cap many f)) r.right k = min ((enL S (symE S (enF rules S f)) r.right k).length : Int) cap := by
        intro r hr' hl
        refine listV_len h1 h2 (G := Gd M T N n size (reachN T size (A * (n + 1) + k))) (fun s i hs ht => ?_) (fun s i hs ht hg => ?_) r.right k (hE A k r hA hk hM hr' hl)
        · unfold symV symE; simp [ht, hs]; omega
        · unfold symV symE; simp only [ht, hs, Bool.true_eq_false, Bool.false_eq_true, if_false]; exact ih _ _ (hg.mono (by omega))
      have key : ∀ (l : List Rule) (j : Nat) (a : Nat), (∀ r ∈ l, r ∈ rules) → l.foldl (fun sum r => if r.left = (A : Int) then min (IntKind.i64.wrap (sum + listV S cap (symV S (ofF rules S M cap many f)) r.right k)) cap else sum) (min (a : Int) cap) = min ((a + (enR S (symE S (enF rules S f)) (A : Int) k l j).length : Nat) : Int) cap := by
        intro l
        induction l with
        | nil => intro j a _; simp [enR]
        | cons r l ihl =>
          intro j a hl
          rw [List.foldl_cons, enR, List.length_append]
          by_cases he : r.left = (A : Int)
          · rw [if_pos he, if_pos he, hL r (hl r List.mem_cons_self) he, List.length_map]
            obtain ⟨x, hx⟩ : ∃ x, x = (enL S (symE S (enF rules S f)) r.right k).length := ⟨_, rfl⟩
            rw [← hx]
            have hw : min (IntKind.i64.wrap (min (a : Int) cap + min (x : Int) cap)) cap = min ((a + x : Nat) : Int) cap := by
              rw [IntWalk.i64_in _ (by omega)]; omega
            rw [hw, ihl (j + 1) (a + x) fun r' h' => hl r' (List.mem_cons_of_mem _ h'), Nat.add_assoc]
          · rw [if_neg he, if_neg he, ihl (j + 1) a fun r' h' => hl r' (List.mem_cons_of_mem _ h')]
            simp
      have := key rules 0 0 fun r h => h
      rw [show min ((0 : Nat) : Int) cap = 0 by omega, Nat.zero_add] at this
      exact this
theorem valK_len (h1 : 1 ≤ cap) (h2 : cap ≤ 1000000000) (hE : EndsM rules S M T N n size) {A k : Nat} (hA : A < N) (hk : k ≤ n) (hM : M A k = false) : valK rules S M cap many size A k = min ((EN rules S size A k).length : Int) cap := by
  have hs := reachN_le T size (A * (n + 1) + k)
  exact ofF_len h1 h2 hE _ _ _ ⟨hA, hk, hM, by omega⟩
theorem listV_EN (h1 : 1 ≤ cap) (h2 : cap ≤ 1000000000) (hE : EndsM rules S M T N n size) {f : Nat} {l : List Sym} {k : Nat} (hF : Fine S (Gd M T N n size f) l k) :
    listV S cap (symV S (valK rules S M cap many size)) l k = min ((enL S (symE S (EN rules S size)) l k).length : Int) cap := by
  refine listV_len h1 h2 (G := Gd M T N n size f) (fun s i hs ht => ?_) (fun s i hs ht hg => ?_) l k hF
  · unfold symV symE; simp [ht, hs]; omega
  · unfold symV symE; simp only [ht, hs, Bool.true_eq_false, Bool.false_eq_true, if_false]; exact valK_len h1 h2 hE hg.1 hg.2.1 hg.2.2.1
theorem symV_EN (h1 : 1 ≤ cap) (h2 : cap ≤ 1000000000) (hE : EndsM rules S M T N n size) {f : Nat} {s : Sym} {k : Nat} (hF : s.term = false → Gd M T N n size f s.n.toNat k) :
    symV S (valK rules S M cap many size) s k = min ((symE S (EN rules S size) s k).length : Int) cap := by
  unfold symV symE
  by_cases hs : hasK S s k = false
  · rw [if_pos hs, if_pos hs]; simp; omega
  · rw [if_neg hs, if_neg hs]
    cases ht : s.term with
    | true => simp; omega
    | false => simp only [Bool.false_eq_true, if_false]; have hg := hF ht; exact valK_len h1 h2 hE hg.1 hg.2.1 hg.2.2.1
end
theorem ends_MM {rules : List Rule} {S : Nat → Nat → Bool} {N n : Nat} (hok : ∀ r ∈ rules, ∀ s ∈ r.right, s.term = false → 0 ≤ s.n ∧ s.n.toNat < N) : EndsM rules S (MK rules S N n) (clK rules S N n) N n (sizeK N n) := by
  intro A k r hA hk hM hr hl p s i a hp ht hS ha h1 h2
  have hs := hok r hr s (List.mem_of_getElem? hp) ht
  have hin : i ≤ n := by omega
  have hu := node_lt (N := N) hA hk
  have hv := node_lt (N := N) hs.2 hin
  have hsp : splitK S (r.right.take p) (r.right.drop (p + 1)) (k - i) = true := splitK_iff.2 ⟨a, by omega, h1, by rw [show k - i - a = k - a - i by omega]; exact h2⟩
  have hedge := e5_hit (n := n) hr hk hp ht (show i ≤ k by omega) hS hsp
  rw [hl, Int.toNat_natCast] at hedge
  have hT : clK rules S N n (A * (n + 1) + k) (s.n.toNat * (n + 1) + i) = true := clo_edge hu hv hedge
  have hvv := manyK_not hM hv (.inr hT)
  refine ⟨hs.2, hin, ?_, reachN_lt clo_trans hT hv hvv⟩
  unfold MK manyK
  rw [List.any_eq_false]
  intro j hj
  have hj' := List.mem_range.1 hj
  intro e
  rw [Bool.and_eq_true, Bool.or_eq_true] at e
  have : clK rules S N n (A * (n + 1) + k) j = true := by
    rcases e.1 with e1 | e1
    · rw [beq_iff_eq] at e1; rw [← e1]; exact hT
    · exact clo_trans _ _ _ hT e1
  have := manyK_not hM hj' (.inr this)
  rw [this] at e
  exact absurd e.2 (by decide)

/-- a block of a product: first by the head -/
theorem prod_at {xs : List Tree} {ys : List (List Tree)} {a b : Nat} {x : Tree} {y : List Tree} (hx : xs[a]? = some x) (hy : ys[b]? = some y) : (prodL xs ys)[a * ys.length + b]? = some (x :: y) := by
  induction xs generalizing a with
  | nil => simp at hx
  | cons z xs ih =>
    have hb : b < ys.length := (List.getElem?_eq_some_iff.1 hy).1
    unfold prodL
    rw [List.flatMap_cons]
    cases a with
    | zero =>
      simp at hx
      subst hx
      rw [List.getElem?_append_left (by simp; omega)]
      simp [hy]
    | succ a =>
      rw [List.getElem?_append_right (by rw [List.length_map, Nat.add_mul]; omega)]
      have := ih (a := a) (by simpa using hx)
      rw [List.length_map, show (a + 1) * ys.length + b - ys.length = a * ys.length + b by rw [Nat.add_mul]; omega]
      exact this
end Cs
end Go.Proofs.Ytbnpemgmdnghgaa
namespace Go.Proofs.Ytbnpemgmdnghgaa
open Go.RowKit
namespace Cs

def preR (S : Nat → Nat → Bool) (o : Sym → Nat → List Tree) (A : Int) (k : Nat) (rules : List Rule) (j : Nat) : List Tree := enR S o A k (rules.take j) 0
theorem preR_zero {S : Nat → Nat → Bool} {o : Sym → Nat → List Tree} {A : Int} {k : Nat} {rules : List Rule} : preR S o A k rules 0 = [] := by unfold preR; rw [List.take_zero]; rfl
theorem preR_next {S : Nat → Nat → Bool} {o : Sym → Nat → List Tree} {A : Int} {k : Nat} {rules : List Rule} {j : Nat} (hj : j < rules.length) :
    preR S o A k rules (j + 1) = preR S o A k rules j ++ (if rules[j].left = A then (enL S o rules[j].right k).map fun ks => Tree.node (j : Int) 0 ks else []) := by
  unfold preR
  rw [List.take_succ_eq_append_getElem hj, enR_append]
  have hl : (rules.take j).length = j := by rw [List.length_take]; omega
  rw [hl]
  simp [enR]
theorem preR_all {S : Nat → Nat → Bool} {o : Sym → Nat → List Tree} {A : Int} {k : Nat} {rules : List Rule} : preR S o A k rules rules.length = enR S o A k rules 0 := by unfold preR; rw [List.take_length]
theorem preR_le {S : Nat → Nat → Bool} {o : Sym → Nat → List Tree} {A : Int} {k : Nat} {rules : List Rule} {j : Nat} (hj : j ≤ rules.length) : ∃ z, enR S o A k rules 0 = preR S o A k rules j ++ z := by
  refine ⟨enR S o A k (rules.drop j) (0 + (rules.take j).length), ?_⟩
  unfold preR
  rw [← enR_append, List.take_append_drop]
theorem preR_len {S : Nat → Nat → Bool} {o : Sym → Nat → List Tree} {A : Int} {k : Nat} {rules : List Rule} {j : Nat} (hj : j < rules.length) :
    (preR S o A k rules (j + 1)).length = (preR S o A k rules j).length + (if rules[j].left = A then (enL S o rules[j].right k).length else 0) := by
  rw [preR_next hj, List.length_append]
  by_cases h : rules[j].left = A
  · rw [if_pos h, if_pos h, List.length_map]
  · rw [if_neg h, if_neg h, List.length_nil]
theorem preR_len_le {S : Nat → Nat → Bool} {o : Sym → Nat → List Tree} {A : Int} {k : Nat} {rules : List Rule} {j : Nat} (hj : j ≤ rules.length) : (preR S o A k rules j).length ≤ (enR S o A k rules 0).length := by
  obtain ⟨z, hz⟩ := preR_le (S := S) (o := o) (A := A) (k := k) hj
  rw [hz, List.length_append]; omega
theorem enR_found {S : Nat → Nat → Bool} {o : Sym → Nat → List Tree} {A : Int} {k : Nat} {rules : List Rule} {j x : Nat} {t : Tree} (hj : j < rules.length) (hl : rules[j].left = A) (hx : x < (enL S o rules[j].right k).length) (ht : (enR S o A k rules 0)[(preR S o A k rules j).length + x]? = some t) :
    ∃ ks, t = Tree.node (j : Int) 0 ks ∧ (enL S o rules[j].right k)[x]? = some ks := by
  obtain ⟨z, hz⟩ := preR_le (S := S) (o := o) (A := A) (k := k) (show j + 1 ≤ rules.length from hj)
  rw [hz, preR_next hj, if_pos hl, List.append_assoc, List.getElem?_append_right (by omega), Nat.add_sub_cancel_left, List.getElem?_append_left (by rw [List.length_map]; exact hx), List.getElem?_map, List.getElem?_eq_getElem hx] at ht
  simp at ht
  exact ⟨_, ht.symm, List.getElem?_eq_getElem hx⟩
theorem pre_len_le {S : Nat → Nat → Bool} {o : Sym → Nat → List Tree} {s : Sym} {l : List Sym} {k j : Nat} (hj : j ≤ k + 1) : (pre S o s l k j).length ≤ (enL S o (s :: l) k).length := by
  obtain ⟨z, hz⟩ := pre_le (S := S) (o := o) (s := s) (l := l) (k := k) hj
  rw [enL_pre, hz, List.length_append]; omega
theorem pre_len {S : Nat → Nat → Bool} {o : Sym → Nat → List Tree} {s : Sym} {l : List Sym} {k j : Nat} : (pre S o s l k (j + 1)).length = (pre S o s l k j).length + (blk S o s l k j).length := by rw [pre_next, List.length_append]
theorem prodL_found {xs : List Tree} {ys : List (List Tree)} {x : Nat} (hx : x < xs.length * ys.length) : ∃ t y, (prodL xs ys)[x]? = some (t :: y) ∧ xs[x / ys.length]? = some t ∧ ys[x % ys.length]? = some y := by
  have hp : 0 < ys.length := by
    rcases Nat.eq_zero_or_pos ys.length with h | h
    · rw [h] at hx; simp at hx
    · exact h
  have h1 : x / ys.length < xs.length := Nat.div_lt_of_lt_mul (by rw [Nat.mul_comm]; exact hx)
  have h2 := Nat.mod_lt x hp
  refine ⟨xs[x / ys.length], ys[x % ys.length], ?_, List.getElem?_eq_getElem h1, List.getElem?_eq_getElem h2⟩
  have := prod_at (List.getElem?_eq_getElem h1) (List.getElem?_eq_getElem h2)
  rw [show x / ys.length * ys.length + x % ys.length = x by rw [Nat.mul_comm]; exact Nat.div_add_mod x ys.length] at this
  exact this
theorem enL_found {S : Nat → Nat → Bool} {o : Sym → Nat → List Tree} {s : Sym} {l : List Sym} {k j x i : Nat} {z : List Tree} (hj : j ≤ k) (hi : i = (pre S o s l k j).length + x) (hx : x < (blk S o s l k j).length) (hz : (enL S o (s :: l) k)[i]? = some z) :
    ∃ t y, z = t :: y ∧ (o s j)[x / (enL S o l (k - j)).length]? = some t ∧ (enL S o l (k - j))[x % (enL S o l (k - j)).length]? = some y := by
  obtain ⟨u, hu⟩ := pre_le (S := S) (o := o) (s := s) (l := l) (k := k) (show j + 1 ≤ k + 1 by omega)
  rw [enL_pre, hu, pre_next, List.append_assoc, hi, List.getElem?_append_right (by omega), Nat.add_sub_cancel_left, List.getElem?_append_left hx] at hz
  unfold blk at hx hz
  by_cases e : (hasK S s j && canK S l (k - j)) = true
  · rw [if_pos e] at hx hz
    rw [prodL_len] at hx
    obtain ⟨t, y, h1, h2, h3⟩ := prodL_found hx
    rw [h1] at hz
    cases hz
    exact ⟨t, y, rfl, h2, h3⟩
  · rw [if_neg e] at hx; simp at hx
section
variable {rules : List Rule} {S M T : Nat → Nat → Bool} {N n size : Nat} {cap many : Int}
theorem blk_val (h1 : 1 ≤ cap) (h2 : cap ≤ 1000000000) (hE : EndsM rules S M T N n size) {f : Nat} {s : Sym} {L : List Sym} {k j : Nat} (hF : Fine S (Gd M T N n size f) (s :: L) k) (hj : j ≤ k) (hlt : ((enL S (symE S (EN rules S size)) (s :: L) k).length : Int) < cap) :
    (if 0 < listV S cap (symV S (valK rules S M cap many size)) L (k - j) then symV S (valK rules S M cap many size) s j else 0) * listV S cap (symV S (valK rules S M cap many size)) L (k - j) = ((blk S (symE S (EN rules S size)) s L k j).length : Int) ∧
    (0 < (blk S (symE S (EN rules S size)) s L k j).length → hasK S s j = true ∧ canK S L (k - j) = true ∧ listV S cap (symV S (valK rules S M cap many size)) L (k - j) = ((enL S (symE S (EN rules S size)) L (k - j)).length : Int) ∧ 0 < (enL S (symE S (EN rules S size)) L (k - j)).length ∧
      symV S (valK rules S M cap many size) s j = ((symE S (EN rules S size) s j).length : Int) ∧ ((symE S (EN rules S size) s j).length : Int) < cap ∧ ((enL S (symE S (EN rules S size)) L (k - j)).length : Int) < cap) := by
  have hle : (blk S (symE S (EN rules S size)) s L k j).length ≤ (enL S (symE S (EN rules S size)) (s :: L) k).length := by
    have := pre_len_le (S := S) (o := symE S (EN rules S size)) (s := s) (l := L) (k := k) (j := j + 1) (by omega)
    rw [pre_len] at this; omega
  by_cases hh : hasK S s j = true
  · by_cases hc : canK S L (k - j) = true
    · have e1 := symV_EN (many := many) h1 h2 hE (f := f) (s := s) (k := j) (fun ht => hF.head hj hh hc ht)
      have e2 := listV_EN (many := many) h1 h2 hE (hF.tail hj hh)
      have hb : (blk S (symE S (EN rules S size)) s L k j).length = (symE S (EN rules S size) s j).length * (enL S (symE S (EN rules S size)) L (k - j)).length := by
        unfold blk
        rw [if_pos (by rw [hh, hc]; rfl), prodL_len]
      rw [e1, e2]
      obtain ⟨x, hx⟩ : ∃ x, x = (symE S (EN rules S size) s j).length := ⟨_, rfl⟩
      obtain ⟨y, hy⟩ : ∃ y, y = (enL S (symE S (EN rules S size)) L (k - j)).length := ⟨_, rfl⟩
      rw [← hx, ← hy] at hb
      rw [← hx, ← hy]
      rw [hb] at hle ⊢
      by_cases hy0 : y = 0
      · subst hy0
        rw [show min ((0 : Nat) : Int) cap = 0 by omega]
        exact ⟨by simp, fun h => by simp at h⟩
      · by_cases hx0 : x = 0
        · subst hx0
          rw [show min ((0 : Nat) : Int) cap = 0 by omega]
          exact ⟨by simp, fun h => by simp at h⟩
        · have m1 : x * 1 ≤ x * y := Nat.mul_le_mul_left _ (by omega)
          have m2 : 1 * y ≤ x * y := Nat.mul_le_mul_right _ (by omega)
          rw [Nat.mul_one] at m1
          rw [Nat.one_mul] at m2
          rw [Int.min_eq_left (show (x : Int) ≤ cap by omega), Int.min_eq_left (show (y : Int) ≤ cap by omega), if_pos (by omega)]
          exact ⟨by push_cast; rfl, fun _ => ⟨hh, hc, rfl, by omega, rfl, by omega, by omega⟩⟩
    · have hc' : canK S L (k - j) = false := by simpa using hc
      have hb : blk S (symE S (EN rules S size)) s L k j = [] := by
        unfold blk
        rw [if_neg (by rw [hc']; simp)]
      rw [listV_zero _ _ hc', hb]
      exact ⟨by simp, fun h => by simp at h⟩
  · have hh' : hasK S s j = false := by simpa using hh
    have e1 : symV S (valK rules S M cap many size) s j = 0 := by unfold symV; rw [if_pos hh']
    have hb : blk S (symE S (EN rules S size)) s L k j = [] := by
      unfold blk
      rw [if_neg (by rw [hh']; simp)]
    rw [e1, hb]
    refine ⟨?_, fun h => by simp at h⟩
    split <;> simp
end
end Cs
end Go.Proofs.Ytbnpemgmdnghgaa
namespace Go.Proofs.Ytbnpemgmdnghgaa
open Go.RowKit

theorem made_at (z : Value) (n j : Nat) (h : j < n) : (madeCells #[z] n)[j]? = some z := by
  simp [madeCells, h, Nat.mod_one]

/-- rows lo .. n of the table in block bt are there: row k in block rb k, of m + 1 numbers -/
structure Tab (B bt n m : Nat) (rb : Nat → Nat) (lo : Nat) (val : Nat → Nat → Int) (wr : World) : Prop where
  tb : ∃ cs, wr.heap[bt]? = some (.cells cs 33 (0, 0)) ∧ cs.size = n + 1 ∧ ∀ k, lo ≤ k → k ≤ n → cs[k]? = some (.slice (some ⟨rb k, 0, none⟩) (m + 1) (m + 1))
  row : ∀ k, lo ≤ k → k ≤ n → ∃ cs, wr.heap[rb k]? = some (.cells cs 3 (0, 0)) ∧ cs.size = m + 1 ∧ ∀ j, j ≤ m → cs[j]? = some (.int .i64 (val k j))
  inj : ∀ k k', lo ≤ k → k ≤ n → lo ≤ k' → k' ≤ n → rb k = rb k' → k = k'
  ne : ∀ k, lo ≤ k → k ≤ n → rb k ≠ bt ∧ B ≤ rb k
  bB : B ≤ bt
section
variable {B bt n m : Nat} {rb : Nat → Nat} {lo : Nat} {val : Nat → Nat → Int} {wr w' : World}
theorem Tab.keep (h : Tab B bt n m rb lo val wr) (hb : Below wr.heap.size wr w') : Tab B bt n m rb lo val w' := by
  obtain ⟨⟨cs, h1, h2, h3⟩, h4, h5, h6, h7⟩ := h
  refine ⟨⟨cs, bx_keep h1 hb, h2, h3⟩, fun k hk hn => ?_, h5, h6, h7⟩
  obtain ⟨rs, r1, r2⟩ := h4 k hk hn
  exact ⟨rs, bx_keep r1 hb, r2⟩
theorem Tab.grown {row : Option Nat} (h : Tab B bt n m rb lo val wr) (hg : wr.grownBy w' row) (hr : ∀ k, row = some k → k ≠ bt ∧ ∀ i, lo ≤ i → i ≤ n → rb i ≠ k) : Tab B bt n m rb lo val w' := by
  obtain ⟨⟨cs, h1, h2, h3⟩, h4, h5, h6, h7⟩ := h
  refine ⟨⟨cs, ?_, h2, h3⟩, fun k hk hn => ?_, h5, h6, h7⟩
  · rw [hg.block bt (Array.getElem?_eq_some_iff.1 h1).1 (fun e => (hr bt e.symm).1 rfl)]; exact h1
  · obtain ⟨rs, r1, r2⟩ := h4 k hk hn
    refine ⟨rs, ?_, r2⟩
    rw [hg.block (rb k) (Array.getElem?_eq_some_iff.1 r1).1 (fun e => (hr _ e.symm).2 k hk hn rfl)]; exact r1
theorem Tab.hdr (h : Tab B bt n m rb lo val wr) {k : Nat} (hk : lo ≤ k) (hn : k ≤ n) : wr.cell? ⟨bt, k, none⟩ = some (.slice (some ⟨rb k, 0, none⟩) (m + 1) (m + 1)) := by
  obtain ⟨cs, h1, h2, h3⟩ := h.tb
  simp [World.cell?, h1, h3 k hk hn]
theorem Tab.cell (h : Tab B bt n m rb lo val wr) {k j : Nat} (hk : lo ≤ k) (hn : k ≤ n) (hj : j ≤ m) : wr.cell? ⟨rb k, j, none⟩ = some (.int .i64 (val k j)) := by
  obtain ⟨cs, h1, h2, h3⟩ := h.row k hk hn
  simp [World.cell?, h1, h3 j hj]
theorem Tab.free (h : Tab B bt n m rb lo val wr) {k : Nat} (hk : lo ≤ k) (hn : k ≤ n) (j : Nat) : wr.frozen? ⟨rb k, j, none⟩ = false := by
  obtain ⟨cs, h1, h2, h3⟩ := h.row k hk hn
  simp [World.frozen?, h1]
theorem Tab.lt (h : Tab B bt n m rb lo val wr) : bt < wr.heap.size := by
  obtain ⟨cs, h1, _⟩ := h.tb
  exact (Array.getElem?_eq_some_iff.1 h1).1
theorem Tab.rlt (h : Tab B bt n m rb lo val wr) {k : Nat} (hk : lo ≤ k) (hn : k ≤ n) : rb k < wr.heap.size := by
  obtain ⟨cs, h1, _⟩ := h.row k hk hn
  exact (Array.getElem?_eq_some_iff.1 h1).1
/-- a number stored -/
theorem Tab.set (h : Tab B bt n m rb lo val wr) {i j : Nat} (hi : lo ≤ i) (hin : i ≤ n) (hj : j ≤ m) (x : Int) : Tab B bt n m rb lo (fun k l => if k = i ∧ l = j then x else val k l) (wr.setCell ⟨rb i, j, none⟩ (.int .i64 x)) := by
  obtain ⟨⟨cs, h1, h2, h3⟩, h4, h5, h6, h7⟩ := h
  refine ⟨⟨cs, bx_other h1 (fun e => (h6 i hi hin).1 e.symm) _ _, h2, h3⟩, fun k hk hn => ?_, h5, h6, h7⟩
  obtain ⟨rs, r1, r2, r3⟩ := h4 k hk hn
  by_cases e : k = i
  · subst e
    refine ⟨rs.setIfInBounds j (.int .i64 x), bx_set r1 _ _, by simpa using r2, fun l hl => ?_⟩
    rw [Array.getElem?_setIfInBounds]
    by_cases e2 : j = l
    · subst e2
      rw [if_pos rfl, if_pos (by omega)]; simp
    · rw [if_neg e2, r3 l hl]
      simp [show ¬ l = j from fun h => e2 h.symm]
  · refine ⟨rs, bx_other r1 (fun e2 => e (h5 k i hk hn hi hin e2)) _ _, r2, fun l hl => ?_⟩
    rw [r3 l hl]; simp [e]
/-- a new row: laid, and its header stored -/
theorem Tab.add {i : Nat} (h : Tab B bt n m rb (i + 1) val wr) (hi : i ≤ n) (hB : B ≤ wr.heap.size) :
    Tab B bt n m (fun k => if k = i then wr.heap.size else rb k) i (fun k l => if k = i then 0 else val k l) ((wr.alloc (.cells (madeCells #[.int .i64 0] (m + 1)) 3)).setCell ⟨bt, i, none⟩ (.slice (some ⟨wr.heap.size, 0, none⟩) (m + 1) (m + 1))) := by
  have hbt := h.lt
  have hrl := fun k hk hn => h.rlt (k := k) hk hn
  obtain ⟨⟨cs, h1, h2, h3⟩, h4, h5, h6, h7⟩ := h
  have hba : Below wr.heap.size wr (wr.alloc (.cells (madeCells #[.int .i64 0] (m + 1)) 3)) := (Below.refl _ _).alloc (Nat.le_refl _) _
  refine ⟨⟨cs.setIfInBounds i (.slice (some ⟨wr.heap.size, 0, none⟩) (m + 1) (m + 1)), bx_set (bx_keep h1 hba) _ _, by simpa using h2, fun k hk hn => ?_⟩, fun k hk hn => ?_, fun k k' hk hn hk' hn' e => ?_, fun k hk hn => ?_, h7⟩
  · rw [Array.getElem?_setIfInBounds]
    by_cases e : i = k
    · subst e
      rw [if_pos rfl, if_pos (by omega)]; simp
    · rw [if_neg e, h3 k (by omega) hn]
      simp [show ¬ k = i from fun h => e h.symm]
  · by_cases e : k = i
    · subst e
      refine ⟨madeCells #[.int .i64 0] (m + 1), ?_, size_madeCells _ _, fun j hj => ?_⟩
      · simp only [if_true]
        exact bx_other (bx_new _ _ _ rfl) (by omega) _ _
      · rw [made_at _ _ _ (by omega)]; simp
    · obtain ⟨rs, r1, r2, r3⟩ := h4 k (by omega) hn
      refine ⟨rs, ?_, r2, fun j hj => by rw [r3 j hj]; simp [e]⟩
      simp only [e, if_false]
      exact bx_other (bx_keep r1 hba) (h6 k (by omega) hn).1 _ _
  · by_cases e1 : k = i <;> by_cases e2 : k' = i <;> simp only [e1, e2, if_true, if_false] at e ⊢
    · have := hrl k' (by omega) hn'; omega
    · have := hrl k (by omega) hn; omega
    · exact h5 k k' (by omega) hn (by omega) hn' e
  · by_cases e : k = i
    · subst e; simp only [if_true]; omega
    · simp only [e, if_false]; exact h6 k (by omega) hn
theorem Tab.eq {val' : Nat → Nat → Int} (h : Tab B bt n m rb lo val wr) (he : ∀ k j, lo ≤ k → k ≤ n → j ≤ m → val k j = val' k j) : Tab B bt n m rb lo val' wr := by
  obtain ⟨h1, h4, h5, h6, h7⟩ := h
  refine ⟨h1, fun k hk hn => ?_, h5, h6, h7⟩
  obtain ⟨rs, r1, r2, r3⟩ := h4 k hk hn
  exact ⟨rs, r1, r2, fun j hj => by rw [r3 j hj, he k j hk hn hj]⟩
end
end Go.Proofs.Ytbnpemgmdnghgaa
namespace Go.Proofs.Ytbnpemgmdnghgaa
open Go.RowKit

mutual
theorem Rd.ones {S : Nat → Prop} {w : World} : ∀ (d : D) (cs : List Value), Rd S w d cs → ∀ u ∈ cs, u.oneCell' = true
  | .int n, cs, h => by simp [Rd] at h; subst h; simp [Value.oneCell']
  | .bool n, cs, h => by simp [Rd] at h; subst h; simp [Value.oneCell']
  | .str n, cs, h => by simp [Rd] at h; subst h; simp [Value.oneCell']
  | .sl ds, cs, h => by obtain ⟨a, cap, L, rfl, _⟩ := h; simp [Value.oneCell']
  | .agg ds, cs, h => RdAll.ones ds cs h
theorem RdAll.ones {S : Nat → Prop} {w : World} : ∀ (ds : List D) (cs : List Value), RdAll S w ds cs → ∀ u ∈ cs, u.oneCell' = true
  | [], cs, h => by simp [RdAll] at h; subst h; simp
  | d :: ds, cs, h => by
    obtain ⟨c1, c2, rfl, h1, h2⟩ := h
    intro u hu
    rcases List.mem_append.1 hu with hu | hu
    · exact Rd.ones d c1 h1 u hu
    · exact RdAll.ones ds c2 h2 u hu
end

/-- append of a slice of data to a row of the call's own -/
theorem wp_appD {P : Program} {ops : Array Oper} {rest : List Oper} {o : Oper} {a : Act} {Q : Exit → Act → World → Prop} {w : World} {t e : TypeId} {size bytes : Nat} (E : ElemT P t e size bytes)
    (hgd : o.guard = none) (s x : Operand) (ho : o.op = .call { callee := .builtin .append, args := #[s, x], argTypes := #[t, t] })
    {B : Nat} {v u : Value} {n : Nat} {xs : List Value} {S : Nat → Prop} {ds : List D} (hown : w.ownsRow B e size v n xs) (hs : a.eval s = v) (hsl : Rd S w (.sl ds) [u]) (hx : a.eval x = u) (hk : ∀ d ∈ ds, d.cells = size)
    (hb : (n + ds.length) * bytes ≤ 140737488355328) (hm : n + ds.length ≤ maxLen) (hB : B ≤ w.heap.size)
    (h : ∀ v' w' L, RdAll S w ds L → w'.ownsRow B e size v' (n + ds.length) (xs ++ L) → w.grownBy w' v.ownBlock → (v'.ownBlock = v.ownBlock ∨ ∃ k, v'.ownBlock = some k ∧ w.heap.size ≤ k) → wpList P ops Q rest (a.put o.dst v') w') :
    wpList P ops Q (o :: rest) a w := by
  obtain ⟨hu, ⟨i, z, hi, hz, hsz, hby, hzs⟩, hp⟩ := E
  obtain ⟨a', cap, L, e1, hl, hc, hn, hcell, hd⟩ := hsl
  simp at e1
  subst e1
  have hL : L.length = ds.length * size := by rw [RdAll.len _ _ hd, cellsAll_eq hk]
  cases a' with
  | none =>
    obtain rfl : cap = 0 := hn rfl
    have h0 : ds.length = 0 := by omega
    have hL0 : L = [] := List.eq_nil_of_length_eq_zero (by rw [hL, h0]; simp)
    subst hL0
    rw [h0] at hx
    refine wpList_append_own_none hgd s x t ho B e i size hu hi v n xs hs hown hx (h v w [] hd (by simpa [h0] using hown) ?_ (.inl rfl))
    exact ⟨rfl, rfl, rfl, Nat.le_refl _, fun _ _ _ => rfl⟩
  | some ad =>
    refine wpList_append_own_at w hgd s x t ho B e i z size bytes hu hi hz hsz hby hzs hp v n xs hs hown ad ds.length cap L hx hL ?_ (RdAll.ones _ _ hd) hm hb hB fun v' w' h2 h3 _ h5 => h v' w' L hd h2 h3 (h5.imp id fun e => ⟨_, e, Nat.le_refl _⟩)
    intro j y hj
    obtain ⟨hj1, hj2⟩ := List.getElem?_eq_some_iff.1 hj
    obtain ⟨y', hy, _, h2⟩ := hcell j hj1
    cases hy
    rw [h2, hj2]

/-- append of what lies in one block, at a step of a region that draws its order -/
theorem step_appB {P : Program} {ops : Array Oper} {o : Oper} {a : Act} {K : Act → World → Prop} {Q : Exit → Act → World → Prop} {E' : Prop} {w0 : World} {t e : TypeId} {size bytes : Nat} (E : ElemT P t e size bytes)
    (hgd : o.guard = none) (s x : Operand) (ho : o.op = .call { callee := .builtin .append, args := #[s, x], argTypes := #[t, t] })
    {B : Nat} {v : Value} {n : Nat} {xs : List Value} {news : Array Value} (hown : w0.ownsRow B e size v n xs) (hs : a.eval s = v) {g0 : Nat} (hx : a.eval x = .slice (some ⟨g0, 0, none⟩) 1 1) (hg0 : w0.heap[g0]? = some (.cells news e (0, 0)))
    (hn : news.size = size) (h1 : news.toList.all Value.oneCell' = true) (hb : (n + 1) * bytes ≤ 140737488355328) (hm : n + 1 ≤ maxLen) (hB : B ≤ w0.heap.size)
    (h : ∀ g cap w', w'.ownsRow B e size (.slice (some ⟨g, 0, none⟩) (n + 1) cap) (n + 1) (xs ++ news.toList) → w0.grownBy w' v.ownBlock → (v.ownBlock = some g ∨ g = w0.heap.size) → g < w'.heap.size → K (a.put o.dst (.slice (some ⟨g, 0, none⟩) (n + 1) cap)) w') :
    if Region.wanted o (yielded ops a.tmps) = true then Oper.wp P o a w0 K Q else E' := by
  obtain ⟨hu, ⟨i, z, hi, hz, hsz, hby, hzs⟩, hp⟩ := E
  exact step_append_lies w0 hgd s x t ho B e i z size bytes hu hi hz hsz hby hzs hp v n xs hs hown ⟨g0, 0, none⟩ 1 1 news.toList hx (by simp [hn]) (World.news_of_block hg0) (List.all_eq_true.1 h1) (by omega) hm hb hB w0.heap.size rfl h

theorem at_lies {v : Value} {g H n cap : Nat} (h : v.ownBlock = some g ∨ g = H) : (Value.slice (some ⟨g, 0, none⟩) n cap).ownBlock = v.ownBlock ∨ ∃ k, (Value.slice (some ⟨g, 0, none⟩) n cap).ownBlock = some k ∧ H ≤ k := by
  rcases h with h | h
  · exact .inl h.symm
  · exact .inr ⟨g, rfl, by omega⟩

/-- a row of data of the call's own, in blocks of S, and beside the row's own block -/
structure RowD (S : Nat → Prop) (B : Nat) (e : TypeId) (size : Nat) (ds : List D) (v : Value) (wr : World) : Prop where
  own : ∃ xs, wr.ownsRow B e size v ds.length xs ∧ RdAll (fun k => S k ∧ v.ownBlock ≠ some k) wr ds xs
  le : B ≤ wr.heap.size
theorem RowD.keep {S : Nat → Prop} {B : Nat} {e : TypeId} {size : Nat} {ds : List D} {v : Value} {wr w' : World} (h : RowD S B e size ds v wr) (hb : Below wr.heap.size wr w') : RowD S B e size ds v w' := by
  obtain ⟨⟨xs, h1, h2⟩, h3⟩ := h
  exact ⟨⟨xs, own_keep h1 hb, h2.below hb⟩, Nat.le_trans h3 hb.size⟩
theorem RowD.form {S : Nat → Prop} {B : Nat} {e : TypeId} {size : Nat} {ds : List D} {v : Value} {wr : World} (h : RowD S B e size ds v wr) : ∃ a cap, v = .slice a ds.length cap ∧ ds.length ≤ cap ∧ cap ≤ maxLen ∧ ∀ k, v.ownBlock = some k → B ≤ k ∧ k < wr.heap.size := by
  obtain ⟨⟨xs, h1, h2⟩, h3⟩ := h
  obtain ⟨a, cap, rfl, e1, e2⟩ := own_len h1
  exact ⟨a, cap, rfl, e1, e2, h1.lt⟩
theorem RowD.rd {S : Nat → Prop} {B : Nat} {e : TypeId} {size : Nat} {ds : List D} {v : Value} {wr : World} (h : RowD S B e size ds v wr) : Rd (fun k => S k ∨ B ≤ k) wr (.sl ds) [v] := by
  obtain ⟨⟨xs, h1, h2⟩, h3⟩ := h
  exact rd_of_own h1 (h2.mono fun k hk _ => .inl hk.1) rfl (fun k e => .inr (h1.lt k e).1)
theorem RowD.nil (S : Nat → Prop) (B : Nat) (e : TypeId) (size : Nat) (w : World) (h : B ≤ w.heap.size) : RowD S B e size [] (.slice none 0 0) w := ⟨⟨[], World.ownsRow_nil _ _ _ _, by simp [RdAll]⟩, h⟩
/-- behind an append: W0: before it -/
theorem RowD.step {S T : Nat → Prop} {B : Nat} {e : TypeId} {size : Nat} {ds es : List D} {v v' : Value} {W0 W1 : World} {xs news : List Value} {n : Nat} (h1 : W0.ownsRow B e size v n xs) (h2 : RdAll (fun k => S k ∧ v.ownBlock ≠ some k) W0 ds xs) (hn : n = ds.length)
    (hp : RdAll T W0 es news) (hT : ∀ k, T k → k < W0.heap.size → S k ∧ v.ownBlock ≠ some k) (hB : B ≤ W0.heap.size)
    (ho : W1.ownsRow B e size v' (n + es.length) (xs ++ news)) (hg : W0.grownBy W1 v.ownBlock) (hat : v'.ownBlock = v.ownBlock ∨ ∃ k, v'.ownBlock = some k ∧ W0.heap.size ≤ k) : RowD S B e size (ds ++ es) v' W1 := by
  subst hn
  exact ⟨⟨xs ++ news, by rw [List.length_append]; exact ho, own_step h2 (hp.mono hT) hg hat⟩, Nat.le_trans hB hg.size⟩
end Go.Proofs.Ytbnpemgmdnghgaa
namespace Go.Proofs.Ytbnpemgmdnghgaa
open Go.RowKit
namespace Cs

/-- a table of N rows of M one-cell values; all of it in blocks from lo on, below hi -/
structure Tb (te : TypeId) (lo hi bt N M : Nat) (rb : Nat → Nat) (val : Nat → Nat → Value) (W : World) : Prop where
  hdr : ∃ cs T, W.heap[bt]? = some (.cells cs T (0, 0)) ∧ ∀ a, a < N → cs[a]? = some (.slice (some ⟨rb a, 0, none⟩) M M)
  row : ∀ a, a < N → ∃ cs, W.heap[rb a]? = some (.cells cs te (0, 0)) ∧ cs.size = M ∧ ∀ k, k < M → cs[k]? = some (val a k)
  inj : ∀ a b, a < N → b < N → rb a = rb b → a = b
  ne : ∀ a, a < N → rb a ≠ bt ∧ lo ≤ rb a ∧ rb a < hi
  pl : lo ≤ bt ∧ bt < hi
section
variable {te : TypeId} {lo hi bt N M : Nat} {rb : Nat → Nat} {val : Nat → Nat → Value} {W W' : World}
theorem Tb.other (h : Tb te lo hi bt N M rb val W) (hs : ∀ k, lo ≤ k → k < hi → W'.heap[k]? = W.heap[k]?) : Tb te lo hi bt N M rb val W' := by
  obtain ⟨⟨cs, T, h1, h2⟩, h3, h4, h5, h6⟩ := h
  refine ⟨⟨cs, T, by rw [hs bt h6.1 h6.2]; exact h1, h2⟩, fun a ha => ?_, h4, h5, h6⟩
  obtain ⟨rs, r1, r2⟩ := h3 a ha
  exact ⟨rs, by rw [hs _ (h5 a ha).2.1 (h5 a ha).2.2]; exact r1, r2⟩
theorem Tb.keep (h : Tb te lo hi bt N M rb val W) (hh : hi ≤ W.heap.size) (hb : Below W.heap.size W W') : Tb te lo hi bt N M rb val W' := h.other fun k _ h2 => hb.block k (by omega)
theorem Tb.head (h : Tb te lo hi bt N M rb val W) {a : Nat} (ha : a < N) : W.cell? ⟨bt, a, none⟩ = some (.slice (some ⟨rb a, 0, none⟩) M M) := by
  obtain ⟨cs, T, h1, h2⟩ := h.hdr
  simp [World.cell?, h1, h2 a ha]
theorem Tb.cell (h : Tb te lo hi bt N M rb val W) {a k : Nat} (ha : a < N) (hk : k < M) : W.cell? ⟨rb a, k, none⟩ = some (val a k) := by
  obtain ⟨cs, h1, h2, h3⟩ := h.row a ha
  simp [World.cell?, h1, h3 k hk]
theorem Tb.free (h : Tb te lo hi bt N M rb val W) {a : Nat} (ha : a < N) (k : Nat) : W.frozen? ⟨rb a, k, none⟩ = false := by
  obtain ⟨cs, h1, h2, h3⟩ := h.row a ha
  simp [World.frozen?, h1]
theorem Tb.set (h : Tb te lo hi bt N M rb val W) {a k : Nat} (ha : a < N) (hk : k < M) (x : Value) : Tb te lo hi bt N M rb (fun b l => if b = a ∧ l = k then x else val b l) (W.setCell ⟨rb a, k, none⟩ x) := by
  obtain ⟨⟨cs, T, h1, h2⟩, h3, h4, h5, h6⟩ := h
  refine ⟨⟨cs, T, bx_other h1 (fun e => (h5 a ha).1 e.symm) _ _, h2⟩, fun b hb => ?_, h4, h5, h6⟩
  obtain ⟨rs, r1, r2, r3⟩ := h3 b hb
  by_cases e : b = a
  · subst e
    refine ⟨rs.setIfInBounds k x, bx_set r1 _ _, by simpa using r2, fun l hl => ?_⟩
    rw [Array.getElem?_setIfInBounds]
    by_cases e2 : k = l
    · subst e2
      rw [if_pos rfl, if_pos (by omega)]; simp
    · rw [if_neg e2, r3 l hl]
      simp [show ¬ l = k from fun h => e2 h.symm]
  · refine ⟨rs, bx_other r1 (fun e2 => e (h4 b a hb ha e2)) _ _, r2, fun l hl => ?_⟩
    rw [r3 l hl]; simp [e]
theorem Tb.eq {val' : Nat → Nat → Value} (h : Tb te lo hi bt N M rb val W) (he : ∀ a k, a < N → k < M → val a k = val' a k) : Tb te lo hi bt N M rb val' W := by
  obtain ⟨h1, h3, h4, h5, h6⟩ := h
  refine ⟨h1, fun a ha => ?_, h4, h5, h6⟩
  obtain ⟨rs, r1, r2, r3⟩ := h3 a ha
  exact ⟨rs, r1, r2, fun k hk => by rw [r3 k hk, he a k ha hk]⟩
theorem Tb.wide {lo' hi' : Nat} (h : Tb te lo hi bt N M rb val W) (h1 : lo' ≤ lo) (h2 : hi ≤ hi') : Tb te lo' hi' bt N M rb val W :=
  ⟨h.hdr, h.row, h.inj, fun a ha => ⟨(h.ne a ha).1, Nat.le_trans h1 (h.ne a ha).2.1, Nat.lt_of_lt_of_le (h.ne a ha).2.2 h2⟩, Nat.le_trans h1 h.pl.1, Nat.lt_of_lt_of_le h.pl.2 h2⟩
end
/-- while it is made: the rows so far, their headers in a row of the call's own -/
structure TbI (te tr : TypeId) (B M : Nat) (x : Value) (L : List Nat) (v : Value) (W : World) : Prop where
  own : W.ownsRow B tr 1 v L.length (L.map fun b => .slice (some ⟨b, 0, none⟩) M M)
  rows : ∀ b ∈ L, B ≤ b ∧ b < W.heap.size ∧ v.ownBlock ≠ some b ∧ ∃ cs, W.heap[b]? = some (.cells cs te (0, 0)) ∧ cs.size = M ∧ ∀ k, k < M → cs[k]? = some x
  nd : L.Nodup
  le : B ≤ W.heap.size
section
variable {te tr : TypeId} {B M : Nat} {x : Value} {L : List Nat} {v : Value} {W W' : World}
theorem TbI.nil (te tr : TypeId) (B M : Nat) (x : Value) (W : World) (h : B ≤ W.heap.size) : TbI te tr B M x [] (.slice none 0 0) W := ⟨World.ownsRow_nil _ _ _ _, (fun b hb => by cases hb), List.nodup_nil, h⟩
theorem TbI.keep (h : TbI te tr B M x L v W) (hb : Below W.heap.size W W') : TbI te tr B M x L v W' := by
  obtain ⟨h1, h2, h3, h4⟩ := h
  refine ⟨own_keep h1 hb, fun b hb' => ?_, h3, Nat.le_trans h4 hb.size⟩
  obtain ⟨k1, k2, k3, cs, k4, k5⟩ := h2 b hb'
  exact ⟨k1, Nat.lt_of_lt_of_le k2 hb.size, k3, cs, bx_keep k4 hb, k5⟩
/-- a row is added: it was laid in block g, filled -/
theorem TbI.add {g : Nat} {v' : Value} {cs : Array Value} (h : TbI te tr B M x L v W) (hg : W.heap[g]? = some (.cells cs te (0, 0))) (hc : cs.size = M) (hx : ∀ k, k < M → cs[k]? = some x) (hgB : B ≤ g) (hgv : v.ownBlock ≠ some g) (hgL : g ∉ L)
    (ho : W'.ownsRow B tr 1 v' (L.length + 1) ((L.map fun b => .slice (some ⟨b, 0, none⟩) M M) ++ [.slice (some ⟨g, 0, none⟩) M M])) (hgr : W.grownBy W' v.ownBlock) (hat : v'.ownBlock = v.ownBlock ∨ ∃ k, v'.ownBlock = some k ∧ W.heap.size ≤ k) : TbI te tr B M x (L ++ [g]) v' W' := by
  obtain ⟨h1, h2, h3, h4⟩ := h
  have hv' : ∀ b, b < W.heap.size → v.ownBlock ≠ some b → v'.ownBlock ≠ some b := by
    intro b hb hv
    rcases hat with e | ⟨j, e, hj⟩
    · rw [e]; exact hv
    · rw [e]; intro e; cases e; omega
  have hgl := (Array.getElem?_eq_some_iff.1 hg).1
  refine ⟨by rw [List.length_append, List.map_append]; exact ho, fun b hb => ?_, ?_, Nat.le_trans h4 hgr.size⟩
  · rcases List.mem_append.1 hb with hb | hb
    · obtain ⟨k1, k2, k3, cs', k4, k5⟩ := h2 b hb
      exact ⟨k1, Nat.lt_of_lt_of_le k2 hgr.size, hv' b k2 k3, cs', (hgr.block b k2 (fun e => k3 e.symm)).trans k4, k5⟩
    · rw [List.mem_singleton] at hb
      subst hb
      exact ⟨hgB, Nat.lt_of_lt_of_le hgl hgr.size, hv' b hgl hgv, cs, (hgr.block b hgl (fun e => hgv e.symm)).trans hg, hc, hx⟩
  · rw [List.nodup_append]
    exact ⟨h3, by simp, fun a ha b hb => by rw [List.mem_singleton] at hb; subst hb; exact fun e => hgL (e ▸ ha)⟩
theorem TbI.fin (h : TbI te tr B M x L v W) (h0 : 0 < L.length) : ∃ bt cap, v = .slice (some ⟨bt, 0, none⟩) L.length cap ∧ ∃ rb, Tb te B W.heap.size bt L.length M rb (fun _ _ => x) W := by
  obtain ⟨h1, h2, h3, h4⟩ := h
  obtain ⟨g, cap, rfl, hg1, hg2⟩ := h1.form h0
  refine ⟨g, cap, rfl, fun a => L.getD a 0, ?_⟩
  have hget : ∀ a, a < L.length → L.getD a 0 ∈ L ∧ L[a]? = some (L.getD a 0) := fun a ha => by
    rw [List.getD_eq_getElem?_getD, List.getElem?_eq_getElem ha]
    exact ⟨List.getElem_mem ha, rfl⟩
  refine ⟨?_, fun a ha => ?_, fun a b ha hb e => ?_, fun a ha => ?_, hg1, hg2⟩
  · rcases h1.2 with ⟨h', _⟩ | ⟨g', cap', cur, h', _, hh, _, _, _, htake⟩
    · cases h'
    · cases h'
      refine ⟨cur, tr, hh, fun a ha => ?_⟩
      have e : (L.map fun b => Value.slice (some ⟨b, 0, none⟩) M M)[a]? = some (.slice (some ⟨L.getD a 0, 0, none⟩) M M) := by
        rw [List.getElem?_map, (hget a ha).2]; rfl
      rw [← htake, List.getElem?_take, if_pos (by omega)] at e
      simpa using e
  · obtain ⟨_, _, _, cs, k4, k5, k6⟩ := h2 _ (hget a ha).1
    exact ⟨cs, k4, k5, k6⟩
  · exact (List.getElem?_inj ha h3).1 (by rw [(hget a ha).2, (hget b hb).2, e])
  · obtain ⟨k1, k2, k3, _⟩ := h2 _ (hget a ha).1
    exact ⟨fun e => k3 (by rw [e]; rfl), k1, k2⟩
end
def TablePost (te : TypeId) (N M : Nat) (x : Value) (w : World) (e : Ending) (w' : World) : Prop :=
  ∃ bt cap rb, e = .returned (.slice (some ⟨bt, 0, none⟩) N cap) ∧ Tb te w.heap.size w'.heap.size bt N M rb (fun _ _ => x) w' ∧ Below w.heap.size w w'

theorem elB : ElemT Try.prog 73 51 1 24 := ElemT.mk' (z := .slice none 0 0) (by kernel_rfl) (by kernel_rfl) rfl (by decide)
set_option maxHeartbeats 4000000 in
set_option maxRecDepth 100000 in
theorem tableB (g : Gram) (vr : Value) (N n : Nat) (hN : g.nons = (N : Int)) (h1 : 1 ≤ N) (h2 : N ≤ 1000) (h3 : n ≤ 1000) (xx : Bool) (w : World) :
    Calls Try.prog 52 #[.agg #[.int .i64 g.terms, .int .i64 g.nons, .int .i64 g.start, vr], .int .i64 (n : Int), .bool xx] w (TablePost 4 N (n + 1) (.bool xx) w) := by
  obtain ⟨w0, HW0⟩ := nameIt (w.alloc (.cells #[.int .i64 g.terms, .int .i64 g.nons, .int .i64 g.start, vr] 24))
  have hb0 : Below w.heap.size w w0 := by rw [← HW0.out]; exact (Below.refl _ _).alloc (Nat.le_refl _) _
  have HB0 := Lib.hid hb0
  have X0 : Hid (w0.heap[w.heap.size]? = some (.cells #[.int .i64 g.terms, .int .i64 g.nons, .int .i64 g.start, vr] 24 (0, 0))) := by rw [← HW0.out]; exact bx_new _ _ _ rfl
  obtain ⟨gt, HGT⟩ := nameIt g.terms
  obtain ⟨gs, HGS⟩ := nameIt g.start
  rw [HGT.out, HGS.out, hN] at HW0 X0
  rw [HGT.out, HGS.out, hN]
  obtain ⟨m, HM⟩ := nameIt (n + 1)
  have hm1 : 1 ≤ m := by have := HM.out; omega
  have hm2 : m ≤ 1001 := by have := HM.out; omega
  have HMZ : Hid (((n : Int) + 1) = (m : Int)) := by show _ = _; rw [← HM.out]; omega
  have hwr : IntKind.i64.wrap ((n : Int) + 1) = (m : Int) := by rw [IntWalk.i64_in _ (by omega), HMZ.out]
  have hmk : ∀ W : World, (Instr.makeSlice 51 (.int .i64 (m : Int)) (.int .i64 (m : Int))).run Try.prog W = .ok (.slice (some ⟨W.heap.size, 0, none⟩) m m) (W.alloc (.cells (madeCells #[.bool false] m) 4)) := fun W => by
    have := run_make_row' (P := Try.prog) 51 4 (.bool false) 1 Try.underlying51 (by kernel_rfl) rfl .i64 .i64 m (by omega) (by omega) W
    simpa using this
  have HMK := Lib.hid hmk
  obtain ⟨PST, HP⟩ := nameIt (TablePost 4 N m (.bool xx) w)
  have HFI : Hid (∀ (L : List Nat) v W, L.length = N → TbI 4 51 w0.heap.size m (.bool xx) L v W → Below w0.heap.size w0 W → PST (.returned v) W) := by
    intro L v W hL h hb
    obtain ⟨bt, cap, rfl, rb, ht⟩ := h.fin (by omega)
    rw [← HP.out]
    rw [hL] at ht ⊢
    exact ⟨bt, cap, rb, rfl, ht.wide HB0.out.size (Nat.le_refl _), HB0.out.trans (hb.mono HB0.out.size)⟩
  rw [HM.out, HP.out]
  have HI0 := Lib.hid (TbI.nil 4 51 w0.heap.size m (.bool xx) w0 (Nat.le_refl _))
  obtain ⟨x0, x1, x2, x3⟩ := bx_cells4 X0.out
  clear hb0 hN hmk
  go_enter Try.func52, Try.ntmps52
  go_upto_region 1 with fail
  rw [HW0.out]
  go_wp2_with fail
  clear x0 x1 x2 x3
  go_loopg [7, 12] N (fun gg v7 v12 wr => ∃ (i : Nat) (L : List Nat), i ≤ N ∧ N - i ≤ gg ∧ Hid (L.length = i) ∧ v12 = .int .i64 i ∧ Hid (TbI 4 51 w0.heap.size m (.bool xx) L v7 wr) ∧ Hid (Below w0.heap.size w0 wr))
  case atStart => exact ⟨0, [], by omega, by omega, rfl, rfl, HI0, Below.refl _ _⟩
  case round =>
    clear HI0
    obtain ⟨i, L, hi, hg, HLL, rfl, HI, HB⟩ := hrel
    obtain ⟨w1, rfl⟩ : ∃ ww : World, ww = wr := ⟨_, rfl⟩
    obtain ⟨oa, oc, rfl, hoc, hoc2⟩ := own_len HI.out.own
    have HOWN := Lib.hid HI.out.own
    have HLT : Hid (∀ k, (Value.slice oa L.length oc).ownBlock = some k → k < w1.heap.size) := fun k e => (HI.out.own.lt k e).2
    rw [HLL.out] at HOWN HLT
    rw [HLL.out]
    by_cases hlt : i < N
    · have hlt' : (i : Int) < (N : Int) := by omega
      obtain ⟨w2, HW2⟩ := nameIt (w1.alloc (.cells (madeCells #[.bool false] m) 4))
      have HB12 : Hid (Below w1.heap.size w1 w2) := by rw [← HW2.out]; exact (Below.refl _ _).alloc (Nat.le_refl _) _
      have HX0 : Hid (∃ cs : Array Value, w2.heap[w1.heap.size]? = some (.cells cs 4 (0, 0)) ∧ cs.size = m ∧ ∀ k, k < m → k < 0 → cs[k]? = some (.bool xx)) :=
        ⟨_, by rw [← HW2.out]; exact bx_new _ _ _ rfl, size_madeCells _ _, fun k _ h => absurd h (Nat.not_lt_zero _)⟩
      have hmk := HMK.out
      obtain ⟨gb, HGB⟩ := nameIt w1.heap.size
      rw [HGB.out] at HX0
      go_upto_region 5 with fail
      rw [HW2.out, HGB.out]
      clear hmk
      go_wp2_with fail
      go_loopg [19] m (fun gg v19 wr => ∃ k : Nat, k ≤ m ∧ m - k ≤ gg ∧ v19 = .int .i64 k ∧ Hid (Below w1.heap.size w1 wr) ∧ Hid (∃ cs : Array Value, wr.heap[gb]? = some (.cells cs 4 (0, 0)) ∧ cs.size = m ∧ ∀ l, l < m → l < k → cs[l]? = some (.bool xx)))
      case atStart => exact ⟨0, by omega, by omega, rfl, HB12, HX0⟩
      case round =>
        clear HX0
        obtain ⟨k, hk, hg2, rfl, HBk, HXk⟩ := hrel
        obtain ⟨w3, rfl⟩ : ∃ ww : World, ww = wr := ⟨_, rfl⟩
        obtain ⟨cs, hcs, hsz, hval⟩ := HXk.out
        by_cases hkm : k < m
        · have hkm' : (k : Int) < (m : Int) := by omega
          have hk0 : (0 : Int) ≤ (k : Int) := by omega
          have hc : w3.cell? ⟨gb, k, none⟩ = some (cs[k]'(by omega)) := by simp [World.cell?, hcs]
          have hf : w3.frozen? ⟨gb, k, none⟩ = false := by simp [World.frozen?, hcs]
          obtain ⟨cv, HCV⟩ := nameIt (cs[k]'(by omega))
          rw [HCV.out] at hc
          have HX9 : Hid (∃ cs' : Array Value, (w3.setCell ⟨gb, k, none⟩ (.bool xx)).heap[gb]? = some (.cells cs' 4 (0, 0)) ∧ cs'.size = m ∧ ∀ l, l < m → l < k + 1 → cs'[l]? = some (.bool xx)) := by
            refine ⟨cs.setIfInBounds k (.bool xx), bx_set hcs _ _, by simpa using hsz, fun l hl hlk => ?_⟩
            rw [Array.getElem?_setIfInBounds]
            by_cases e : k = l
            · rw [if_pos e, if_pos (by omega)]
            · rw [if_neg e]; exact hval l hl (by omega)
          have HB9 : Hid (Below w1.heap.size w1 (w3.setCell ⟨gb, k, none⟩ (.bool xx))) := HBk.out.setCell (p := ⟨gb, k, none⟩) (by rw [← HGB.out]; exact Nat.le_refl _) _
          clear hcs hval
          go_wp2_with fail
          go_roundg (m - (k + 1))
          case measure => omega
          case rel => exact ⟨k + 1, by omega, by omega, by go_num, HB9, HX9⟩
        · have hkm' : ¬ (k : Int) < (m : Int) := by omega
          have hkk : k = m := by omega
          have HI3 := Lib.hid (HI.out.keep HBk.out)
          have HO3 := Lib.hid (own_keep HOWN.out HBk.out)
          have hgB : w0.heap.size ≤ gb := by rw [← HGB.out]; exact HB.out.size
          have HGV : Hid ((Value.slice oa i oc).ownBlock ≠ some gb) := fun e => by have := HLT.out gb e; rw [HGB.out] at this; omega
          have HGL : Hid (gb ∉ L) := fun h => by have := (HI.out.rows gb h).2.1; rw [HGB.out] at this; omega
          have HCS : Hid (∃ cs : Array Value, w3.heap[gb]? = some (.cells cs 4 (0, 0)) ∧ cs.size = m ∧ ∀ l, l < m → cs[l]? = some (.bool xx)) := ⟨cs, hcs, hsz, fun l hl => hval l hl (by omega)⟩
          have HB03 : Hid (Below w0.heap.size w0 w3) := HB.out.trans (HBk.out.mono HB.out.size)
          have hiN : i < 1000 := by omega
          clear hcs hsz hval hkk
          go_wp2_with (at_builtin; refine wp_app1at elB rfl _ _ rfl HO3.out rfl rfl rfl rfl rfl (by omega) (by unfold maxLen; omega) HI3.out.le ?_)
          intro v9 w9 ho9 hg9 hat9
          have HI9 : Hid (TbI 4 51 w0.heap.size m (.bool xx) (L ++ [gb]) v9 w9) := by
            obtain ⟨cs', q1, q2, q3⟩ := HCS.out
            have hh := HI3.out
            rw [HLL.out] at hh
            exact hh.add q1 q2 q3 hgB HGV.out HGL.out (by rw [HLL.out]; exact ho9) hg9 hat9
          have HB9 : Hid (Below w0.heap.size w0 w9) := HB03.out.grown hg9 HB03.out.size (fun k e => (HO3.out.lt k e).1)
          clear ho9 hg9 hat9
          go_wp2_with fail
          go_roundg (N - (i + 1))
          case measure => omega
          case rel => exact ⟨i + 1, L ++ [gb], by omega, by omega, by show _ = _; rw [List.length_append, HLL.out]; rfl, by go_num, HI9, HB9⟩
    · have hlt' : ¬ (i : Int) < (N : Int) := by omega
      have hiN : i = N := by omega
      have hfin := HFI.out L _ w1 (HLL.out.trans hiN) HI.out HB.out
      rw [HLL.out] at hfin
      have HF := Lib.hid hfin
      clear hiN hfin
      go_wp2_with fail
      first | exact HF.out | (go_ret; exact HF.out)

theorem elI : ElemT Try.prog 29 33 1 24 := ElemT.mk' (z := .slice none 0 0) (by kernel_rfl) (by kernel_rfl) rfl (by decide)
set_option maxHeartbeats 4000000 in
set_option maxRecDepth 100000 in
theorem tableI (g : Gram) (vr : Value) (N n : Nat) (hN : g.nons = (N : Int)) (h1 : 1 ≤ N) (h2 : N ≤ 1000) (h3 : n ≤ 1000) (xx : Int) (w : World) :
    Calls Try.prog 53 #[.agg #[.int .i64 g.terms, .int .i64 g.nons, .int .i64 g.start, vr], .int .i64 (n : Int), .int .i64 xx] w (TablePost 3 N (n + 1) (.int .i64 xx) w) := by
  obtain ⟨w0, HW0⟩ := nameIt (w.alloc (.cells #[.int .i64 g.terms, .int .i64 g.nons, .int .i64 g.start, vr] 24))
  have hb0 : Below w.heap.size w w0 := by rw [← HW0.out]; exact (Below.refl _ _).alloc (Nat.le_refl _) _
  have HB0 := Lib.hid hb0
  have X0 : Hid (w0.heap[w.heap.size]? = some (.cells #[.int .i64 g.terms, .int .i64 g.nons, .int .i64 g.start, vr] 24 (0, 0))) := by rw [← HW0.out]; exact bx_new _ _ _ rfl
  obtain ⟨gt, HGT⟩ := nameIt g.terms
  obtain ⟨gs, HGS⟩ := nameIt g.start
  rw [HGT.out, HGS.out, hN] at HW0 X0
  rw [HGT.out, HGS.out, hN]
  obtain ⟨m, HM⟩ := nameIt (n + 1)
  have hm1 : 1 ≤ m := by have := HM.out; omega
  have hm2 : m ≤ 1001 := by have := HM.out; omega
  have HMZ : Hid (((n : Int) + 1) = (m : Int)) := by show _ = _; rw [← HM.out]; omega
  have hwr : IntKind.i64.wrap ((n : Int) + 1) = (m : Int) := by rw [IntWalk.i64_in _ (by omega), HMZ.out]
  have hmk : ∀ W : World, (Instr.makeSlice 33 (.int .i64 (m : Int)) (.int .i64 (m : Int))).run Try.prog W = .ok (.slice (some ⟨W.heap.size, 0, none⟩) m m) (W.alloc (.cells (madeCells #[.int .i64 0] m) 3)) := fun W => by
    have := run_make_row' (P := Try.prog) 33 3 (.int .i64 0) 8 Try.underlying33 (by kernel_rfl) rfl .i64 .i64 m (by omega) (by omega) W
    simpa using this
  have HMK := Lib.hid hmk
  obtain ⟨PST, HP⟩ := nameIt (TablePost 3 N m (.int .i64 xx) w)
  have HFI : Hid (∀ (L : List Nat) v W, L.length = N → TbI 3 33 w0.heap.size m (.int .i64 xx) L v W → Below w0.heap.size w0 W → PST (.returned v) W) := by
    intro L v W hL h hb
    obtain ⟨bt, cap, rfl, rb, ht⟩ := h.fin (by omega)
    rw [← HP.out]
    rw [hL] at ht ⊢
    exact ⟨bt, cap, rb, rfl, ht.wide HB0.out.size (Nat.le_refl _), HB0.out.trans (hb.mono HB0.out.size)⟩
  rw [HM.out, HP.out]
  have HI0 := Lib.hid (TbI.nil 3 33 w0.heap.size m (.int .i64 xx) w0 (Nat.le_refl _))
  obtain ⟨x0, x1, x2, x3⟩ := bx_cells4 X0.out
  clear hb0 hN hmk
  go_enter Try.func53, Try.ntmps53
  go_upto_region 1 with fail
  rw [HW0.out]
  go_wp2_with fail
  clear x0 x1 x2 x3
  go_loopg [7, 12] N (fun gg v7 v12 wr => ∃ (i : Nat) (L : List Nat), i ≤ N ∧ N - i ≤ gg ∧ Hid (L.length = i) ∧ v12 = .int .i64 i ∧ Hid (TbI 3 33 w0.heap.size m (.int .i64 xx) L v7 wr) ∧ Hid (Below w0.heap.size w0 wr))
  case atStart => exact ⟨0, [], by omega, by omega, rfl, rfl, HI0, Below.refl _ _⟩
  case round =>
    clear HI0
    obtain ⟨i, L, hi, hg, HLL, rfl, HI, HB⟩ := hrel
    obtain ⟨w1, rfl⟩ : ∃ ww : World, ww = wr := ⟨_, rfl⟩
    obtain ⟨oa, oc, rfl, hoc, hoc2⟩ := own_len HI.out.own
    have HOWN := Lib.hid HI.out.own
    have HLT : Hid (∀ k, (Value.slice oa L.length oc).ownBlock = some k → k < w1.heap.size) := fun k e => (HI.out.own.lt k e).2
    rw [HLL.out] at HOWN HLT
    rw [HLL.out]
    by_cases hlt : i < N
    · have hlt' : (i : Int) < (N : Int) := by omega
      obtain ⟨w2, HW2⟩ := nameIt (w1.alloc (.cells (madeCells #[.int .i64 0] m) 3))
      have HB12 : Hid (Below w1.heap.size w1 w2) := by rw [← HW2.out]; exact (Below.refl _ _).alloc (Nat.le_refl _) _
      have HX0 : Hid (∃ cs : Array Value, w2.heap[w1.heap.size]? = some (.cells cs 3 (0, 0)) ∧ cs.size = m ∧ ∀ k, k < m → k < 0 → cs[k]? = some (.int .i64 xx)) :=
        ⟨_, by rw [← HW2.out]; exact bx_new _ _ _ rfl, size_madeCells _ _, fun k _ h => absurd h (Nat.not_lt_zero _)⟩
      have hmk := HMK.out
      obtain ⟨gb, HGB⟩ := nameIt w1.heap.size
      rw [HGB.out] at HX0
      go_upto_region 5 with fail
      rw [HW2.out, HGB.out]
      clear hmk
      go_wp2_with fail
      go_loopg [19] m (fun gg v19 wr => ∃ k : Nat, k ≤ m ∧ m - k ≤ gg ∧ v19 = .int .i64 k ∧ Hid (Below w1.heap.size w1 wr) ∧ Hid (∃ cs : Array Value, wr.heap[gb]? = some (.cells cs 3 (0, 0)) ∧ cs.size = m ∧ ∀ l, l < m → l < k → cs[l]? = some (.int .i64 xx)))
      case atStart => exact ⟨0, by omega, by omega, rfl, HB12, HX0⟩
      case round =>
        clear HX0
        obtain ⟨k, hk, hg2, rfl, HBk, HXk⟩ := hrel
        obtain ⟨w3, rfl⟩ : ∃ ww : World, ww = wr := ⟨_, rfl⟩
        obtain ⟨cs, hcs, hsz, hval⟩ := HXk.out
        by_cases hkm : k < m
        · have hkm' : (k : Int) < (m : Int) := by omega
          have hk0 : (0 : Int) ≤ (k : Int) := by omega
          have hc : w3.cell? ⟨gb, k, none⟩ = some (cs[k]'(by omega)) := by simp [World.cell?, hcs]
          have hf : w3.frozen? ⟨gb, k, none⟩ = false := by simp [World.frozen?, hcs]
          obtain ⟨cv, HCV⟩ := nameIt (cs[k]'(by omega))
          rw [HCV.out] at hc
          have HX9 : Hid (∃ cs' : Array Value, (w3.setCell ⟨gb, k, none⟩ (.int .i64 xx)).heap[gb]? = some (.cells cs' 3 (0, 0)) ∧ cs'.size = m ∧ ∀ l, l < m → l < k + 1 → cs'[l]? = some (.int .i64 xx)) := by
            refine ⟨cs.setIfInBounds k (.int .i64 xx), bx_set hcs _ _, by simpa using hsz, fun l hl hlk => ?_⟩
            rw [Array.getElem?_setIfInBounds]
            by_cases e : k = l
            · rw [if_pos e, if_pos (by omega)]
            · rw [if_neg e]; exact hval l hl (by omega)
          have HB9 : Hid (Below w1.heap.size w1 (w3.setCell ⟨gb, k, none⟩ (.int .i64 xx))) := HBk.out.setCell (p := ⟨gb, k, none⟩) (by rw [← HGB.out]; exact Nat.le_refl _) _
          clear hcs hval
          go_wp2_with fail
          go_roundg (m - (k + 1))
          case measure => omega
          case rel => exact ⟨k + 1, by omega, by omega, by go_num, HB9, HX9⟩
        · have hkm' : ¬ (k : Int) < (m : Int) := by omega
          have hkk : k = m := by omega
          have HI3 := Lib.hid (HI.out.keep HBk.out)
          have HO3 := Lib.hid (own_keep HOWN.out HBk.out)
          have hgB : w0.heap.size ≤ gb := by rw [← HGB.out]; exact HB.out.size
          have HGV : Hid ((Value.slice oa i oc).ownBlock ≠ some gb) := fun e => by have := HLT.out gb e; rw [HGB.out] at this; omega
          have HGL : Hid (gb ∉ L) := fun h => by have := (HI.out.rows gb h).2.1; rw [HGB.out] at this; omega
          have HCS : Hid (∃ cs : Array Value, w3.heap[gb]? = some (.cells cs 3 (0, 0)) ∧ cs.size = m ∧ ∀ l, l < m → cs[l]? = some (.int .i64 xx)) := ⟨cs, hcs, hsz, fun l hl => hval l hl (by omega)⟩
          have HB03 : Hid (Below w0.heap.size w0 w3) := HB.out.trans (HBk.out.mono HB.out.size)
          have hiN : i < 1000 := by omega
          clear hcs hsz hval hkk
          go_wp2_with (at_builtin; refine wp_app1at elI rfl _ _ rfl HO3.out rfl rfl rfl rfl rfl (by omega) (by unfold maxLen; omega) HI3.out.le ?_)
          intro v9 w9 ho9 hg9 hat9
          have HI9 : Hid (TbI 3 33 w0.heap.size m (.int .i64 xx) (L ++ [gb]) v9 w9) := by
            obtain ⟨cs', q1, q2, q3⟩ := HCS.out
            have hh := HI3.out
            rw [HLL.out] at hh
            exact hh.add q1 q2 q3 hgB HGV.out HGL.out (by rw [HLL.out]; exact ho9) hg9 hat9
          have HB9 : Hid (Below w0.heap.size w0 w9) := HB03.out.grown hg9 HB03.out.size (fun k e => (HO3.out.lt k e).1)
          clear ho9 hg9 hat9
          go_wp2_with fail
          go_roundg (N - (i + 1))
          case measure => omega
          case rel => exact ⟨i + 1, L ++ [gb], by omega, by omega, by show _ = _; rw [List.length_append, HLL.out]; rfl, by go_num, HI9, HB9⟩
    · have hlt' : ¬ (i : Int) < (N : Int) := by omega
      have hiN : i = N := by omega
      have hfin := HFI.out L _ w1 (HLL.out.trans hiN) HI.out HB.out
      rw [HLL.out] at hfin
      have HF := Lib.hid hfin
      clear hiN hfin
      go_wp2_with fail
      first | exact HF.out | (go_ret; exact HF.out)
end Cs
end Go.Proofs.Ytbnpemgmdnghgaa
namespace Go.Proofs.Ytbnpemgmdnghgaa
open Go.RowKit

def KidsPost (w0 : World) (t : Tree) (w : World) (e : Ending) (w' : World) : Prop :=
  ∃ a cap, e = .returned (.slice a (kidsOf t).length cap) ∧ Rd AnyB w0 (.sl ((kidsOf t).map Tree.d)) [.slice a (kidsOf t).length cap] ∧ Below w.heap.size w w'
theorem rd_nil (S : Nat → Prop) (w : World) : Rd S w (.sl []) [.slice none 0 0] := ⟨none, 0, [], rfl, by simp, by simp [maxLen], fun _ => rfl, fun i hi => by simp at hi, rfl⟩

set_option maxHeartbeats 400000 in
theorem kidsE (w0 : World) (t : Tree) (v : Value) (w : World) (hv : Rd AnyB w0 (.sl (t.kids.map Tree.d)) [v]) :
    Calls Try.prog 69 #[.agg #[.int .i64 t.rule, .int .i64 t.term, v]] w (KidsPost w0 t w) := by
  obtain ⟨a, cap, rfl, hc1, hc2⟩ := hv.form
  have HV := Lib.hid hv
  clear hv hc1 hc2
  cases t with
  | node r tm ks =>
  simp only [Tree.rule, Tree.term, Tree.kids, List.length_map] at HV ⊢
  by_cases hr : r = -1
  · subst hr
    go_enter Try.func69, Try.ntmps69
    go_wp2
    go_ret
    exact ⟨none, 0, rfl, rd_nil _ _, (Below.refl _ _).alloc (Nat.le_refl _) _⟩
  · have hr' : (r == -1) = false := by simpa using hr
    have HR := Lib.hid hr
    clear hr
    go_enter Try.func69, Try.ntmps69
    go_wp2
    go_ret
    refine ⟨a, cap, ?_, ?_, (Below.refl _ _).alloc (Nat.le_refl _) _⟩
    · simp [kidsOf, Tree.rule, Tree.kids, HR.out]
    · have e : kidsOf (.node r tm ks) = ks := by simp [kidsOf, Tree.rule, Tree.kids, HR.out]
      rw [e]; exact HV.out

/-- a function of nodes, as a function value: I: what it holds of the nodes seen so far, in which blocks -/
structure NodeFn (g : Nat) (lb : Array Value) (w0 : World) (p : Tree → Bool) (N : Nat) (I : List Tree → (Nat → Prop) → World → Prop) : Prop where
  below : ∀ {s S W}, I s S W → Below w0.heap.size w0 W
  own : ∀ {s S W}, I s S W → ∀ k, S k → w0.heap.size ≤ k ∧ k < W.heap.size
  keep : ∀ {s S W W'}, I s S W → Below W.heap.size W W' → I s S W'
  call : ∀ s S W (t : Tree) (v : Value), I s S W → Rd AnyB w0 (.sl (t.kids.map Tree.d)) [v] → s.length < N →
    Calls Try.prog g (#[.agg #[.int .i64 t.rule, .int .i64 t.term, v]] ++ lb) W fun e W' => ∃ S', e = .returned (.bool (p t)) ∧ I (s ++ [t]) S' W' ∧ Keeps S W W' ∧ ∀ k, S' k → S k ∨ W.heap.size ≤ k

def WalkPost (p : Tree → Bool) (I : List Tree → (Nat → Prop) → World → Prop) (t : Tree) (s : List Tree) (S : Nat → Prop) (W : World) (e : Ending) (W' : World) : Prop :=
  ∃ S', e = .returned (.bool ((nodes t).all p)) ∧ I (s ++ upTo p (nodes t)) S' W' ∧ Keeps S W W' ∧ ∀ k, S' k → S k ∨ W.heap.size ≤ k

structure WalkRel (p : Tree → Bool) (I : List Tree → (Nat → Prop) → World → Prop) (t : Tree) (s : List Tree) (S : Nat → Prop) (W : World) (i : Nat) (S' : Nat → Prop) (W' : World) : Prop where
  inv : I (s ++ t :: nodesL ((kidsOf t).take i)) S' W'
  kps : Keeps S W W'
  sub : ∀ k, S' k → S k ∨ W.heap.size ≤ k
  all : (t :: nodesL ((kidsOf t).take i)).all p = true

set_option maxHeartbeats 2000000 in
set_option maxRecDepth 100000 in
theorem walkE (g : Nat) (lb : Array Value) (w0 : World) (p : Tree → Bool) (N : Nat) (I : List Tree → (Nat → Prop) → World → Prop) (eg : ∀ args w, (callFunc g args).run Try.prog w = .ok (.enter g args) w) (hF : NodeFn g lb w0 p N I) :
    ∀ (m : Nat) (t : Tree) (v : Value) (s : List Tree) (S : Nat → Prop) (W : World), (nodes t).length ≤ m → I s S W → Rd AnyB w0 (.sl (t.kids.map Tree.d)) [v] → s.length + (nodes t).length ≤ N →
      Calls Try.prog 41 #[.agg #[.int .i64 t.rule, .int .i64 t.term, v], .func (.func g) #[] lb] W (WalkPost p I t s S W) := by
  intro m
  induction m with
  | zero => intro t v s S W hm; have := nodes_pos t; omega
  | succ m ih =>
  intro t v s S W hm hI hv hN
  obtain ⟨a, cap, rfl, hc1, hc2⟩ := hv.form
  have HV := Lib.hid hv
  have HI := Lib.hid hI
  have HF := Lib.hid hF
  have IH := Lib.hid ih
  have HM := Lib.hid hm
  have HN := Lib.hid hN
  have hn0 := nodes_pos t
  have hsl : s.length < N := by omega
  clear hv hI hF ih hc1 hc2 hm hN hn0
  obtain ⟨r, HRr⟩ := nameIt t.rule
  obtain ⟨tm, HRt⟩ := nameIt t.term
  obtain ⟨nk, HRn⟩ := nameIt (t.kids.map Tree.d).length
  have hk := fun W => kidsE w0 t _ W HV.out
  have hcall := fun W h => HF.out.call s S W t _ h HV.out hsl
  rw [HRr.out, HRt.out, HRn.out] at hk hcall
  rw [HRr.out, HRt.out, HRn.out]
  have HK := Lib.hid hk
  have HC := Lib.hid hcall
  clear hk hcall
  go_enter Try.func41, Try.ntmps41
  go_wp2_with fail
  refine (HC.out _ (HF.out.keep HI.out ((Below.refl _ _).alloc (Nat.le_refl _) _))).mono ?_
  rintro e W1 ⟨S1, rfl, hI1, hk1, hs1⟩
  have hx := hk1.cells (bx_new W _ W.heap.size rfl) (fun h => by have := (HF.out.own HI.out _ h).2; omega)
  have HI1 := Lib.hid hI1
  have HK1 : Hid (Keeps S W W1) := (Below.keeps (S := S) ((Below.refl W.heap.size W).alloc (Nat.le_refl _) (.cells #[.int .i64 r, .int .i64 tm, .slice a nk cap] 42))).trans hk1 (fun k h => .inl h)
  have HS1 : Hid (∀ k, S1 k → S k ∨ W.heap.size ≤ k) := fun k h => (hs1 k h).elim .inl (fun h => .inr (by simp at h; omega))
  obtain ⟨x0, x1, x2⟩ := bx_cells3 hx
  clear hI1 hk1 hs1 hx
  cases hp : p t with
  | false =>
    have HP := Lib.hid hp
    clear hp
    go_wp2
    go_ret
    refine ⟨S1, ?_, ?_, HK1.out, HS1.out⟩
    · rw [nodes_eq, List.all_cons, HP.out]; rfl
    · rw [nodes_eq, upTo, HP.out, if_neg (by decide)]; exact HI1.out
  | true =>
    have HP := Lib.hid hp
    clear hp
    go_wp2_with fail
    refine (HK.out W1).mono ?_
    rintro e W2 ⟨ak, ck, rfl, hrk, hb2⟩
    have HRK := Lib.hid hrk
    have HR : Hid (WalkRel p I t s S W 0 S1 W2) := ⟨by simpa [nodesL] using HF.out.keep HI1.out hb2, HK1.out.trans (Below.keeps (S := S1) hb2) HS1.out, HS1.out, by simpa [nodesL] using HP.out⟩
    obtain ⟨K, HKN⟩ := nameIt (kidsOf t)
    have hkl := hrk.bounds
    rw [HKN.out] at hkl
    rw [HKN.out] at HRK
    rw [HKN.out]
    unfold maxLen at hkl
    obtain ⟨-, hkl1, hkl2⟩ := hkl
    clear hrk hb2 x0 x1 x2 HI1 HK1 HS1 HK HC HI HRn
    go_wp2_with fail
    go_loopg [14] K.length (fun gg v14 wr => ∃ (i : Nat) (S' : Nat → Prop), i ≤ K.length ∧ K.length - i ≤ gg ∧ v14 = .int .i64 i ∧ Hid (WalkRel p I t s S W i S' wr))
    case atStart => exact ⟨0, S1, by omega, by omega, rfl, HR⟩
    case round =>
      clear HR
      obtain ⟨i, S', hi, hg, rfl, HR⟩ := hrel
      by_cases hlt : i < K.length
      · have hlt' : (i : Int) < (K.length : Int) := by omega
        obtain ⟨b, off, v, hae, -, hbl, c0, c1, c2, hkid⟩ := HRK.out.kid hlt
        obtain ⟨av, cv, rfl, -, -⟩ := hkid.form
        obtain ⟨nv, HNV⟩ := nameIt (K[i].kids.map Tree.d).length
        rw [HNV.out] at c2 hkid
        have hbel := HF.out.below HR.out.inv
        have e0 := (hbel.cell (p := ⟨b, off + i * 3, none⟩) hbl).trans c0
        have e1 := (hbel.cell (p := ⟨b, off + i * 3 + 1, none⟩) hbl).trans c1
        have e2 := (hbel.cell (p := ⟨b, off + i * 3 + 2, none⟩) hbl).trans c2
        have hme : (nodes K[i]).length ≤ m := by
          have h1 := HM.out
          rw [nodes_eq, HKN.out] at h1
          have h2 := nodesL_kid hlt
          simp at h1; omega
        have hne : (s ++ t :: nodesL (K.take i)).length + (nodes K[i]).length ≤ N := by
          have h1 := HN.out
          rw [nodes_eq, HKN.out] at h1
          have h2 := nodesL_kid hlt
          simp at h1 ⊢; omega
        have hinv := HR.out.inv
        rw [HKN.out] at hinv
        have hih := IH.out K[i] _ _ S' _ hme (HF.out.keep hinv ((Below.refl _ _).alloc (Nat.le_refl _) (.cells #[.int .i64 K[i].rule, .int .i64 K[i].term, .slice av nv cv] 42))) hkid hne
        obtain ⟨q0, HQ0⟩ := nameIt K[i].rule
        obtain ⟨q1, HQ1⟩ := nameIt K[i].term
        rw [HQ0.out] at e0 hih
        rw [HQ1.out] at e1 hih
        have HIH := Lib.hid hih
        subst hae
        clear hbel c0 c1 c2 hme hne hinv hih hkid
        go_wp2_with fail
        refine HIH.out.mono ?_
        rintro e W3 ⟨S3, rfl, hI3, hk3, hs3⟩
        have HI3 := Lib.hid hI3
        have hbb := (Below.refl wr.heap.size wr).alloc (Nat.le_refl _) (.cells #[.int .i64 q0,   .int .i64 q1, .slice av nv cv] 42)
        have HK3 : Hid (Keeps S W W3) := (HR.out.kps.trans (Below.keeps (S := S') hbb) HR.out.sub).trans hk3 HR.out.sub
        have HS3 : Hid (∀ k, S3 k → S k ∨ W.heap.size ≤ k) := fun k h => (hs3 k h).elim (HR.out.sub k) (fun h => .inr (by have := HR.out.kps.size; simp at h; omega))
        clear hI3 hk3 hs3 hbb HIH e0 e1 e2
        cases hp : (nodes K[i]).all p with
        | false =>
          have HP' := Lib.hid hp
          clear hp
          go_wp2
          go_ret
          have h1 := HR.out.all
          rw [HKN.out] at h1
          have h2 : nodes t = (t :: nodesL (K.take i)) ++ (nodes K[i] ++ nodesL (K.drop (i + 1))) := by rw [nodes_eq, HKN.out, nodesL_split hlt]; rfl
          refine ⟨S3, ?_, ?_, HK3.out, HS3.out⟩
          · rw [h2, List.all_append, List.all_append, HP'.out]; simp
          · rw [h2, upTo_append h1, upTo_stop HP'.out]
            have := HI3.out
            simpa using this
        | true =>
          have HR' : Hid (WalkRel p I t s S W (i + 1) S3 W3) := by
            refine ⟨?_, HK3.out, HS3.out, ?_⟩
            · rw [HKN.out, nodesL_take hlt]
              have := HI3.out
              rw [upTo_all hp] at this
              simpa using this
            · have h1 := HR.out.all
              rw [HKN.out] at h1
              rw [HKN.out, nodesL_take hlt]
              rw [← List.cons_append, List.all_append, h1, hp]; rfl
          clear hp
          go_wp2
          go_roundg (K.length - (i + 1))
          case measure => omega
          case rel => exact ⟨i + 1, S3, by omega, by omega, by go_num, HR'⟩
      · have hlt' : ¬ (i : Int) < (K.length : Int) := by omega
        go_wp2
        go_ret
        have h1 := HR.out.all
        have h3 := HR.out.inv
        rw [HKN.out, List.take_of_length_le (by omega)] at h1 h3
        have h2 : nodes t = t :: nodesL K := by rw [nodes_eq, HKN.out]
        refine ⟨S', ?_, ?_, HR.out.kps, HR.out.sub⟩
        · rw [h2, h1]; rfl
        · rw [h2, upTo_all h1]; exact h3
end Go.Proofs.Ytbnpemgmdnghgaa
namespace Go.Proofs.Ytbnpemgmdnghgaa
open Go.RowKit

mutual
def Tree.size : Tree → Nat
  | .node _ _ ks => sizeL ks + 1
def sizeL : List Tree → Nat
  | [] => 0
  | k :: ks => Tree.size k + sizeL ks
end
theorem elTree : ElemT Try.prog 40 42 3 40 := ElemT.mk' (z := .agg #[.int .i64 0, .int .i64 0, .slice none 0 0]) Try.underlying40 (by kernel_rfl) rfl (by decide)

/-- a row of trees that is being made, its header in the box b at the cell 2 -/
structure RowRel (T : Nat → Prop) (B b : Nat) (r tm : Int) (ts : List Tree) (vr : Value) (wr : World) : Prop where
  out : wr.heap[b]? = some (.cells #[.int .i64 r, .int .i64 tm, vr] 42 (0, 0))
  own : ∃ xs, wr.ownsRow B 42 3 vr ts.length xs ∧ RdAll (fun k => T k ∧ vr.ownBlock ≠ some k) wr (ts.map Tree.d) xs
  lt : b < B
  nt : ¬ T b
  le : B ≤ wr.heap.size
theorem RowRel.len {T : Nat → Prop} {B b : Nat} {r tm : Int} {ts : List Tree} {vr : Value} {wr : World} (h : RowRel T B b r tm ts vr wr) : ∃ a cap, vr = .slice a ts.length cap ∧ ts.length ≤ cap ∧ cap ≤ maxLen := by
  obtain ⟨xs, h1, _⟩ := h.own; exact own_len h1
theorem RowRel.keep {T : Nat → Prop} {B b : Nat} {r tm : Int} {ts : List Tree} {vr : Value} {wr w' : World} (h : RowRel T B b r tm ts vr wr) (hb : Below wr.heap.size wr w') : RowRel T B b r tm ts vr w' := by
  obtain ⟨xs, h1, h2⟩ := h.own
  exact ⟨bx_keep h.out hb, ⟨xs, own_keep h1 hb, h2.below hb⟩, h.lt, h.nt, Nat.le_trans h.le hb.size⟩
/-- behind the append of a tree, and the store of the new header -/
theorem RowRel.step {T : Nat → Prop} {B b g cap n : Nat} {r tm : Int} {ts : List Tree} {t : Tree} {vr v : Value} {w2 w3 : World} {xs : List Value} (h : RowRel T B b r tm ts vr w2) (hn : ts.length = n) (ho : w2.ownsRow B 42 3 vr n xs) (hd : RdAll (fun k => T k ∧ vr.ownBlock ≠ some k) w2 (ts.map Tree.d) xs)
    (hr : Rd (fun k => T k ∧ vr.ownBlock ≠ some k) w2 (.sl (t.kids.map Tree.d)) [v])
    (ho3 : w3.ownsRow B 42 3 (.slice (some ⟨g, 0, none⟩) (n + 1) cap) (n + 1) (xs ++ [.int .i64 t.rule, .int .i64 t.term, v])) (hg : w2.grownBy w3 vr.ownBlock) (hat : vr.ownBlock = some g ∨ w2.heap.size ≤ g) :
    w3.heap[b]? = some (.cells #[.int .i64 r, .int .i64 tm, vr] 42 (0, 0)) ∧ RowRel T B b r tm (ts ++ [t]) (.slice (some ⟨g, 0, none⟩) (n + 1) cap) (w3.setCell ⟨b, 2, none⟩ (.slice (some ⟨g, 0, none⟩) (n + 1) cap)) := by
  have hlt := (Array.getElem?_eq_some_iff.1 h.out).1
  have hb3 : w3.heap[b]? = some (.cells #[.int .i64 r, .int .i64 tm, vr] 42 (0, 0)) := by
    rw [hg.block b hlt (fun e => by have := (ho.lt b e.symm).1; have := h.lt; omega)]; exact h.out
  have hne : b ≠ g := by
    have h1 := (ho3.lt g rfl).1
    have := h.lt; omega
  refine ⟨hb3, ?_, ⟨xs ++ [.int .i64 t.rule, .int .i64 t.term, v], ?_, ?_⟩, h.lt, h.nt, by simp [World.setCell]; exact Nat.le_trans h.le hg.size⟩
  · rw [bx_set hb3]; rfl
  · rw [List.length_append, hn]
    exact ho3.kept (grown_cell w3 ⟨b, 2, none⟩ _) (.inr (by simpa [Value.ownBlock] using fun e => hne e.symm))
  · have h1 := own_step (S := T) (v' := .slice (some ⟨g, 0, none⟩) (n + 1) cap) hd (RdAll.one (rd_tree hr)) hg (by
      rcases hat with e | e
      · exact .inl e.symm
      · exact .inr ⟨g, rfl, e⟩)
    rw [List.map_append]
    refine RdAll.keep (fun k hk _ => ⟨hk, Below.heap_setCell _ _ _ _ ?_⟩) _ _ h1
    intro e
    simp at e
    subst e
    exact h.nt hk.1

structure CopyRel (t : Tree) (w : World) (i : Nat) (vr : Value) (wr : World) : Prop where
  row : RowRel (fun k => w.heap.size + 1 + 1 + 1 ≤ k) (w.heap.size + 1 + 1 + 1) (w.heap.size + 1 + 1) t.rule t.term (t.kids.take i) vr wr
  res : wr.heap[w.heap.size + 1]? = some (.cells #[.int .i64 0, .int .i64 0, .slice none 0 0] 42 (0, 0))
  bel : Below w.heap.size w wr

/-- a result box, stored into: it is new memory alone -/
theorem below_box3 {B b : Nat} {w w' : World} (h : Below B w w') (hb : B ≤ b) (x y z : Value) : Below B w (((w'.setCell ⟨b, 0, none⟩ x).setCell ⟨b, 1, none⟩ y).setCell ⟨b, 2, none⟩ z) :=
  ((h.setCell (p := ⟨b, 0, none⟩) hb x).setCell (p := ⟨b, 1, none⟩) hb y).setCell (p := ⟨b, 2, none⟩) hb z
theorem grown_box3 (b : Nat) (w : World) (x y z : Value) : w.grownBy (((w.setCell ⟨b, 0, none⟩ x).setCell ⟨b, 1, none⟩ y).setCell ⟨b, 2, none⟩ z) (some b) := grown_trans (grown_trans (grown_cell _ _ _) (grown_cell _ _ _)) (grown_cell _ _ _)
theorem Rd.box3 {S : Nat → Prop} {w : World} {d : D} {cs : List Value} (h : Rd S w d cs) {b : Nat} (hb : ¬ S b) (x y z : Value) : Rd S (((w.setCell ⟨b, 0, none⟩ x).setCell ⟨b, 1, none⟩ y).setCell ⟨b, 2, none⟩ z) d cs :=
  Rd.keep (fun k hk hlt => ⟨hk, (grown_box3 b w x y z).block k hlt (fun e => by cases e; exact hb hk)⟩) d cs h

end Go.Proofs.Ytbnpemgmdnghgaa
namespace Go.Proofs.Ytbnpemgmdnghgaa
open Go.RowKit

def kidAt (t : Tree) (i : Int) : Option Tree := if t.rule = -1 ∨ i < 0 then none else t.kids[i.toNat]?
def belowT : Tree → List Int → Option Tree
  | t, [] => some t
  | t, i :: p => (kidAt t i).bind fun k => belowT k p
theorem belowT_drop {t : Tree} {p : List Int} {i : Nat} (h : i < p.length) : belowT t (p.drop i) = (kidAt t p[i]).bind fun k => belowT k (p.drop (i + 1)) := by
  rw [List.drop_eq_getElem_cons h, belowT]
theorem bx_set3 {w : World} {b : Nat} {x0 x1 x2 : Value} {T : TypeId} (h : w.heap[b]? = some (.cells #[x0, x1, x2] T (0, 0))) (y0 y1 y2 : Value) : (((w.setCell ⟨b, 0, none⟩ y0).setCell ⟨b, 1, none⟩ y1).setCell ⟨b, 2, none⟩ y2).heap[b]? = some (.cells #[y0, y1, y2] T (0, 0)) := by
  rw [bx_set (bx_set (bx_set h 0 y0) 1 y1) 2 y2]; rfl
theorem bx_other3 {w : World} {b c : Nat} {o : Obj} (h : w.heap[b]? = some o) (hne : b ≠ c) (y0 y1 y2 : Value) : (((w.setCell ⟨c, 0, none⟩ y0).setCell ⟨c, 1, none⟩ y1).setCell ⟨c, 2, none⟩ y2).heap[b]? = some o :=
  bx_other (bx_other (bx_other h hne _ _) hne _ _) hne _ _

/-- the state of the loops: the tree that is come to lies in the parameter's box -/
structure DescRel (t : Tree) (p : List Int) (w : World) (i : Nat) (cur : Tree) (v : Value) (wr : World) : Prop where
  box : wr.heap[w.heap.size]? = some (.cells #[.int .i64 cur.rule, .int .i64 cur.term, v] 42 (0, 0))
  kid : Rd AnyB w (.sl (cur.kids.map Tree.d)) [v]
  res : wr.heap[w.heap.size + 1]? = some (.cells #[.int .i64 0, .int .i64 0, .slice none 0 0] 42 (0, 0))
  eq : belowT cur (p.drop i) = belowT t p
  bel : Below w.heap.size w wr
theorem DescRel.step {t cur k : Tree} {p : List Int} {w wr : World} {i : Nat} {v u : Value} (h : DescRel t p w i cur v wr) (hi : i < p.length) (hk : kidAt cur p[i] = some k) (hu : Rd AnyB w (.sl (k.kids.map Tree.d)) [u]) :
    DescRel t p w (i + 1) k u (((wr.setCell ⟨w.heap.size, 0, none⟩ (.int .i64 k.rule)).setCell ⟨w.heap.size, 1, none⟩ (.int .i64 k.term)).setCell ⟨w.heap.size, 2, none⟩ u) :=
  ⟨bx_set3 h.box _ _ _, hu, bx_other3 h.res (by omega) _ _ _, by rw [← h.eq, belowT_drop hi, hk]; rfl, below_box3 h.bel (Nat.le_refl _) _ _ _⟩

end Go.Proofs.Ytbnpemgmdnghgaa
namespace Go.Proofs.Ytbnpemgmdnghgaa
open Go.RowKit

theorem DescRel.keep {t : Tree} {p : List Int} {w : World} {i : Nat} {cur : Tree} {v : Value} {wr w' : World} (h : DescRel t p w i cur v wr) (hb : Below wr.heap.size wr w') : DescRel t p w i cur v w' :=
  ⟨bx_keep h.box hb, h.kid, bx_keep h.res hb, h.eq, h.bel.trans (hb.mono h.bel.size)⟩
mutual
theorem size_mono : ∀ (t : Tree), ∀ k ∈ t.kids, k.size < t.size
  | .node r tm ks => by
    intro k hk
    have := sizeL_mem ks k hk
    simp [Tree.size]; omega
theorem sizeL_mem : ∀ (ks : List Tree), ∀ k ∈ ks, k.size ≤ sizeL ks
  | [], k, h => by simp at h
  | x :: ks, k, h => by
    rcases List.mem_cons.1 h with rfl | h
    · simp [sizeL]
    · have := sizeL_mem ks k h; simp [sizeL]; omega
end
end Go.Proofs.Ytbnpemgmdnghgaa
namespace Go.Proofs.Ytbnpemgmdnghgaa
open Go.RowKit

def putT : Tree → List Int → Tree → Tree
  | _, [], s => s
  | t, i :: p, s => .node t.rule t.term (t.kids.mapIdx fun j k => if (j : Int) = i then putT k p s else k)
structure WithRel (S0 : Nat → Prop) (t s : Tree) (vs : Value) (K : List Tree) (w : World) (i : Nat) (vr : Value) (wr : World) : Prop where
  row : RowRel (fun k => S0 k ∨ w.heap.size + 1 + 1 + 1 + 1 ≤ k) (w.heap.size + 1 + 1 + 1 + 1) (w.heap.size + 1 + 1 + 1) t.rule t.term (K.take i) vr wr
  res : wr.heap[w.heap.size + 1 + 1]? = some (.cells #[.int .i64 0, .int .i64 0, .slice none 0 0] 42 (0, 0))
  sub : wr.heap[w.heap.size + 1]? = some (.cells #[.int .i64 s.rule, .int .i64 s.term, vs] 42 (0, 0))
  bel : Below w.heap.size w wr

theorem WithRel.next {S0 : Nat → Prop} {t s pt : Tree} {vs u vr : Value} {K : List Tree} {w wr w3 w4 : World} {i g cap4 : Nat} {xs : List Value} (h : WithRel S0 t s vs K w i vr wr) (hb : Below wr.heap.size wr w3) (htl : (K.take i).length = i)
    (ho : wr.ownsRow (w.heap.size + 1 + 1 + 1 + 1) 42 3 vr i xs) (hd : RdAll (fun k => (S0 k ∨ w.heap.size + 1 + 1 + 1 + 1 ≤ k) ∧ vr.ownBlock ≠ some k) wr ((K.take i).map Tree.d) xs) (hk : K.take (i + 1) = K.take i ++ [pt])
    (hr : Rd (fun k => (S0 k ∨ w.heap.size + 1 + 1 + 1 + 1 ≤ k) ∧ vr.ownBlock ≠ some k) w3 (.sl (pt.kids.map Tree.d)) [u])
    (ho4 : w4.ownsRow (w.heap.size + 1 + 1 + 1 + 1) 42 3 (.slice (some ⟨g, 0, none⟩) (i + 1) cap4) (i + 1) (xs ++ [.int .i64 pt.rule, .int .i64 pt.term, u])) (hg : w3.grownBy w4 vr.ownBlock) (hat : vr.ownBlock = some g ∨ w3.heap.size ≤ g) :
    w4.heap[w.heap.size + 1 + 1 + 1]? = some (.cells #[.int .i64 t.rule, .int .i64 t.term, vr] 42 (0, 0)) ∧ WithRel S0 t s vs K w (i + 1) (.slice (some ⟨g, 0, none⟩) (i + 1) cap4) (w4.setCell ⟨w.heap.size + 1 + 1 + 1, 2, none⟩ (.slice (some ⟨g, 0, none⟩) (i + 1) cap4)) := by
  have hst := RowRel.step (h.row.keep hb) htl (own_keep ho hb) (hd.below hb) hr ho4 hg hat
  have hle := h.row.le
  have hsz := hb.size
  have hother : ∀ k, k < w.heap.size + 1 + 1 + 1 + 1 → k < wr.heap.size → w4.heap[k]? = w3.heap[k]? := fun k hk hlt => hg.block k (by omega) (fun e => by have := (ho.lt k e.symm).1; omega)
  refine ⟨hst.1, ⟨by rw [hk]; exact hst.2, ?_, ?_, ?_⟩⟩
  · refine bx_other ?_ (by omega) _ _
    rw [hother _ (by omega) (by omega)]; exact bx_keep h.res hb
  · refine bx_other ?_ (by omega) _ _
    rw [hother _ (by omega) (by omega)]; exact bx_keep h.sub hb
  · exact ((h.bel.trans (hb.mono h.bel.size)).grown hg (by have := h.bel.size; omega) (fun k e => by have := (ho.lt k e).1; omega)).setCell (by simp; omega) _

end Go.Proofs.Ytbnpemgmdnghgaa
