/- Plain: what a census asks: which lengths lists of symbols can have; why counting ends. Plain: the edges of a census, the passes of its tables; why counting ends. A table of numbers in memory, that is being filled. Rows of nested data of the call's own: append of one datum, of a slice of data. Tables in memory whose rows were appended; the contracts of census.table. The contracts of tree.kids and tree.walk. The contracts of gram.CopyTree and tree.Clone. The contracts of Below and tree.At. The contract of tree.At. Trees with one subtree put in another's place: the words. -/
import Derived.Test.YtbnpemgmdnghgaaJRankRefusesRow1
import Derived.Deep.OwnRows
import Derived.Deep.LoopGhost
import Derived.Deep.DeepCutAuto
import Derived.Deep.Cut
import Derived.Shelf.Abstract
import Derived.Deep.RegionHeld3
import Derived.StillTailTactics
namespace Go.Proofs.Ytbnpemgmdnghgaa
open Go.RowKit
namespace Cs

def hasK (S : Nat → Nat → Bool) (s : Sym) (k : Nat) : Bool := if s.term then decide (k = 1) else S s.n.toNat k
def canK (S : Nat → Nat → Bool) : List Sym → Nat → Bool
  | [], k => decide (k = 0)
  | s :: l, k => (List.range (k + 1)).any fun i => hasK S s i && canK S l (k - i)
def splitK (S : Nat → Nat → Bool) (a b : List Sym) (k : Nat) : Bool := (List.range (k + 1)).any fun i => canK S a i && canK S b (k - i)
theorem canK_cons {S : Nat → Nat → Bool} {s : Sym} {l : List Sym} {k : Nat} : canK S (s :: l) k = true ↔ ∃ i, i ≤ k ∧ hasK S s i = true ∧ canK S l (k - i) = true := by
  rw [canK, List.any_eq_true]
  constructor
  · rintro ⟨i, hi, h⟩
    rw [Bool.and_eq_true] at h
    exact ⟨i, by have := List.mem_range.1 hi; omega, h⟩
  · rintro ⟨i, hi, h1, h2⟩
    exact ⟨i, List.mem_range.2 (by omega), by rw [h1, h2]; rfl⟩
theorem splitK_iff {S : Nat → Nat → Bool} {a b : List Sym} {k : Nat} : splitK S a b k = true ↔ ∃ i, i ≤ k ∧ canK S a i = true ∧ canK S b (k - i) = true := by
  rw [splitK, List.any_eq_true]
  constructor
  · rintro ⟨i, hi, h⟩
    rw [Bool.and_eq_true] at h
    exact ⟨i, by have := List.mem_range.1 hi; omega, h⟩
  · rintro ⟨i, hi, h1, h2⟩
    exact ⟨i, List.mem_range.2 (by omega), by rw [h1, h2]; rfl⟩
/-- a list of at most so many trees of symbols, in which all that is asked for is good -/
def Fine (S : Nat → Nat → Bool) (G : Nat → Nat → Prop) (l : List Sym) (k : Nat) : Prop :=
  ∀ (p : Nat) (s : Sym) (i a : Nat), l[p]? = some s → s.term = false → S s.n.toNat i = true → a + i ≤ k → canK S (l.take p) a = true → canK S (l.drop (p + 1)) (k - a - i) = true → G s.n.toNat i
theorem Fine.head {S : Nat → Nat → Bool} {G : Nat → Nat → Prop} {s : Sym} {l : List Sym} {k i : Nat} (h : Fine S G (s :: l) k) (hi : i ≤ k) (h1 : hasK S s i = true) (h2 : canK S l (k - i) = true) (ht : s.term = false) : G s.n.toNat i := by
  refine h 0 s i 0 rfl ht ?_ (by omega) rfl (by simpa using h2)
  unfold hasK at h1
  rw [ht] at h1
  simpa using h1
theorem Fine.tail {S : Nat → Nat → Bool} {G : Nat → Nat → Prop} {s : Sym} {l : List Sym} {k i : Nat} (h : Fine S G (s :: l) k) (hi : i ≤ k) (h1 : hasK S s i = true) : Fine S G l (k - i) := by
  intro p s' j a hp ht hS ha h2 h3
  refine h (p + 1) s' j (i + a) hp ht hS (by omega) ?_ ?_
  · rw [List.take_succ_cons, canK_cons]
    exact ⟨i, by omega, h1, by rw [Nat.add_sub_cancel_left]; exact h2⟩
  · rw [List.drop_succ_cons]
    have : k - (i + a) - j = k - i - a - j := by omega
    rw [this]; exact h3
/-- how many nodes a node leads to -/
def reachN (T : Nat → Nat → Bool) (size u : Nat) : Nat := ((List.range size).filter fun v => T u v).length
theorem reachN_lt {T : Nat → Nat → Bool} {size u v : Nat} (hT : ∀ i k j, T i k = true → T k j = true → T i j = true) (huv : T u v = true) (hv : v < size) (hvv : T v v = false) : reachN T size v < reachN T size u := by
  unfold reachN
  have key : ∀ n, ((List.range n).filter fun w => T v w).length + (if v < n then 1 else 0) ≤ ((List.range n).filter fun w => T u w).length := by
    intro n
    induction n with
    | zero => simp
    | succ n ih =>
      rw [List.range_succ, List.filter_append, List.filter_append, List.length_append, List.length_append]
      by_cases e : v = n
      · subst e
        rw [if_neg (by omega)] at ih
        rw [if_pos (by omega)]
        simp [huv, hvv] at ih ⊢
        exact ih
      · have e2 : (if v < n + 1 then 1 else 0) = (if v < n then 1 else 0) := by
          by_cases h : v < n
          · rw [if_pos h, if_pos (by omega)]
          · rw [if_neg h, if_neg (by omega)]
        rw [e2]
        cases h : T v n with
        | false => simp [h]; omega
        | true =>
          have := hT u v n huv h
          simp [h, this]; omega
  have := key size
  rw [if_pos hv] at this
  omega
theorem reachN_le (T : Nat → Nat → Bool) (size u : Nat) : reachN T size u ≤ size := by
  unfold reachN
  refine Nat.le_trans (List.length_filter_le _ _) ?_
  rw [List.length_range]; exact Nat.le_refl _
/-- a table of truth values as edges -/
def edg (size : Nat) (F : Nat → Nat → Bool) : List (Nat × Nat) := (List.range size).flatMap fun i => ((List.range size).filter fun j => F i j).map fun j => (i, j)
theorem edg_mem {size : Nat} {F : Nat → Nat → Bool} {i j : Nat} : (i, j) ∈ edg size F ↔ i < size ∧ j < size ∧ F i j = true := by
  unfold edg
  rw [List.mem_flatMap]
  constructor
  · rintro ⟨a, ha, h⟩
    obtain ⟨b, hb, e⟩ := List.mem_map.1 h
    cases e
    rw [List.mem_filter] at hb
    exact ⟨List.mem_range.1 ha, List.mem_range.1 hb.1, hb.2⟩
  · rintro ⟨h1, h2, h3⟩
    exact ⟨i, List.mem_range.2 h1, List.mem_map.2 ⟨j, List.mem_filter.2 ⟨List.mem_range.2 h2, h3⟩, rfl⟩⟩
theorem edg_lt {size : Nat} {F : Nat → Nat → Bool} : ∀ e ∈ edg size F, e.1 < size ∧ e.2 < size := by
  rintro ⟨i, j⟩ h
  obtain ⟨h1, h2, _⟩ := edg_mem.1 h
  exact ⟨h1, h2⟩
theorem fw_zero {size : Nat} {F : Nat → Nat → Bool} {i j : Nat} (hi : i < size) (hj : j < size) : fw (edg size F) 0 i j = F i j := by
  rw [fw, Bool.eq_iff_iff, decide_eq_true_iff, edg_mem]
  exact ⟨fun h => h.2.2, fun h => ⟨hi, hj, h⟩⟩
/-- all that a node leads to -/
def clo (size : Nat) (F : Nat → Nat → Bool) (i j : Nat) : Bool := fw (edg size F) size i j
theorem clo_edge {size : Nat} {F : Nat → Nat → Bool} {i j : Nat} (hi : i < size) (hj : j < size) (h : F i j = true) : clo size F i j = true := fw_edge (edg_mem.2 ⟨hi, hj, h⟩) size
theorem pth_ends {E : List (Nat × Nat)} {N i j : Nat} (hE : ∀ e ∈ E, e.1 < N ∧ e.2 < N) (h : Pth E i j) : i < N ∧ j < N := by
  induction h with
  | one h => exact hE _ h
  | cons h _ ih => exact ⟨(hE _ h).1, ih.2⟩
theorem clo_lt {size : Nat} {F : Nat → Nat → Bool} {i j : Nat} (h : clo size F i j = true) : i < size ∧ j < size := pth_ends edg_lt ((fw_iff edg_lt).1 h)
theorem clo_trans {size : Nat} {F : Nat → Nat → Bool} : ∀ i k j, clo size F i k = true → clo size F k j = true → clo size F i j = true := fun _ _ _ h1 h2 =>
  (fw_iff edg_lt).2 (((fw_iff edg_lt).1 h1).trans ((fw_iff edg_lt).1 h2))
/-- what leads to itself, or to such: looked at below jm -/
def manyK (T : Nat → Nat → Bool) (jm u : Nat) : Bool := (List.range jm).any fun j => (u == j || T u j) && T j j
theorem manyK_not {T : Nat → Nat → Bool} {size u : Nat} (h : manyK T size u = false) {j : Nat} (hj : j < size) (h1 : u = j ∨ T u j = true) : T j j = false := by
  unfold manyK at h
  rw [List.any_eq_false] at h
  have := h j (List.mem_range.2 hj)
  cases e : T j j with
  | false => rfl
  | true =>
    rw [e] at this
    rcases h1 with rfl | h1
    · simp at this
    · simp [h1] at this
/-- the sum over ways of a list, as the program reckons it -/
def listStep (cap : Int) (sum o l : Int) : Int := min (IntKind.i64.wrap (sum + IntKind.i64.wrap (o * l))) cap
def listV (S : Nat → Nat → Bool) (cap : Int) (o : Sym → Nat → Int) : List Sym → Nat → Int
  | [], k => if k = 0 then 1 else 0
  | s :: l, k => (List.range (k + 1)).foldl (fun sum i => if (hasK S s i && canK S l (k - i)) = true then listStep cap sum (o s i) (listV S cap o l (k - i)) else sum) 0
def symV (S : Nat → Nat → Bool) (f : Nat → Nat → Int) (s : Sym) (k : Nat) : Int := if hasK S s k = false then 0 else if s.term then 1 else f s.n.toNat k
def ofF (rules : List Rule) (S M : Nat → Nat → Bool) (cap many : Int) : Nat → Nat → Nat → Int
  | 0, _, _ => 0
  | f + 1, A, k => if S A k = false then 0 else if M A k then many else rules.foldl (fun sum r => if r.left = (A : Int) then min (IntKind.i64.wrap (sum + listV S cap (symV S (ofF rules S M cap many f)) r.right k)) cap else sum) 0
theorem foldl_same {α β : Type} {f g : β → α → β} : ∀ (l : List α) (b : β), (∀ b a, a ∈ l → f b a = g b a) → l.foldl f b = l.foldl g b
  | [], _, _ => rfl
  | a :: l, b, h => by
    rw [List.foldl_cons, List.foldl_cons, h b a List.mem_cons_self]
    exact foldl_same l _ fun b' a' h' => h b' a' (List.mem_cons_of_mem _ h')
theorem listV_same {S : Nat → Nat → Bool} {cap : Int} {o o' : Sym → Nat → Int} {G : Nat → Nat → Prop} (ho : ∀ (s : Sym) (i : Nat), s.term = true → o s i = o' s i) (hG : ∀ (s : Sym) (i : Nat), s.term = false → G s.n.toNat i → o s i = o' s i) :
    ∀ (l : List Sym) (k : Nat), Fine S G l k → listV S cap o l k = listV S cap o' l k
  | [], _, _ => rfl
  | s :: l, k, h => by
    rw [listV, listV]
    refine foldl_same _ _ fun b i hi => ?_
    have hik : i ≤ k := by have := List.mem_range.1 hi; omega
    by_cases e : (hasK S s i && canK S l (k - i)) = true
    · rw [if_pos e, if_pos e]
      rw [Bool.and_eq_true] at e
      rw [listV_same ho hG l (k - i) (h.tail hik e.1)]
      cases ht : s.term with
      | true => rw [ho s i ht]
      | false => rw [hG s i ht (h.head hik e.1 e.2 ht)]
    · rw [if_neg e, if_neg e]
/-- a node from which counting ends, in so many steps -/
def okK (T M : Nat → Nat → Bool) (n size f A k : Nat) : Prop := M A k = true ∨ reachN T size (A * (n + 1) + k) < f
/-- all that is asked for at a node leads to fewer nodes -/
def EndsK (rules : List Rule) (S M T : Nat → Nat → Bool) (N n size : Nat) : Prop :=
  ∀ (A k : Nat) (r : Rule), A < N → k ≤ n → M A k = false → r ∈ rules → r.left = (A : Int) → Fine S (fun B j => B < N ∧ j ≤ n ∧ okK T M n size (reachN T size (A * (n + 1) + k)) B j) r.right k
section
variable {rules : List Rule} {S M T : Nat → Nat → Bool} {N n size : Nat} {cap many : Int}
theorem okK.mono {f f' A k : Nat} (h : okK T M n size f A k) (hf : f ≤ f') : okK T M n size f' A k := h.imp id fun h => by omega
theorem ofF_stable (hE : EndsK rules S M T N n size) : ∀ (f A k : Nat), A < N → k ≤ n → okK T M n size f A k → ∀ f', f ≤ f' → ofF rules S M cap many (f' + 1) A k = ofF rules S M cap many (f + 1) A k := by
  intro f
  induction f with
  | zero =>
    intro A k hA hk h f' _
    rcases h with h | h
    · rw [ofF, ofF, h]; rfl
    · omega
  | succ f ih =>
    intro A k hA hk h f' hf
    by_cases hM : M A k = true
    · rw [ofF, ofF, hM]; rfl
    · have hM' : M A k = false := by simpa using hM
      have hr : reachN T size (A * (n + 1) + k) < f + 1 := h.resolve_left hM
      obtain ⟨f0, rfl⟩ : ∃ f0, f' = f0 + 1 := ⟨f' - 1, by omega⟩
      rw [ofF, ofF, hM']
      by_cases hS : S A k = false
      · rw [if_pos hS, if_pos hS]
      · rw [if_neg hS, if_neg hS]
        simp only [Bool.false_eq_true, if_false]
        refine foldl_same _ _ fun b r hr' => ?_
        by_cases hl : r.left = (A : Int)
        · rw [if_pos hl, if_pos hl]
          have := hE A k r hA hk hM' hr' hl
          have h1 : ∀ (s : Sym) (i : Nat), s.term = true → symV S (ofF rules S M cap many (f0 + 1)) s i = symV S (ofF rules S M cap many (f + 1)) s i := fun s i ht => by unfold symV; simp [ht]
          have h2 : ∀ (s : Sym) (i : Nat), s.term = false → (s.n.toNat < N ∧ i ≤ n ∧ okK T M n size (reachN T size (A * (n + 1) + k)) s.n.toNat i) → symV S (ofF rules S M cap many (f0 + 1)) s i = symV S (ofF rules S M cap many (f + 1)) s i := fun s i ht hg => by
            unfold symV
            simp only [ht, Bool.false_eq_true, if_false]
            rw [ih _ _ hg.1 hg.2.1 (hg.2.2.mono (by omega)) f0 (by omega)]
          rw [listV_same (G := fun B j => B < N ∧ j ≤ n ∧ okK T M n size (reachN T size (A * (n + 1) + k)) B j) h1 h2 r.right k this]
        · rw [if_neg hl, if_neg hl]
/-- the number of trees, as the program reckons it -/
def valK (rules : List Rule) (S M : Nat → Nat → Bool) (cap many : Int) (size : Nat) (A k : Nat) : Int := ofF rules S M cap many (size + 2) A k
theorem valK_eq (hE : EndsK rules S M T N n size) {A k : Nat} (hA : A < N) (hk : k ≤ n) :
    valK rules S M cap many size A k = if S A k = false then 0 else if M A k then many else rules.foldl (fun sum r => if r.left = (A : Int) then min (IntKind.i64.wrap (sum + listV S cap (symV S (valK rules S M cap many size)) r.right k)) cap else sum) 0 := by
  unfold valK
  rw [ofF]
  by_cases hS : S A k = false
  · rw [if_pos hS, if_pos hS]
  · rw [if_neg hS, if_neg hS]
    by_cases hM : M A k = true
    · rw [if_pos hM, if_pos hM]
    · rw [if_neg hM, if_neg hM]
      have hM' : M A k = false := by simpa using hM
      refine foldl_same _ _ fun b r hr' => ?_
      by_cases hl : r.left = (A : Int)
      · rw [if_pos hl, if_pos hl]
        have h1 : ∀ (s : Sym) (i : Nat), s.term = true → symV S (ofF rules S M cap many (size + 1)) s i = symV S (fun A k => ofF rules S M cap many (size + 2) A k) s i := fun s i ht => by unfold symV; simp [ht]
        have h2 : ∀ (s : Sym) (i : Nat), s.term = false → (s.n.toNat < N ∧ i ≤ n ∧ okK T M n size (reachN T size (A * (n + 1) + k)) s.n.toNat i) → symV S (ofF rules S M cap many (size + 1)) s i = symV S (fun A k => ofF rules S M cap many (size + 2) A k) s i := fun s i ht hg => by
          have hs := reachN_le T size (A * (n + 1) + k)
          have e1 := ofF_stable (cap := cap) (many := many) hE (reachN T size (A * (n + 1) + k)) _ _ hg.1 hg.2.1 hg.2.2 size hs
          have e2 := ofF_stable (cap := cap) (many := many) hE (reachN T size (A * (n + 1) + k)) _ _ hg.1 hg.2.1 hg.2.2 (size + 1) (by omega)
          unfold symV
          simp only [ht, Bool.false_eq_true, if_false]
          rw [e1, e2]
        rw [listV_same (G := fun B j => B < N ∧ j ≤ n ∧ okK T M n size (reachN T size (A * (n + 1) + k)) B j) h1 h2 r.right k (hE A k r hA hk hM' hr' hl)]
      · rw [if_neg hl, if_neg hl]
theorem okK_all (f A k : Nat) (hf : size < f) : okK T M n size f A k := .inr (Nat.lt_of_le_of_lt (reachN_le _ _ _) hf)
end
end Cs
end Go.Proofs.Ytbnpemgmdnghgaa
namespace Go.Proofs.Ytbnpemgmdnghgaa
open Go.RowKit
namespace Cs

def updB (F : Nat → Nat → Bool) (a b : Nat) : Nat → Nat → Bool := fun k l => if k = a ∧ l = b then true else F k l
theorem updB_ge {F : Nat → Nat → Bool} {a b k l : Nat} (h : F k l = true) : updB F a b k l = true := by unfold updB; split; rfl; exact h
theorem updB_at (F : Nat → Nat → Bool) (a b : Nat) : updB F a b a b = true := by unfold updB; rw [if_pos ⟨rfl, rfl⟩]
/-- one place: rule r at length k, symbol i, of length j -/
def e1 (S : Nat → Nat → Bool) (n : Nat) (r : Rule) (k i : Nat) (F : Nat → Nat → Bool) (j : Nat) : Nat → Nat → Bool :=
  if (S ((r.right.getD i ⟨true, 0⟩).n.toNat) j && splitK S (r.right.take i) (r.right.drop (i + 1)) (k - j)) = true then updB F (r.left.toNat * (n + 1) + k) ((r.right.getD i ⟨true, 0⟩).n.toNat * (n + 1) + j) else F
def e2 (S : Nat → Nat → Bool) (n : Nat) (r : Rule) (k i : Nat) (F : Nat → Nat → Bool) (jm : Nat) : Nat → Nat → Bool := (List.range jm).foldl (e1 S n r k i) F
def e3 (S : Nat → Nat → Bool) (n : Nat) (r : Rule) (k : Nat) (F : Nat → Nat → Bool) (im : Nat) : Nat → Nat → Bool := (List.range im).foldl (fun F i => if (r.right.getD i ⟨true, 0⟩).term then F else e2 S n r k i F (k + 1)) F
def e4 (S : Nat → Nat → Bool) (n : Nat) (r : Rule) (F : Nat → Nat → Bool) (km : Nat) : Nat → Nat → Bool := (List.range km).foldl (fun F k => e3 S n r k F r.right.length) F
def e5 (S : Nat → Nat → Bool) (n : Nat) (l : List Rule) : Nat → Nat → Bool := l.foldl (fun F r => e4 S n r F (n + 1)) (fun _ _ => false)
theorem fold_ge {α β : Type} {P : β → Prop} {f : β → α → β} : ∀ (l : List α) (b : β), (∀ b a, P b → P (f b a)) → P b → P (l.foldl f b)
  | [], _, _, h => h
  | a :: l, b, hf, h => fold_ge l (f b a) hf (hf b a h)
theorem fold_hit {α β : Type} {P : β → Prop} {f : β → α → β} (hf : ∀ b a, P b → P (f b a)) : ∀ (l : List α) (b : β) (x : α), x ∈ l → (∀ b, P (f b x)) → P (l.foldl f b)
  | [], _, _, h, _ => by cases h
  | a :: l, b, x, h, hx => by
    rcases List.mem_cons.1 h with rfl | h
    · exact fold_ge l _ hf (hx b)
    · exact fold_hit hf l _ x h hx
section
variable {S : Nat → Nat → Bool} {n : Nat} {u v : Nat}
theorem e1_ge {r : Rule} {k i : Nat} (F : Nat → Nat → Bool) (j : Nat) (h : F u v = true) : e1 S n r k i F j u v = true := by unfold e1; split; exact updB_ge h; exact h
theorem e2_ge {r : Rule} {k i : Nat} (F : Nat → Nat → Bool) (jm : Nat) (h : F u v = true) : e2 S n r k i F jm u v = true := fold_ge (P := fun (F : Nat → Nat → Bool) => F u v = true) _ _ (fun (F : Nat → Nat → Bool) j h => e1_ge F j h) h
theorem e3_ge {r : Rule} {k : Nat} (F : Nat → Nat → Bool) (im : Nat) (h : F u v = true) : e3 S n r k F im u v = true := fold_ge (P := fun (F : Nat → Nat → Bool) => F u v = true) _ _ (fun (F : Nat → Nat → Bool) i h => by show (if _ then F else e2 S n r k i F (k + 1)) u v = true; split; exact h; exact e2_ge F _ h) h
theorem e4_ge {r : Rule} (F : Nat → Nat → Bool) (km : Nat) (h : F u v = true) : e4 S n r F km u v = true := fold_ge (P := fun (F : Nat → Nat → Bool) => F u v = true) _ _ (fun (F : Nat → Nat → Bool) k h => e3_ge F _ h) h
/-- all edges are there -/
theorem e5_hit {l : List Rule} {r : Rule} {k i j : Nat} {s : Sym} (hr : r ∈ l) (hk : k ≤ n) (hi : r.right[i]? = some s) (ht : s.term = false) (hj : j ≤ k) (hS : S s.n.toNat j = true) (hsp : splitK S (r.right.take i) (r.right.drop (i + 1)) (k - j) = true) :
    e5 S n l (r.left.toNat * (n + 1) + k) (s.n.toNat * (n + 1) + j) = true := by
  have hg : r.right.getD i ⟨true, 0⟩ = s := by rw [List.getD_eq_getElem?_getD, hi]; rfl
  have hil := (List.getElem?_eq_some_iff.1 hi).1
  unfold e5
  refine fold_hit (P := fun (F : Nat → Nat → Bool) => F (r.left.toNat * (n + 1) + k) (s.n.toNat * (n + 1) + j) = true) (fun F r' h => e4_ge F _ h) l _ r hr fun F => ?_
  unfold e4
  refine fold_hit (P := fun (F : Nat → Nat → Bool) => F (r.left.toNat * (n + 1) + k) (s.n.toNat * (n + 1) + j) = true) (fun F k' h => e3_ge F _ h) _ _ k (List.mem_range.2 (by omega)) fun F => ?_
  unfold e3
  refine fold_hit (P := fun (F : Nat → Nat → Bool) => F (r.left.toNat * (n + 1) + k) (s.n.toNat * (n + 1) + j) = true) (fun F i' h => by show (if _ then F else e2 S n r k i' F (k + 1)) _ _ = true; split; exact h; exact e2_ge F _ h) _ _ i (List.mem_range.2 hil) fun F => ?_
  rw [hg, ht]
  simp only [Bool.false_eq_true, if_false]
  unfold e2
  refine fold_hit (P := fun (F : Nat → Nat → Bool) => F (r.left.toNat * (n + 1) + k) (s.n.toNat * (n + 1) + j) = true) (fun F j' h => e1_ge F _ h) _ _ j (List.mem_range.2 (by omega)) fun F => ?_
  unfold e1
  rw [hg, hS, hsp]
  exact updB_at _ _ _
end
/-- which nodes have infinitely many trees -/
def sizeK (N n : Nat) : Nat := N * (n + 1)
def clK (rules : List Rule) (S : Nat → Nat → Bool) (N n : Nat) : Nat → Nat → Bool := clo (sizeK N n) (e5 S n rules)
def MK (rules : List Rule) (S : Nat → Nat → Bool) (N n : Nat) : Nat → Nat → Bool := fun A k => manyK (clK rules S N n) (sizeK N n) (A * (n + 1) + k)
theorem node_lt {N n A k : Nat} (hA : A < N) (hk : k ≤ n) : A * (n + 1) + k < sizeK N n := by
  unfold sizeK
  have : (A + 1) * (n + 1) ≤ N * (n + 1) := Nat.mul_le_mul_right _ hA
  rw [Nat.add_mul, Nat.one_mul] at this
  omega
theorem ends_MK {rules : List Rule} {S : Nat → Nat → Bool} {N n : Nat} (hok : ∀ r ∈ rules, ∀ s ∈ r.right, s.term = false → 0 ≤ s.n ∧ s.n.toNat < N) : EndsK rules S (MK rules S N n) (clK rules S N n) N n (sizeK N n) := by
  intro A k r hA hk hM hr hl p s i a hp ht hS ha h1 h2
  have hs := hok r hr s (List.mem_of_getElem? hp) ht
  have hin : i ≤ n := by omega
  refine ⟨hs.2, hin, ?_⟩
  have hu := node_lt (N := N) hA hk
  have hv := node_lt (N := N) hs.2 hin
  have hsp : splitK S (r.right.take p) (r.right.drop (p + 1)) (k - i) = true := splitK_iff.2 ⟨a, by omega, h1, by rw [show k - i - a = k - a - i by omega]; exact h2⟩
  have hedge := e5_hit (n := n) hr hk hp ht (show i ≤ k by omega) hS hsp
  rw [hl, Int.toNat_natCast] at hedge
  have hT : clK rules S N n (A * (n + 1) + k) (s.n.toNat * (n + 1) + i) = true := clo_edge hu hv hedge
  have hvv := manyK_not hM hv (.inr hT)
  exact .inr (reachN_lt clo_trans hT hv hvv)

/-- a pass over the table of lengths -/
def p1 (r : Rule) (st : (Nat → Nat → Bool) × Bool) (k : Nat) : (Nat → Nat → Bool) × Bool := if (!st.1 r.left.toNat k && canK st.1 r.right k) = true then (updB st.1 r.left.toNat k, true) else st
def p2 (n : Nat) (st : (Nat → Nat → Bool) × Bool) (r : Rule) : (Nat → Nat → Bool) × Bool := (List.range (n + 1)).foldl (p1 r) st
def p3 (n : Nat) (l : List Rule) (S : Nat → Nat → Bool) : (Nat → Nat → Bool) × Bool := l.foldl (p2 n) (S, false)
def itP (n : Nat) (l : List Rule) : Nat → (Nat → Nat → Bool) → (Nat → Nat → Bool)
  | 0, S => S
  | m + 1, S => itP n l m (p3 n l S).1
/-- the table when the passes end -/
def Done (n : Nat) (l : List Rule) (S : Nat → Nat → Bool) : Prop := ∃ m S0, (∀ a k, S0 a k = false) ∧ S = itP n l m S0 ∧ (p3 n l S).2 = false
end Cs
end Go.Proofs.Ytbnpemgmdnghgaa
namespace Go.Proofs.Ytbnpemgmdnghgaa
open Go.RowKit

theorem made_at (z : Value) (n j : Nat) (h : j < n) : (madeCells #[z] n)[j]? = some z := by
  simp [madeCells, h, Nat.mod_one]

theorem cell_set_off {w : World} {b j j' : Nat} {v : Value} (x : Value) (h : w.cell? ⟨b, j', none⟩ = some v) (hne : ¬ j = j') : (w.setCell ⟨b, j, none⟩ x).cell? ⟨b, j', none⟩ = some v := by
  unfold World.cell? at h ⊢
  cases e : w.heap[b]? with
  | none => simp [e] at h
  | some o =>
    simp only [e] at h
    simp only [World.setCell, Array.getElem?_modify, e, if_true, Option.map_some]
    cases o <;> simp_all [Array.getElem?_setIfInBounds]

/-- rows lo .. n of the table in block bt are there: row k in block rb k, of m + 1 numbers -/
structure Tab (B bt n m : Nat) (rb : Nat → Nat) (lo : Nat) (val : Nat → Nat → Int) (wr : World) : Prop where
  tb : ∃ cs, wr.heap[bt]? = some (.cells cs 33 (0, 0)) ∧ cs.size = n + 1 ∧ ∀ k, lo ≤ k → k ≤ n → cs[k]? = some (.slice (some ⟨rb k, 0, none⟩) (m + 1) (m + 1))
  row : ∀ k, lo ≤ k → k ≤ n → ∃ cs, wr.heap[rb k]? = some (.cells cs 3 (0, 0)) ∧ cs.size = m + 1 ∧ ∀ j, j ≤ m → cs[j]? = some (.int .i64 (val k j))
  inj : ∀ k k', lo ≤ k → k ≤ n → lo ≤ k' → k' ≤ n → rb k = rb k' → k = k'
  ne : ∀ k, lo ≤ k → k ≤ n → rb k ≠ bt ∧ B ≤ rb k
  bB : B ≤ bt
section
variable {B bt n m : Nat} {rb : Nat → Nat} {lo : Nat} {val : Nat → Nat → Int} {wr w' : World}
theorem Tab.keep (h : Tab B bt n m rb lo val wr) (hb : Below wr.heap.size wr w') : Tab B bt n m rb lo val w' := by
  obtain ⟨⟨cs, h1, h2, h3⟩, h4, h5, h6, h7⟩ := h
  refine ⟨⟨cs, bx_keep h1 hb, h2, h3⟩, fun k hk hn => ?_, h5, h6, h7⟩
  obtain ⟨rs, r1, r2⟩ := h4 k hk hn
  exact ⟨rs, bx_keep r1 hb, r2⟩
theorem Tab.grown {row : Option Nat} (h : Tab B bt n m rb lo val wr) (hg : wr.grownBy w' row) (hr : ∀ k, row = some k → k ≠ bt ∧ ∀ i, lo ≤ i → i ≤ n → rb i ≠ k) : Tab B bt n m rb lo val w' := by
  obtain ⟨⟨cs, h1, h2, h3⟩, h4, h5, h6, h7⟩ := h
  refine ⟨⟨cs, ?_, h2, h3⟩, fun k hk hn => ?_, h5, h6, h7⟩
  · rw [hg.block bt (Array.getElem?_eq_some_iff.1 h1).1 (fun e => (hr bt e.symm).1 rfl)]; exact h1
  · obtain ⟨rs, r1, r2⟩ := h4 k hk hn
    refine ⟨rs, ?_, r2⟩
    rw [hg.block (rb k) (Array.getElem?_eq_some_iff.1 r1).1 (fun e => (hr _ e.symm).2 k hk hn rfl)]; exact r1
theorem Tab.hdr (h : Tab B bt n m rb lo val wr) {k : Nat} (hk : lo ≤ k) (hn : k ≤ n) : wr.cell? ⟨bt, k, none⟩ = some (.slice (some ⟨rb k, 0, none⟩) (m + 1) (m + 1)) := by
  obtain ⟨cs, h1, h2, h3⟩ := h.tb
  simp [World.cell?, h1, h3 k hk hn]
theorem Tab.cell (h : Tab B bt n m rb lo val wr) {k j : Nat} (hk : lo ≤ k) (hn : k ≤ n) (hj : j ≤ m) : wr.cell? ⟨rb k, j, none⟩ = some (.int .i64 (val k j)) := by
  obtain ⟨cs, h1, h2, h3⟩ := h.row k hk hn
  simp [World.cell?, h1, h3 j hj]
theorem Tab.free (h : Tab B bt n m rb lo val wr) {k : Nat} (hk : lo ≤ k) (hn : k ≤ n) (j : Nat) : wr.frozen? ⟨rb k, j, none⟩ = false := by
  obtain ⟨cs, h1, h2, h3⟩ := h.row k hk hn
  simp [World.frozen?, h1]
theorem Tab.lt (h : Tab B bt n m rb lo val wr) : bt < wr.heap.size := by
  obtain ⟨cs, h1, _⟩ := h.tb
  exact (Array.getElem?_eq_some_iff.1 h1).1
theorem Tab.rlt (h : Tab B bt n m rb lo val wr) {k : Nat} (hk : lo ≤ k) (hn : k ≤ n) : rb k < wr.heap.size := by
  obtain ⟨cs, h1, _⟩ := h.row k hk hn
  exact (Array.getElem?_eq_some_iff.1 h1).1
/-- a number stored -/
theorem Tab.set (h : Tab B bt n m rb lo val wr) {i j : Nat} (hi : lo ≤ i) (hin : i ≤ n) (hj : j ≤ m) (x : Int) : Tab B bt n m rb lo (fun k l => if k = i ∧ l = j then x else val k l) (wr.setCell ⟨rb i, j, none⟩ (.int .i64 x)) := by
  obtain ⟨⟨cs, h1, h2, h3⟩, h4, h5, h6, h7⟩ := h
  refine ⟨⟨cs, bx_other h1 (fun e => (h6 i hi hin).1 e.symm) _ _, h2, h3⟩, fun k hk hn => ?_, h5, h6, h7⟩
  obtain ⟨rs, r1, r2, r3⟩ := h4 k hk hn
  by_cases e : k = i
  · subst e
    refine ⟨rs.setIfInBounds j (.int .i64 x), bx_set r1 _ _, by simpa using r2, fun l hl => ?_⟩
    rw [Array.getElem?_setIfInBounds]
    by_cases e2 : j = l
    · subst e2
      rw [if_pos rfl, if_pos (by omega)]; simp
    · rw [if_neg e2, r3 l hl]
      simp [show ¬ l = j from fun h => e2 h.symm]
  · refine ⟨rs, bx_other r1 (fun e2 => e (h5 k i hk hn hi hin e2)) _ _, r2, fun l hl => ?_⟩
    rw [r3 l hl]; simp [e]
/-- a new row: laid, and its header stored -/
theorem Tab.add {i : Nat} (h : Tab B bt n m rb (i + 1) val wr) (hi : i ≤ n) (hB : B ≤ wr.heap.size) :
    Tab B bt n m (fun k => if k = i then wr.heap.size else rb k) i (fun k l => if k = i then 0 else val k l) ((wr.alloc (.cells (madeCells #[.int .i64 0] (m + 1)) 3)).setCell ⟨bt, i, none⟩ (.slice (some ⟨wr.heap.size, 0, none⟩) (m + 1) (m + 1))) := by
  have hbt := h.lt
  have hrl := fun k hk hn => h.rlt (k := k) hk hn
  obtain ⟨⟨cs, h1, h2, h3⟩, h4, h5, h6, h7⟩ := h
  have hba : Below wr.heap.size wr (wr.alloc (.cells (madeCells #[.int .i64 0] (m + 1)) 3)) := (Below.refl _ _).alloc (Nat.le_refl _) _
  refine ⟨⟨cs.setIfInBounds i (.slice (some ⟨wr.heap.size, 0, none⟩) (m + 1) (m + 1)), bx_set (bx_keep h1 hba) _ _, by simpa using h2, fun k hk hn => ?_⟩, fun k hk hn => ?_, fun k k' hk hn hk' hn' e => ?_, fun k hk hn => ?_, h7⟩
  · rw [Array.getElem?_setIfInBounds]
    by_cases e : i = k
    · subst e
      rw [if_pos rfl, if_pos (by omega)]; simp
    · rw [if_neg e, h3 k (by omega) hn]
      simp [show ¬ k = i from fun h => e h.symm]
  · by_cases e : k = i
    · subst e
      refine ⟨madeCells #[.int .i64 0] (m + 1), ?_, size_madeCells _ _, fun j hj => ?_⟩
      · simp only [if_true]
        exact bx_other (bx_new _ _ _ rfl) (by omega) _ _
      · rw [made_at _ _ _ (by omega)]; simp
    · obtain ⟨rs, r1, r2, r3⟩ := h4 k (by omega) hn
      refine ⟨rs, ?_, r2, fun j hj => by rw [r3 j hj]; simp [e]⟩
      simp only [e, if_false]
      exact bx_other (bx_keep r1 hba) (h6 k (by omega) hn).1 _ _
  · by_cases e1 : k = i <;> by_cases e2 : k' = i <;> simp only [e1, e2, if_true, if_false] at e ⊢
    · have := hrl k' (by omega) hn'; omega
    · have := hrl k (by omega) hn; omega
    · exact h5 k k' (by omega) hn (by omega) hn' e
  · by_cases e : k = i
    · subst e; simp only [if_true]; omega
    · simp only [e, if_false]; exact h6 k (by omega) hn
theorem Tab.eq {val' : Nat → Nat → Int} (h : Tab B bt n m rb lo val wr) (he : ∀ k j, lo ≤ k → k ≤ n → j ≤ m → val k j = val' k j) : Tab B bt n m rb lo val' wr := by
  obtain ⟨h1, h4, h5, h6, h7⟩ := h
  refine ⟨h1, fun k hk hn => ?_, h5, h6, h7⟩
  obtain ⟨rs, r1, r2, r3⟩ := h4 k hk hn
  exact ⟨rs, r1, r2, fun j hj => by rw [r3 j hj, he k j hk hn hj]⟩
end
/-- nothing there yet -/
theorem Tab.none' {B n m : Nat} {rb : Nat → Nat} {val : Nat → Nat → Int} (w : World) (hB : B ≤ w.heap.size) : Tab B w.heap.size n m rb (n + 1) val (w.alloc (.cells (madeCells #[.slice none 0 0] (n + 1)) 33)) :=
  ⟨⟨_, bx_new _ _ _ rfl, size_madeCells _ _, fun k hk hn => by omega⟩, fun k hk hn => by omega, fun k k' hk hn => by omega, fun k hk hn => by omega, hB⟩
end Go.Proofs.Ytbnpemgmdnghgaa
namespace Go.Proofs.Ytbnpemgmdnghgaa
open Go.RowKit

mutual
theorem Rd.ones {S : Nat → Prop} {w : World} : ∀ (d : D) (cs : List Value), Rd S w d cs → ∀ u ∈ cs, u.oneCell' = true
  | .int n, cs, h => by simp [Rd] at h; subst h; simp [Value.oneCell']
  | .bool n, cs, h => by simp [Rd] at h; subst h; simp [Value.oneCell']
  | .str n, cs, h => by simp [Rd] at h; subst h; simp [Value.oneCell']
  | .sl ds, cs, h => by obtain ⟨a, cap, L, rfl, _⟩ := h; simp [Value.oneCell']
  | .agg ds, cs, h => RdAll.ones ds cs h
theorem RdAll.ones {S : Nat → Prop} {w : World} : ∀ (ds : List D) (cs : List Value), RdAll S w ds cs → ∀ u ∈ cs, u.oneCell' = true
  | [], cs, h => by simp [RdAll] at h; subst h; simp
  | d :: ds, cs, h => by
    obtain ⟨c1, c2, rfl, h1, h2⟩ := h
    intro u hu
    rcases List.mem_append.1 hu with hu | hu
    · exact Rd.ones d c1 h1 u hu
    · exact RdAll.ones ds c2 h2 u hu
end

/-- append of a slice of data to a row of the call's own -/
theorem wp_appD {P : Program} {ops : Array Oper} {rest : List Oper} {o : Oper} {a : Act} {Q : Exit → Act → World → Prop} {w : World} {t e : TypeId} {size bytes : Nat} (E : ElemT P t e size bytes)
    (hgd : o.guard = none) (s x : Operand) (ho : o.op = .call { callee := .builtin .append, args := #[s, x], argTypes := #[t, t] })
    {B : Nat} {v u : Value} {n : Nat} {xs : List Value} {S : Nat → Prop} {ds : List D} (hown : w.ownsRow B e size v n xs) (hs : a.eval s = v) (hsl : Rd S w (.sl ds) [u]) (hx : a.eval x = u) (hk : ∀ d ∈ ds, d.cells = size)
    (hb : (n + ds.length) * bytes ≤ 140737488355328) (hm : n + ds.length ≤ maxLen) (hB : B ≤ w.heap.size)
    (h : ∀ v' w' L, RdAll S w ds L → w'.ownsRow B e size v' (n + ds.length) (xs ++ L) → w.grownBy w' v.ownBlock → (v'.ownBlock = v.ownBlock ∨ ∃ k, v'.ownBlock = some k ∧ w.heap.size ≤ k) → wpList P ops Q rest (a.put o.dst v') w') :
    wpList P ops Q (o :: rest) a w := by
  obtain ⟨hu, ⟨i, z, hi, hz, hsz, hby, hzs⟩, hp⟩ := E
  obtain ⟨a', cap, L, e1, hl, hc, hn, hcell, hd⟩ := hsl
  simp at e1
  subst e1
  have hL : L.length = ds.length * size := by rw [RdAll.len _ _ hd, cellsAll_eq hk]
  cases a' with
  | none =>
    obtain rfl : cap = 0 := hn rfl
    have h0 : ds.length = 0 := by omega
    have hL0 : L = [] := List.eq_nil_of_length_eq_zero (by rw [hL, h0]; simp)
    subst hL0
    rw [h0] at hx
    refine wpList_append_own_none hgd s x t ho B e i size hu hi v n xs hs hown hx (h v w [] hd (by simpa [h0] using hown) ?_ (.inl rfl))
    exact ⟨rfl, rfl, rfl, Nat.le_refl _, fun _ _ _ => rfl⟩
  | some ad =>
    refine wpList_append_own_at w hgd s x t ho B e i z size bytes hu hi hz hsz hby hzs hp v n xs hs hown ad ds.length cap L hx hL ?_ (RdAll.ones _ _ hd) hm hb hB fun v' w' h2 h3 _ h5 => h v' w' L hd h2 h3 (h5.imp id fun e => ⟨_, e, Nat.le_refl _⟩)
    intro j y hj
    obtain ⟨hj1, hj2⟩ := List.getElem?_eq_some_iff.1 hj
    obtain ⟨y', hy, _, h2⟩ := hcell j hj1
    cases hy
    rw [h2, hj2]

/-- append of what lies in one block, at a step of a region that draws its order -/
theorem step_appB {P : Program} {ops : Array Oper} {o : Oper} {a : Act} {K : Act → World → Prop} {Q : Exit → Act → World → Prop} {E' : Prop} {w0 : World} {t e : TypeId} {size bytes : Nat} (E : ElemT P t e size bytes)
    (hgd : o.guard = none) (s x : Operand) (ho : o.op = .call { callee := .builtin .append, args := #[s, x], argTypes := #[t, t] })
    {B : Nat} {v : Value} {n : Nat} {xs : List Value} {news : Array Value} (hown : w0.ownsRow B e size v n xs) (hs : a.eval s = v) {g0 : Nat} (hx : a.eval x = .slice (some ⟨g0, 0, none⟩) 1 1) (hg0 : w0.heap[g0]? = some (.cells news e (0, 0)))
    (hn : news.size = size) (h1 : news.toList.all Value.oneCell' = true) (hb : (n + 1) * bytes ≤ 140737488355328) (hm : n + 1 ≤ maxLen) (hB : B ≤ w0.heap.size)
    (h : ∀ g cap w', w'.ownsRow B e size (.slice (some ⟨g, 0, none⟩) (n + 1) cap) (n + 1) (xs ++ news.toList) → w0.grownBy w' v.ownBlock → (v.ownBlock = some g ∨ g = w0.heap.size) → g < w'.heap.size → K (a.put o.dst (.slice (some ⟨g, 0, none⟩) (n + 1) cap)) w') :
    if Region.wanted o (yielded ops a.tmps) = true then Oper.wp P o a w0 K Q else E' := by
  obtain ⟨hu, ⟨i, z, hi, hz, hsz, hby, hzs⟩, hp⟩ := E
  exact step_append_lies w0 hgd s x t ho B e i z size bytes hu hi hz hsz hby hzs hp v n xs hs hown ⟨g0, 0, none⟩ 1 1 news.toList hx (by simp [hn]) (World.news_of_block hg0) (List.all_eq_true.1 h1) (by omega) hm hb hB w0.heap.size rfl h

/-- append of a slice of data, not empty, at a step of a region that draws its order -/
theorem step_appD {P : Program} {ops : Array Oper} {o : Oper} {a : Act} {K : Act → World → Prop} {Q : Exit → Act → World → Prop} {E' : Prop} {w : World} {t e : TypeId} {size bytes : Nat} (E : ElemT P t e size bytes)
    (hgd : o.guard = none) (s x : Operand) (ho : o.op = .call { callee := .builtin .append, args := #[s, x], argTypes := #[t, t] })
    {B : Nat} {v u : Value} {n : Nat} {xs : List Value} {S : Nat → Prop} {ds : List D} (hown : w.ownsRow B e size v n xs) (hs : a.eval s = v) (hsl : Rd S w (.sl ds) [u]) (hx : a.eval x = u) (hk : ∀ d ∈ ds, d.cells = size) (h0 : 0 < ds.length)
    (hb : (n + ds.length) * bytes ≤ 140737488355328) (hm : n + ds.length ≤ maxLen) (hB : B ≤ w.heap.size)
    (h : ∀ g cap w' L, RdAll S w ds L → w'.ownsRow B e size (.slice (some ⟨g, 0, none⟩) (n + ds.length) cap) (n + ds.length) (xs ++ L) → w.grownBy w' v.ownBlock → (v.ownBlock = some g ∨ g = w.heap.size) → g < w'.heap.size → K (a.put o.dst (.slice (some ⟨g, 0, none⟩) (n + ds.length) cap)) w') :
    if Region.wanted o (yielded ops a.tmps) = true then Oper.wp P o a w K Q else E' := by
  obtain ⟨hu, ⟨i, z, hi, hz, hsz, hby, hzs⟩, hp⟩ := E
  obtain ⟨a', cap, L, e1, hl, hc, hn, hcell, hd⟩ := hsl
  simp at e1
  subst e1
  have hL : L.length = ds.length * size := by rw [RdAll.len _ _ hd, cellsAll_eq hk]
  cases a' with
  | none => have := hn rfl; omega
  | some ad =>
    refine step_append_lies w hgd s x t ho B e i z size bytes hu hi hz hsz hby hzs hp v n xs hs hown ad ds.length cap L hx hL ?_ (RdAll.ones _ _ hd) h0 hm hb hB w.heap.size rfl fun g cap w' h2 h3 h4 h5 => h g cap w' L hd h2 h3 h4 h5
    intro j y hj
    obtain ⟨hj1, hj2⟩ := List.getElem?_eq_some_iff.1 hj
    obtain ⟨y', hy, _, h2⟩ := hcell j hj1
    cases hy
    rw [h2, hj2]
theorem at_lies {v : Value} {g H n cap : Nat} (h : v.ownBlock = some g ∨ g = H) : (Value.slice (some ⟨g, 0, none⟩) n cap).ownBlock = v.ownBlock ∨ ∃ k, (Value.slice (some ⟨g, 0, none⟩) n cap).ownBlock = some k ∧ H ≤ k := by
  rcases h with h | h
  · exact .inl h.symm
  · exact .inr ⟨g, rfl, by omega⟩

/-- a row of data of the call's own, in blocks of S, and beside the row's own block -/
structure RowD (S : Nat → Prop) (B : Nat) (e : TypeId) (size : Nat) (ds : List D) (v : Value) (wr : World) : Prop where
  own : ∃ xs, wr.ownsRow B e size v ds.length xs ∧ RdAll (fun k => S k ∧ v.ownBlock ≠ some k) wr ds xs
  le : B ≤ wr.heap.size
theorem RowD.keep {S : Nat → Prop} {B : Nat} {e : TypeId} {size : Nat} {ds : List D} {v : Value} {wr w' : World} (h : RowD S B e size ds v wr) (hb : Below wr.heap.size wr w') : RowD S B e size ds v w' := by
  obtain ⟨⟨xs, h1, h2⟩, h3⟩ := h
  exact ⟨⟨xs, own_keep h1 hb, h2.below hb⟩, Nat.le_trans h3 hb.size⟩
theorem RowD.form {S : Nat → Prop} {B : Nat} {e : TypeId} {size : Nat} {ds : List D} {v : Value} {wr : World} (h : RowD S B e size ds v wr) : ∃ a cap, v = .slice a ds.length cap ∧ ds.length ≤ cap ∧ cap ≤ maxLen ∧ ∀ k, v.ownBlock = some k → B ≤ k ∧ k < wr.heap.size := by
  obtain ⟨⟨xs, h1, h2⟩, h3⟩ := h
  obtain ⟨a, cap, rfl, e1, e2⟩ := own_len h1
  exact ⟨a, cap, rfl, e1, e2, h1.lt⟩
theorem RowD.rd {S : Nat → Prop} {B : Nat} {e : TypeId} {size : Nat} {ds : List D} {v : Value} {wr : World} (h : RowD S B e size ds v wr) : Rd (fun k => S k ∨ B ≤ k) wr (.sl ds) [v] := by
  obtain ⟨⟨xs, h1, h2⟩, h3⟩ := h
  exact rd_of_own h1 (h2.mono fun k hk _ => .inl hk.1) rfl (fun k e => .inr (h1.lt k e).1)
theorem RowD.nil (S : Nat → Prop) (B : Nat) (e : TypeId) (size : Nat) (w : World) (h : B ≤ w.heap.size) : RowD S B e size [] (.slice none 0 0) w := ⟨⟨[], World.ownsRow_nil _ _ _ _, by simp [RdAll]⟩, h⟩
/-- behind an append: W0: before it -/
theorem RowD.step {S T : Nat → Prop} {B : Nat} {e : TypeId} {size : Nat} {ds es : List D} {v v' : Value} {W0 W1 : World} {xs news : List Value} {n : Nat} (h1 : W0.ownsRow B e size v n xs) (h2 : RdAll (fun k => S k ∧ v.ownBlock ≠ some k) W0 ds xs) (hn : n = ds.length)
    (hp : RdAll T W0 es news) (hT : ∀ k, T k → k < W0.heap.size → S k ∧ v.ownBlock ≠ some k) (hB : B ≤ W0.heap.size)
    (ho : W1.ownsRow B e size v' (n + es.length) (xs ++ news)) (hg : W0.grownBy W1 v.ownBlock) (hat : v'.ownBlock = v.ownBlock ∨ ∃ k, v'.ownBlock = some k ∧ W0.heap.size ≤ k) : RowD S B e size (ds ++ es) v' W1 := by
  subst hn
  exact ⟨⟨xs ++ news, by rw [List.length_append]; exact ho, own_step h2 (hp.mono hT) hg hat⟩, Nat.le_trans hB hg.size⟩
end Go.Proofs.Ytbnpemgmdnghgaa
namespace Go.Proofs.Ytbnpemgmdnghgaa
open Go.RowKit
namespace Cs

/-- a table of N rows of M one-cell values; all of it in blocks from lo on, below hi -/
structure Tb (te : TypeId) (lo hi bt N M : Nat) (rb : Nat → Nat) (val : Nat → Nat → Value) (W : World) : Prop where
  hdr : ∃ cs T, W.heap[bt]? = some (.cells cs T (0, 0)) ∧ ∀ a, a < N → cs[a]? = some (.slice (some ⟨rb a, 0, none⟩) M M)
  row : ∀ a, a < N → ∃ cs, W.heap[rb a]? = some (.cells cs te (0, 0)) ∧ cs.size = M ∧ ∀ k, k < M → cs[k]? = some (val a k)
  inj : ∀ a b, a < N → b < N → rb a = rb b → a = b
  ne : ∀ a, a < N → rb a ≠ bt ∧ lo ≤ rb a ∧ rb a < hi
  pl : lo ≤ bt ∧ bt < hi
section
variable {te : TypeId} {lo hi bt N M : Nat} {rb : Nat → Nat} {val : Nat → Nat → Value} {W W' : World}
theorem Tb.other (h : Tb te lo hi bt N M rb val W) (hs : ∀ k, lo ≤ k → k < hi → W'.heap[k]? = W.heap[k]?) : Tb te lo hi bt N M rb val W' := by
  obtain ⟨⟨cs, T, h1, h2⟩, h3, h4, h5, h6⟩ := h
  refine ⟨⟨cs, T, by rw [hs bt h6.1 h6.2]; exact h1, h2⟩, fun a ha => ?_, h4, h5, h6⟩
  obtain ⟨rs, r1, r2⟩ := h3 a ha
  exact ⟨rs, by rw [hs _ (h5 a ha).2.1 (h5 a ha).2.2]; exact r1, r2⟩
theorem Tb.keep (h : Tb te lo hi bt N M rb val W) (hh : hi ≤ W.heap.size) (hb : Below W.heap.size W W') : Tb te lo hi bt N M rb val W' := h.other fun k _ h2 => hb.block k (by omega)
theorem Tb.head (h : Tb te lo hi bt N M rb val W) {a : Nat} (ha : a < N) : W.cell? ⟨bt, a, none⟩ = some (.slice (some ⟨rb a, 0, none⟩) M M) := by
  obtain ⟨cs, T, h1, h2⟩ := h.hdr
  simp [World.cell?, h1, h2 a ha]
theorem Tb.cell (h : Tb te lo hi bt N M rb val W) {a k : Nat} (ha : a < N) (hk : k < M) : W.cell? ⟨rb a, k, none⟩ = some (val a k) := by
  obtain ⟨cs, h1, h2, h3⟩ := h.row a ha
  simp [World.cell?, h1, h3 k hk]
theorem Tb.free (h : Tb te lo hi bt N M rb val W) {a : Nat} (ha : a < N) (k : Nat) : W.frozen? ⟨rb a, k, none⟩ = false := by
  obtain ⟨cs, h1, h2, h3⟩ := h.row a ha
  simp [World.frozen?, h1]
theorem Tb.set (h : Tb te lo hi bt N M rb val W) {a k : Nat} (ha : a < N) (hk : k < M) (x : Value) : Tb te lo hi bt N M rb (fun b l => if b = a ∧ l = k then x else val b l) (W.setCell ⟨rb a, k, none⟩ x) := by
  obtain ⟨⟨cs, T, h1, h2⟩, h3, h4, h5, h6⟩ := h
  refine ⟨⟨cs, T, bx_other h1 (fun e => (h5 a ha).1 e.symm) _ _, h2⟩, fun b hb => ?_, h4, h5, h6⟩
  obtain ⟨rs, r1, r2, r3⟩ := h3 b hb
  by_cases e : b = a
  · subst e
    refine ⟨rs.setIfInBounds k x, bx_set r1 _ _, by simpa using r2, fun l hl => ?_⟩
    rw [Array.getElem?_setIfInBounds]
    by_cases e2 : k = l
    · subst e2
      rw [if_pos rfl, if_pos (by omega)]; simp
    · rw [if_neg e2, r3 l hl]
      simp [show ¬ l = k from fun h => e2 h.symm]
  · refine ⟨rs, bx_other r1 (fun e2 => e (h4 b a hb ha e2)) _ _, r2, fun l hl => ?_⟩
    rw [r3 l hl]; simp [e]
theorem Tb.eq {val' : Nat → Nat → Value} (h : Tb te lo hi bt N M rb val W) (he : ∀ a k, a < N → k < M → val a k = val' a k) : Tb te lo hi bt N M rb val' W := by
  obtain ⟨h1, h3, h4, h5, h6⟩ := h
  refine ⟨h1, fun a ha => ?_, h4, h5, h6⟩
  obtain ⟨rs, r1, r2, r3⟩ := h3 a ha
  exact ⟨rs, r1, r2, fun k hk => by rw [r3 k hk, he a k ha hk]⟩
theorem Tb.wide {lo' hi' : Nat} (h : Tb te lo hi bt N M rb val W) (h1 : lo' ≤ lo) (h2 : hi ≤ hi') : Tb te lo' hi' bt N M rb val W :=
  ⟨h.hdr, h.row, h.inj, fun a ha => ⟨(h.ne a ha).1, Nat.le_trans h1 (h.ne a ha).2.1, Nat.lt_of_lt_of_le (h.ne a ha).2.2 h2⟩, Nat.le_trans h1 h.pl.1, Nat.lt_of_lt_of_le h.pl.2 h2⟩
end
/-- while it is made: the rows so far, their headers in a row of the call's own -/
structure TbI (te tr : TypeId) (B M : Nat) (x : Value) (L : List Nat) (v : Value) (W : World) : Prop where
  own : W.ownsRow B tr 1 v L.length (L.map fun b => .slice (some ⟨b, 0, none⟩) M M)
  rows : ∀ b ∈ L, B ≤ b ∧ b < W.heap.size ∧ v.ownBlock ≠ some b ∧ ∃ cs, W.heap[b]? = some (.cells cs te (0, 0)) ∧ cs.size = M ∧ ∀ k, k < M → cs[k]? = some x
  nd : L.Nodup
  le : B ≤ W.heap.size
section
variable {te tr : TypeId} {B M : Nat} {x : Value} {L : List Nat} {v : Value} {W W' : World}
theorem TbI.nil (te tr : TypeId) (B M : Nat) (x : Value) (W : World) (h : B ≤ W.heap.size) : TbI te tr B M x [] (.slice none 0 0) W := ⟨World.ownsRow_nil _ _ _ _, (fun b hb => by cases hb), List.nodup_nil, h⟩
theorem TbI.keep (h : TbI te tr B M x L v W) (hb : Below W.heap.size W W') : TbI te tr B M x L v W' := by
  obtain ⟨h1, h2, h3, h4⟩ := h
  refine ⟨own_keep h1 hb, fun b hb' => ?_, h3, Nat.le_trans h4 hb.size⟩
  obtain ⟨k1, k2, k3, cs, k4, k5⟩ := h2 b hb'
  exact ⟨k1, Nat.lt_of_lt_of_le k2 hb.size, k3, cs, bx_keep k4 hb, k5⟩
/-- a row is added: it was laid in block g, filled -/
theorem TbI.add {g : Nat} {v' : Value} {cs : Array Value} (h : TbI te tr B M x L v W) (hg : W.heap[g]? = some (.cells cs te (0, 0))) (hc : cs.size = M) (hx : ∀ k, k < M → cs[k]? = some x) (hgB : B ≤ g) (hgv : v.ownBlock ≠ some g) (hgL : g ∉ L)
    (ho : W'.ownsRow B tr 1 v' (L.length + 1) ((L.map fun b => .slice (some ⟨b, 0, none⟩) M M) ++ [.slice (some ⟨g, 0, none⟩) M M])) (hgr : W.grownBy W' v.ownBlock) (hat : v'.ownBlock = v.ownBlock ∨ ∃ k, v'.ownBlock = some k ∧ W.heap.size ≤ k) : TbI te tr B M x (L ++ [g]) v' W' := by
  obtain ⟨h1, h2, h3, h4⟩ := h
  have hv' : ∀ b, b < W.heap.size → v.ownBlock ≠ some b → v'.ownBlock ≠ some b := by
    intro b hb hv
    rcases hat with e | ⟨j, e, hj⟩
    · rw [e]; exact hv
    · rw [e]; intro e; cases e; omega
  have hgl := (Array.getElem?_eq_some_iff.1 hg).1
  refine ⟨by rw [List.length_append, List.map_append]; exact ho, fun b hb => ?_, ?_, Nat.le_trans h4 hgr.size⟩
  · rcases List.mem_append.1 hb with hb | hb
    · obtain ⟨k1, k2, k3, cs', k4, k5⟩ := h2 b hb
      exact ⟨k1, Nat.lt_of_lt_of_le k2 hgr.size, hv' b k2 k3, cs', (hgr.block b k2 (fun e => k3 e.symm)).trans k4, k5⟩
    · rw [List.mem_singleton] at hb
      subst hb
      exact ⟨hgB, Nat.lt_of_lt_of_le hgl hgr.size, hv' b hgl hgv, cs, (hgr.block b hgl (fun e => hgv e.symm)).trans hg, hc, hx⟩
  · rw [List.nodup_append]
    exact ⟨h3, by simp, fun a ha b hb => by rw [List.mem_singleton] at hb; subst hb; exact fun e => hgL (e ▸ ha)⟩
theorem TbI.fin (h : TbI te tr B M x L v W) (h0 : 0 < L.length) : ∃ bt cap, v = .slice (some ⟨bt, 0, none⟩) L.length cap ∧ ∃ rb, Tb te B W.heap.size bt L.length M rb (fun _ _ => x) W := by
  obtain ⟨h1, h2, h3, h4⟩ := h
  obtain ⟨g, cap, rfl, hg1, hg2⟩ := h1.form h0
  refine ⟨g, cap, rfl, fun a => L.getD a 0, ?_⟩
  have hget : ∀ a, a < L.length → L.getD a 0 ∈ L ∧ L[a]? = some (L.getD a 0) := fun a ha => by
    rw [List.getD_eq_getElem?_getD, List.getElem?_eq_getElem ha]
    exact ⟨List.getElem_mem ha, rfl⟩
  refine ⟨?_, fun a ha => ?_, fun a b ha hb e => ?_, fun a ha => ?_, hg1, hg2⟩
  · rcases h1.2 with ⟨h', _⟩ | ⟨g', cap', cur, h', _, hh, _, _, _, htake⟩
    · cases h'
    · cases h'
      refine ⟨cur, tr, hh, fun a ha => ?_⟩
      have e : (L.map fun b => Value.slice (some ⟨b, 0, none⟩) M M)[a]? = some (.slice (some ⟨L.getD a 0, 0, none⟩) M M) := by
        rw [List.getElem?_map, (hget a ha).2]; rfl
      rw [← htake, List.getElem?_take, if_pos (by omega)] at e
      simpa using e
  · obtain ⟨_, _, _, cs, k4, k5, k6⟩ := h2 _ (hget a ha).1
    exact ⟨cs, k4, k5, k6⟩
  · exact (List.getElem?_inj ha h3).1 (by rw [(hget a ha).2, (hget b hb).2, e])
  · obtain ⟨k1, k2, k3, _⟩ := h2 _ (hget a ha).1
    exact ⟨fun e => k3 (by rw [e]; rfl), k1, k2⟩
end
def TablePost (te : TypeId) (N M : Nat) (x : Value) (w : World) (e : Ending) (w' : World) : Prop :=
  ∃ bt cap rb, e = .returned (.slice (some ⟨bt, 0, none⟩) N cap) ∧ Tb te w.heap.size w'.heap.size bt N M rb (fun _ _ => x) w' ∧ Below w.heap.size w w'

theorem elB : ElemT Try.prog 73 51 1 24 := ElemT.mk' (z := .slice none 0 0) (by kernel_rfl) (by kernel_rfl) rfl (by decide)
set_option maxHeartbeats 4000000 in
set_option maxRecDepth 100000 in
theorem tableB (g : Gram) (vr : Value) (N n : Nat) (hN : g.nons = (N : Int)) (h1 : 1 ≤ N) (h2 : N ≤ 1000) (h3 : n ≤ 1000) (xx : Bool) (w : World) :
    Calls Try.prog 52 #[.agg #[.int .i64 g.terms, .int .i64 g.nons, .int .i64 g.start, vr], .int .i64 (n : Int), .bool xx] w (TablePost 4 N (n + 1) (.bool xx) w) := by
  obtain ⟨w0, HW0⟩ := nameIt (w.alloc (.cells #[.int .i64 g.terms, .int .i64 g.nons, .int .i64 g.start, vr] 24))
  have hb0 : Below w.heap.size w w0 := by rw [← HW0.out]; exact (Below.refl _ _).alloc (Nat.le_refl _) _
  have HB0 := Lib.hid hb0
  have X0 : Hid (w0.heap[w.heap.size]? = some (.cells #[.int .i64 g.terms, .int .i64 g.nons, .int .i64 g.start, vr] 24 (0, 0))) := by rw [← HW0.out]; exact bx_new _ _ _ rfl
  obtain ⟨gt, HGT⟩ := nameIt g.terms
  obtain ⟨gs, HGS⟩ := nameIt g.start
  rw [HGT.out, HGS.out, hN] at HW0 X0
  rw [HGT.out, HGS.out, hN]
  obtain ⟨m, HM⟩ := nameIt (n + 1)
  have hm1 : 1 ≤ m := by have := HM.out; omega
  have hm2 : m ≤ 1001 := by have := HM.out; omega
  have HMZ : Hid (((n : Int) + 1) = (m : Int)) := by show _ = _; rw [← HM.out]; omega
  have hwr : IntKind.i64.wrap ((n : Int) + 1) = (m : Int) := by rw [IntWalk.i64_in _ (by omega), HMZ.out]
  have hmk : ∀ W : World, (Instr.makeSlice 51 (.int .i64 (m : Int)) (.int .i64 (m : Int))).run Try.prog W = .ok (.slice (some ⟨W.heap.size, 0, none⟩) m m) (W.alloc (.cells (madeCells #[.bool false] m) 4)) := fun W => by
    have := run_make_row' (P := Try.prog) 51 4 (.bool false) 1 Try.underlying51 (by kernel_rfl) rfl .i64 .i64 m (by omega) (by omega) W
    simpa using this
  have HMK := Lib.hid hmk
  obtain ⟨PST, HP⟩ := nameIt (TablePost 4 N m (.bool xx) w)
  have HFI : Hid (∀ (L : List Nat) v W, L.length = N → TbI 4 51 w0.heap.size m (.bool xx) L v W → Below w0.heap.size w0 W → PST (.returned v) W) := by
    intro L v W hL h hb
    obtain ⟨bt, cap, rfl, rb, ht⟩ := h.fin (by omega)
    rw [← HP.out]
    rw [hL] at ht ⊢
    exact ⟨bt, cap, rb, rfl, ht.wide HB0.out.size (Nat.le_refl _), HB0.out.trans (hb.mono HB0.out.size)⟩
  rw [HM.out, HP.out]
  have HI0 := Lib.hid (TbI.nil 4 51 w0.heap.size m (.bool xx) w0 (Nat.le_refl _))
  obtain ⟨x0, x1, x2, x3⟩ := bx_cells4 X0.out
  clear hb0 hN hmk
  go_enter Try.func52, Try.ntmps52
  go_upto_region 1 with fail
  rw [HW0.out]
  go_wp2_with fail
  clear x0 x1 x2 x3
  go_loopg [7, 12] N (fun gg v7 v12 wr => ∃ (i : Nat) (L : List Nat), i ≤ N ∧ N - i ≤ gg ∧ Hid (L.length = i) ∧ v12 = .int .i64 i ∧ Hid (TbI 4 51 w0.heap.size m (.bool xx) L v7 wr) ∧ Hid (Below w0.heap.size w0 wr))
  case atStart => exact ⟨0, [], by omega, by omega, rfl, rfl, HI0, Below.refl _ _⟩
  case round =>
    clear HI0
    obtain ⟨i, L, hi, hg, HLL, rfl, HI, HB⟩ := hrel
    obtain ⟨w1, rfl⟩ : ∃ ww : World, ww = wr := ⟨_, rfl⟩
    obtain ⟨oa, oc, rfl, hoc, hoc2⟩ := own_len HI.out.own
    have HOWN := Lib.hid HI.out.own
    have HLT : Hid (∀ k, (Value.slice oa L.length oc).ownBlock = some k → k < w1.heap.size) := fun k e => (HI.out.own.lt k e).2
    rw [HLL.out] at HOWN HLT
    rw [HLL.out]
    by_cases hlt : i < N
    · have hlt' : (i : Int) < (N : Int) := by omega
      obtain ⟨w2, HW2⟩ := nameIt (w1.alloc (.cells (madeCells #[.bool false] m) 4))
      have HB12 : Hid (Below w1.heap.size w1 w2) := by rw [← HW2.out]; exact (Below.refl _ _).alloc (Nat.le_refl _) _
      have HX0 : Hid (∃ cs : Array Value, w2.heap[w1.heap.size]? = some (.cells cs 4 (0, 0)) ∧ cs.size = m ∧ ∀ k, k < m → k < 0 → cs[k]? = some (.bool xx)) :=
        ⟨_, by rw [← HW2.out]; exact bx_new _ _ _ rfl, size_madeCells _ _, fun k _ h => absurd h (Nat.not_lt_zero _)⟩
      have hmk := HMK.out
      obtain ⟨gb, HGB⟩ := nameIt w1.heap.size
      rw [HGB.out] at HX0
      go_upto_region 5 with fail
      rw [HW2.out, HGB.out]
      clear hmk
      go_wp2_with fail
      go_loopg [19] m (fun gg v19 wr => ∃ k : Nat, k ≤ m ∧ m - k ≤ gg ∧ v19 = .int .i64 k ∧ Hid (Below w1.heap.size w1 wr) ∧ Hid (∃ cs : Array Value, wr.heap[gb]? = some (.cells cs 4 (0, 0)) ∧ cs.size = m ∧ ∀ l, l < m → l < k → cs[l]? = some (.bool xx)))
      case atStart => exact ⟨0, by omega, by omega, rfl, HB12, HX0⟩
      case round =>
        clear HX0
        obtain ⟨k, hk, hg2, rfl, HBk, HXk⟩ := hrel
        obtain ⟨w3, rfl⟩ : ∃ ww : World, ww = wr := ⟨_, rfl⟩
        obtain ⟨cs, hcs, hsz, hval⟩ := HXk.out
        by_cases hkm : k < m
        · have hkm' : (k : Int) < (m : Int) := by omega
          have hk0 : (0 : Int) ≤ (k : Int) := by omega
          have hc : w3.cell? ⟨gb, k, none⟩ = some (cs[k]'(by omega)) := by simp [World.cell?, hcs]
          have hf : w3.frozen? ⟨gb, k, none⟩ = false := by simp [World.frozen?, hcs]
          obtain ⟨cv, HCV⟩ := nameIt (cs[k]'(by omega))
          rw [HCV.out] at hc
          have HX9 : Hid (∃ cs' : Array Value, (w3.setCell ⟨gb, k, none⟩ (.bool xx)).heap[gb]? = some (.cells cs' 4 (0, 0)) ∧ cs'.size = m ∧ ∀ l, l < m → l < k + 1 → cs'[l]? = some (.bool xx)) := by
            refine ⟨cs.setIfInBounds k (.bool xx), bx_set hcs _ _, by simpa using hsz, fun l hl hlk => ?_⟩
            rw [Array.getElem?_setIfInBounds]
            by_cases e : k = l
            · rw [if_pos e, if_pos (by omega)]
            · rw [if_neg e]; exact hval l hl (by omega)
          have HB9 : Hid (Below w1.heap.size w1 (w3.setCell ⟨gb, k, none⟩ (.bool xx))) := HBk.out.setCell (p := ⟨gb, k, none⟩) (by rw [← HGB.out]; exact Nat.le_refl _) _
          clear hcs hval
          go_wp2_with fail
          go_roundg (m - (k + 1))
          case measure => omega
          case rel => exact ⟨k + 1, by omega, by omega, by go_num, HB9, HX9⟩
        · have hkm' : ¬ (k : Int) < (m : Int) := by omega
          have hkk : k = m := by omega
          have HI3 := Lib.hid (HI.out.keep HBk.out)
          have HO3 := Lib.hid (own_keep HOWN.out HBk.out)
          have hgB : w0.heap.size ≤ gb := by rw [← HGB.out]; exact HB.out.size
          have HGV : Hid ((Value.slice oa i oc).ownBlock ≠ some gb) := fun e => by have := HLT.out gb e; rw [HGB.out] at this; omega
          have HGL : Hid (gb ∉ L) := fun h => by have := (HI.out.rows gb h).2.1; rw [HGB.out] at this; omega
          have HCS : Hid (∃ cs : Array Value, w3.heap[gb]? = some (.cells cs 4 (0, 0)) ∧ cs.size = m ∧ ∀ l, l < m → cs[l]? = some (.bool xx)) := ⟨cs, hcs, hsz, fun l hl => hval l hl (by omega)⟩
          have HB03 : Hid (Below w0.heap.size w0 w3) := HB.out.trans (HBk.out.mono HB.out.size)
          have hiN : i < 1000 := by omega
          clear hcs hsz hval hkk
          go_wp2_with (at_builtin; refine wp_app1at elB rfl _ _ rfl HO3.out rfl rfl rfl rfl rfl (by omega) (by unfold maxLen; omega) HI3.out.le ?_)
          intro v9 w9 ho9 hg9 hat9
          have HI9 : Hid (TbI 4 51 w0.heap.size m (.bool xx) (L ++ [gb]) v9 w9) := by
            obtain ⟨cs', q1, q2, q3⟩ := HCS.out
            have hh := HI3.out
            rw [HLL.out] at hh
            exact hh.add q1 q2 q3 hgB HGV.out HGL.out (by rw [HLL.out]; exact ho9) hg9 hat9
          have HB9 : Hid (Below w0.heap.size w0 w9) := HB03.out.grown hg9 HB03.out.size (fun k e => (HO3.out.lt k e).1)
          clear ho9 hg9 hat9
          go_wp2_with fail
          go_roundg (N - (i + 1))
          case measure => omega
          case rel => exact ⟨i + 1, L ++ [gb], by omega, by omega, by show _ = _; rw [List.length_append, HLL.out]; rfl, by go_num, HI9, HB9⟩
    · have hlt' : ¬ (i : Int) < (N : Int) := by omega
      have hiN : i = N := by omega
      have hfin := HFI.out L _ w1 (HLL.out.trans hiN) HI.out HB.out
      rw [HLL.out] at hfin
      have HF := Lib.hid hfin
      clear hiN hfin
      go_wp2_with fail
      first | exact HF.out | (go_ret; exact HF.out)

theorem elI : ElemT Try.prog 29 33 1 24 := ElemT.mk' (z := .slice none 0 0) (by kernel_rfl) (by kernel_rfl) rfl (by decide)
set_option maxHeartbeats 4000000 in
set_option maxRecDepth 100000 in
theorem tableI (g : Gram) (vr : Value) (N n : Nat) (hN : g.nons = (N : Int)) (h1 : 1 ≤ N) (h2 : N ≤ 1000) (h3 : n ≤ 1000) (xx : Int) (w : World) :
    Calls Try.prog 53 #[.agg #[.int .i64 g.terms, .int .i64 g.nons, .int .i64 g.start, vr], .int .i64 (n : Int), .int .i64 xx] w (TablePost 3 N (n + 1) (.int .i64 xx) w) := by
  obtain ⟨w0, HW0⟩ := nameIt (w.alloc (.cells #[.int .i64 g.terms, .int .i64 g.nons, .int .i64 g.start, vr] 24))
  have hb0 : Below w.heap.size w w0 := by rw [← HW0.out]; exact (Below.refl _ _).alloc (Nat.le_refl _) _
  have HB0 := Lib.hid hb0
  have X0 : Hid (w0.heap[w.heap.size]? = some (.cells #[.int .i64 g.terms, .int .i64 g.nons, .int .i64 g.start, vr] 24 (0, 0))) := by rw [← HW0.out]; exact bx_new _ _ _ rfl
  obtain ⟨gt, HGT⟩ := nameIt g.terms
  obtain ⟨gs, HGS⟩ := nameIt g.start
  rw [HGT.out, HGS.out, hN] at HW0 X0
  rw [HGT.out, HGS.out, hN]
  obtain ⟨m, HM⟩ := nameIt (n + 1)
  have hm1 : 1 ≤ m := by have := HM.out; omega
  have hm2 : m ≤ 1001 := by have := HM.out; omega
  have HMZ : Hid (((n : Int) + 1) = (m : Int)) := by show _ = _; rw [← HM.out]; omega
  have hwr : IntKind.i64.wrap ((n : Int) + 1) = (m : Int) := by rw [IntWalk.i64_in _ (by omega), HMZ.out]
  have hmk : ∀ W : World, (Instr.makeSlice 33 (.int .i64 (m : Int)) (.int .i64 (m : Int))).run Try.prog W = .ok (.slice (some ⟨W.heap.size, 0, none⟩) m m) (W.alloc (.cells (madeCells #[.int .i64 0] m) 3)) := fun W => by
    have := run_make_row' (P := Try.prog) 33 3 (.int .i64 0) 8 Try.underlying33 (by kernel_rfl) rfl .i64 .i64 m (by omega) (by omega) W
    simpa using this
  have HMK := Lib.hid hmk
  obtain ⟨PST, HP⟩ := nameIt (TablePost 3 N m (.int .i64 xx) w)
  have HFI : Hid (∀ (L : List Nat) v W, L.length = N → TbI 3 33 w0.heap.size m (.int .i64 xx) L v W → Below w0.heap.size w0 W → PST (.returned v) W) := by
    intro L v W hL h hb
    obtain ⟨bt, cap, rfl, rb, ht⟩ := h.fin (by omega)
    rw [← HP.out]
    rw [hL] at ht ⊢
    exact ⟨bt, cap, rb, rfl, ht.wide HB0.out.size (Nat.le_refl _), HB0.out.trans (hb.mono HB0.out.size)⟩
  rw [HM.out, HP.out]
  have HI0 := Lib.hid (TbI.nil 3 33 w0.heap.size m (.int .i64 xx) w0 (Nat.le_refl _))
  obtain ⟨x0, x1, x2, x3⟩ := bx_cells4 X0.out
  clear hb0 hN hmk
  go_enter Try.func53, Try.ntmps53
  go_upto_region 1 with fail
  rw [HW0.out]
  go_wp2_with fail
  clear x0 x1 x2 x3
  go_loopg [7, 12] N (fun gg v7 v12 wr => ∃ (i : Nat) (L : List Nat), i ≤ N ∧ N - i ≤ gg ∧ Hid (L.length = i) ∧ v12 = .int .i64 i ∧ Hid (TbI 3 33 w0.heap.size m (.int .i64 xx) L v7 wr) ∧ Hid (Below w0.heap.size w0 wr))
  case atStart => exact ⟨0, [], by omega, by omega, rfl, rfl, HI0, Below.refl _ _⟩
  case round =>
    clear HI0
    obtain ⟨i, L, hi, hg, HLL, rfl, HI, HB⟩ := hrel
    obtain ⟨w1, rfl⟩ : ∃ ww : World, ww = wr := ⟨_, rfl⟩
    obtain ⟨oa, oc, rfl, hoc, hoc2⟩ := own_len HI.out.own
    have HOWN := Lib.hid HI.out.own
    have HLT : Hid (∀ k, (Value.slice oa L.length oc).ownBlock = some k → k < w1.heap.size) := fun k e => (HI.out.own.lt k e).2
    rw [HLL.out] at HOWN HLT
    rw [HLL.out]
    by_cases hlt : i < N
    · have hlt' : (i : Int) < (N : Int) := by omega
      obtain ⟨w2, HW2⟩ := nameIt (w1.alloc (.cells (madeCells #[.int .i64 0] m) 3))
      have HB12 : Hid (Below w1.heap.size w1 w2) := by rw [← HW2.out]; exact (Below.refl _ _).alloc (Nat.le_refl _) _
      have HX0 : Hid (∃ cs : Array Value, w2.heap[w1.heap.size]? = some (.cells cs 3 (0, 0)) ∧ cs.size = m ∧ ∀ k, k < m → k < 0 → cs[k]? = some (.int .i64 xx)) :=
        ⟨_, by rw [← HW2.out]; exact bx_new _ _ _ rfl, size_madeCells _ _, fun k _ h => absurd h (Nat.not_lt_zero _)⟩
      have hmk := HMK.out
      obtain ⟨gb, HGB⟩ := nameIt w1.heap.size
      rw [HGB.out] at HX0
      go_upto_region 5 with fail
      rw [HW2.out, HGB.out]
      clear hmk
      go_wp2_with fail
      go_loopg [19] m (fun gg v19 wr => ∃ k : Nat, k ≤ m ∧ m - k ≤ gg ∧ v19 = .int .i64 k ∧ Hid (Below w1.heap.size w1 wr) ∧ Hid (∃ cs : Array Value, wr.heap[gb]? = some (.cells cs 3 (0, 0)) ∧ cs.size = m ∧ ∀ l, l < m → l < k → cs[l]? = some (.int .i64 xx)))
      case atStart => exact ⟨0, by omega, by omega, rfl, HB12, HX0⟩
      case round =>
        clear HX0
        obtain ⟨k, hk, hg2, rfl, HBk, HXk⟩ := hrel
        obtain ⟨w3, rfl⟩ : ∃ ww : World, ww = wr := ⟨_, rfl⟩
        obtain ⟨cs, hcs, hsz, hval⟩ := HXk.out
        by_cases hkm : k < m
        · have hkm' : (k : Int) < (m : Int) := by omega
          have hk0 : (0 : Int) ≤ (k : Int) := by omega
          have hc : w3.cell? ⟨gb, k, none⟩ = some (cs[k]'(by omega)) := by simp [World.cell?, hcs]
          have hf : w3.frozen? ⟨gb, k, none⟩ = false := by simp [World.frozen?, hcs]
          obtain ⟨cv, HCV⟩ := nameIt (cs[k]'(by omega))
          rw [HCV.out] at hc
          have HX9 : Hid (∃ cs' : Array Value, (w3.setCell ⟨gb, k, none⟩ (.int .i64 xx)).heap[gb]? = some (.cells cs' 3 (0, 0)) ∧ cs'.size = m ∧ ∀ l, l < m → l < k + 1 → cs'[l]? = some (.int .i64 xx)) := by
            refine ⟨cs.setIfInBounds k (.int .i64 xx), bx_set hcs _ _, by simpa using hsz, fun l hl hlk => ?_⟩
            rw [Array.getElem?_setIfInBounds]
            by_cases e : k = l
            · rw [if_pos e, if_pos (by omega)]
            · rw [if_neg e]; exact hval l hl (by omega)
          have HB9 : Hid (Below w1.heap.size w1 (w3.setCell ⟨gb, k, none⟩ (.int .i64 xx))) := HBk.out.setCell (p := ⟨gb, k, none⟩) (by rw [← HGB.out]; exact Nat.le_refl _) _
          clear hcs hval
          go_wp2_with fail
          go_roundg (m - (k + 1))
          case measure => omega
          case rel => exact ⟨k + 1, by omega, by omega, by go_num, HB9, HX9⟩
        · have hkm' : ¬ (k : Int) < (m : Int) := by omega
          have hkk : k = m := by omega
          have HI3 := Lib.hid (HI.out.keep HBk.out)
          have HO3 := Lib.hid (own_keep HOWN.out HBk.out)
          have hgB : w0.heap.size ≤ gb := by rw [← HGB.out]; exact HB.out.size
          have HGV : Hid ((Value.slice oa i oc).ownBlock ≠ some gb) := fun e => by have := HLT.out gb e; rw [HGB.out] at this; omega
          have HGL : Hid (gb ∉ L) := fun h => by have := (HI.out.rows gb h).2.1; rw [HGB.out] at this; omega
          have HCS : Hid (∃ cs : Array Value, w3.heap[gb]? = some (.cells cs 3 (0, 0)) ∧ cs.size = m ∧ ∀ l, l < m → cs[l]? = some (.int .i64 xx)) := ⟨cs, hcs, hsz, fun l hl => hval l hl (by omega)⟩
          have HB03 : Hid (Below w0.heap.size w0 w3) := HB.out.trans (HBk.out.mono HB.out.size)
          have hiN : i < 1000 := by omega
          clear hcs hsz hval hkk
          go_wp2_with (at_builtin; refine wp_app1at elI rfl _ _ rfl HO3.out rfl rfl rfl rfl rfl (by omega) (by unfold maxLen; omega) HI3.out.le ?_)
          intro v9 w9 ho9 hg9 hat9
          have HI9 : Hid (TbI 3 33 w0.heap.size m (.int .i64 xx) (L ++ [gb]) v9 w9) := by
            obtain ⟨cs', q1, q2, q3⟩ := HCS.out
            have hh := HI3.out
            rw [HLL.out] at hh
            exact hh.add q1 q2 q3 hgB HGV.out HGL.out (by rw [HLL.out]; exact ho9) hg9 hat9
          have HB9 : Hid (Below w0.heap.size w0 w9) := HB03.out.grown hg9 HB03.out.size (fun k e => (HO3.out.lt k e).1)
          clear ho9 hg9 hat9
          go_wp2_with fail
          go_roundg (N - (i + 1))
          case measure => omega
          case rel => exact ⟨i + 1, L ++ [gb], by omega, by omega, by show _ = _; rw [List.length_append, HLL.out]; rfl, by go_num, HI9, HB9⟩
    · have hlt' : ¬ (i : Int) < (N : Int) := by omega
      have hiN : i = N := by omega
      have hfin := HFI.out L _ w1 (HLL.out.trans hiN) HI.out HB.out
      rw [HLL.out] at hfin
      have HF := Lib.hid hfin
      clear hiN hfin
      go_wp2_with fail
      first | exact HF.out | (go_ret; exact HF.out)
end Cs
end Go.Proofs.Ytbnpemgmdnghgaa
namespace Go.Proofs.Ytbnpemgmdnghgaa
open Go.RowKit

def KidsPost (w0 : World) (t : Tree) (w : World) (e : Ending) (w' : World) : Prop :=
  ∃ a cap, e = .returned (.slice a (kidsOf t).length cap) ∧ Rd AnyB w0 (.sl ((kidsOf t).map Tree.d)) [.slice a (kidsOf t).length cap] ∧ Below w.heap.size w w'
theorem rd_nil (S : Nat → Prop) (w : World) : Rd S w (.sl []) [.slice none 0 0] := ⟨none, 0, [], rfl, by simp, by simp [maxLen], fun _ => rfl, fun i hi => by simp at hi, rfl⟩

set_option maxHeartbeats 400000 in
theorem kidsE (w0 : World) (t : Tree) (v : Value) (w : World) (hv : Rd AnyB w0 (.sl (t.kids.map Tree.d)) [v]) :
    Calls Try.prog 69 #[.agg #[.int .i64 t.rule, .int .i64 t.term, v]] w (KidsPost w0 t w) := by
  obtain ⟨a, cap, rfl, hc1, hc2⟩ := hv.form
  have HV := Lib.hid hv
  clear hv hc1 hc2
  cases t with
  | node r tm ks =>
  simp only [Tree.rule, Tree.term, Tree.kids, List.length_map] at HV ⊢
  by_cases hr : r = -1
  · subst hr
    go_enter Try.func69, Try.ntmps69
    go_wp2
    go_ret
    exact ⟨none, 0, rfl, rd_nil _ _, (Below.refl _ _).alloc (Nat.le_refl _) _⟩
  · have hr' : (r == -1) = false := by simpa using hr
    have HR := Lib.hid hr
    clear hr
    go_enter Try.func69, Try.ntmps69
    go_wp2
    go_ret
    refine ⟨a, cap, ?_, ?_, (Below.refl _ _).alloc (Nat.le_refl _) _⟩
    · simp [kidsOf, Tree.rule, Tree.kids, HR.out]
    · have e : kidsOf (.node r tm ks) = ks := by simp [kidsOf, Tree.rule, Tree.kids, HR.out]
      rw [e]; exact HV.out

/-- a function of nodes, as a function value: I: what it holds of the nodes seen so far, in which blocks -/
structure NodeFn (g : Nat) (lb : Array Value) (w0 : World) (p : Tree → Bool) (N : Nat) (I : List Tree → (Nat → Prop) → World → Prop) : Prop where
  below : ∀ {s S W}, I s S W → Below w0.heap.size w0 W
  own : ∀ {s S W}, I s S W → ∀ k, S k → w0.heap.size ≤ k ∧ k < W.heap.size
  keep : ∀ {s S W W'}, I s S W → Below W.heap.size W W' → I s S W'
  call : ∀ s S W (t : Tree) (v : Value), I s S W → Rd AnyB w0 (.sl (t.kids.map Tree.d)) [v] → s.length < N →
    Calls Try.prog g (#[.agg #[.int .i64 t.rule, .int .i64 t.term, v]] ++ lb) W fun e W' => ∃ S', e = .returned (.bool (p t)) ∧ I (s ++ [t]) S' W' ∧ Keeps S W W' ∧ ∀ k, S' k → S k ∨ W.heap.size ≤ k

def WalkPost (p : Tree → Bool) (I : List Tree → (Nat → Prop) → World → Prop) (t : Tree) (s : List Tree) (S : Nat → Prop) (W : World) (e : Ending) (W' : World) : Prop :=
  ∃ S', e = .returned (.bool ((nodes t).all p)) ∧ I (s ++ upTo p (nodes t)) S' W' ∧ Keeps S W W' ∧ ∀ k, S' k → S k ∨ W.heap.size ≤ k

structure WalkRel (p : Tree → Bool) (I : List Tree → (Nat → Prop) → World → Prop) (t : Tree) (s : List Tree) (S : Nat → Prop) (W : World) (i : Nat) (S' : Nat → Prop) (W' : World) : Prop where
  inv : I (s ++ t :: nodesL ((kidsOf t).take i)) S' W'
  kps : Keeps S W W'
  sub : ∀ k, S' k → S k ∨ W.heap.size ≤ k
  all : (t :: nodesL ((kidsOf t).take i)).all p = true

set_option maxHeartbeats 2000000 in
set_option maxRecDepth 100000 in
theorem walkE (g : Nat) (lb : Array Value) (w0 : World) (p : Tree → Bool) (N : Nat) (I : List Tree → (Nat → Prop) → World → Prop) (eg : ∀ args w, (callFunc g args).run Try.prog w = .ok (.enter g args) w) (hF : NodeFn g lb w0 p N I) :
    ∀ (m : Nat) (t : Tree) (v : Value) (s : List Tree) (S : Nat → Prop) (W : World), (nodes t).length ≤ m → I s S W → Rd AnyB w0 (.sl (t.kids.map Tree.d)) [v] → s.length + (nodes t).length ≤ N →
      Calls Try.prog 41 #[.agg #[.int .i64 t.rule, .int .i64 t.term, v], .func (.func g) #[] lb] W (WalkPost p I t s S W) := by
  intro m
  induction m with
  | zero => intro t v s S W hm; have := nodes_pos t; omega
  | succ m ih =>
  intro t v s S W hm hI hv hN
  obtain ⟨a, cap, rfl, hc1, hc2⟩ := hv.form
  have HV := Lib.hid hv
  have HI := Lib.hid hI
  have HF := Lib.hid hF
  have IH := Lib.hid ih
  have HM := Lib.hid hm
  have HN := Lib.hid hN
  have hn0 := nodes_pos t
  have hsl : s.length < N := by omega
  clear hv hI hF ih hc1 hc2 hm hN hn0
  obtain ⟨r, HRr⟩ := nameIt t.rule
  obtain ⟨tm, HRt⟩ := nameIt t.term
  obtain ⟨nk, HRn⟩ := nameIt (t.kids.map Tree.d).length
  have hk := fun W => kidsE w0 t _ W HV.out
  have hcall := fun W h => HF.out.call s S W t _ h HV.out hsl
  rw [HRr.out, HRt.out, HRn.out] at hk hcall
  rw [HRr.out, HRt.out, HRn.out]
  have HK := Lib.hid hk
  have HC := Lib.hid hcall
  clear hk hcall
  go_enter Try.func41, Try.ntmps41
  go_wp2_with fail
  refine (HC.out _ (HF.out.keep HI.out ((Below.refl _ _).alloc (Nat.le_refl _) _))).mono ?_
  rintro e W1 ⟨S1, rfl, hI1, hk1, hs1⟩
  have hx := hk1.cells (bx_new W _ W.heap.size rfl) (fun h => by have := (HF.out.own HI.out _ h).2; omega)
  have HI1 := Lib.hid hI1
  have HK1 : Hid (Keeps S W W1) := (Below.keeps (S := S) ((Below.refl W.heap.size W).alloc (Nat.le_refl _) (.cells #[.int .i64 r, .int .i64 tm, .slice a nk cap] 42))).trans hk1 (fun k h => .inl h)
  have HS1 : Hid (∀ k, S1 k → S k ∨ W.heap.size ≤ k) := fun k h => (hs1 k h).elim .inl (fun h => .inr (by simp at h; omega))
  obtain ⟨x0, x1, x2⟩ := bx_cells3 hx
  clear hI1 hk1 hs1 hx
  cases hp : p t with
  | false =>
    have HP := Lib.hid hp
    clear hp
    go_wp2
    go_ret
    refine ⟨S1, ?_, ?_, HK1.out, HS1.out⟩
    · rw [nodes_eq, List.all_cons, HP.out]; rfl
    · rw [nodes_eq, upTo, HP.out, if_neg (by decide)]; exact HI1.out
  | true =>
    have HP := Lib.hid hp
    clear hp
    go_wp2_with fail
    refine (HK.out W1).mono ?_
    rintro e W2 ⟨ak, ck, rfl, hrk, hb2⟩
    have HRK := Lib.hid hrk
    have HR : Hid (WalkRel p I t s S W 0 S1 W2) := ⟨by simpa [nodesL] using HF.out.keep HI1.out hb2, HK1.out.trans (Below.keeps (S := S1) hb2) HS1.out, HS1.out, by simpa [nodesL] using HP.out⟩
    obtain ⟨K, HKN⟩ := nameIt (kidsOf t)
    have hkl := hrk.bounds
    rw [HKN.out] at hkl
    rw [HKN.out] at HRK
    rw [HKN.out]
    unfold maxLen at hkl
    obtain ⟨-, hkl1, hkl2⟩ := hkl
    clear hrk hb2 x0 x1 x2 HI1 HK1 HS1 HK HC HI HRn
    go_wp2_with fail
    go_loopg [14] K.length (fun gg v14 wr => ∃ (i : Nat) (S' : Nat → Prop), i ≤ K.length ∧ K.length - i ≤ gg ∧ v14 = .int .i64 i ∧ Hid (WalkRel p I t s S W i S' wr))
    case atStart => exact ⟨0, S1, by omega, by omega, rfl, HR⟩
    case round =>
      clear HR
      obtain ⟨i, S', hi, hg, rfl, HR⟩ := hrel
      by_cases hlt : i < K.length
      · have hlt' : (i : Int) < (K.length : Int) := by omega
        obtain ⟨b, off, v, hae, -, hbl, c0, c1, c2, hkid⟩ := HRK.out.kid hlt
        obtain ⟨av, cv, rfl, -, -⟩ := hkid.form
        obtain ⟨nv, HNV⟩ := nameIt (K[i].kids.map Tree.d).length
        rw [HNV.out] at c2 hkid
        have hbel := HF.out.below HR.out.inv
        have e0 := (hbel.cell (p := ⟨b, off + i * 3, none⟩) hbl).trans c0
        have e1 := (hbel.cell (p := ⟨b, off + i * 3 + 1, none⟩) hbl).trans c1
        have e2 := (hbel.cell (p := ⟨b, off + i * 3 + 2, none⟩) hbl).trans c2
        have hme : (nodes K[i]).length ≤ m := by
          have h1 := HM.out
          rw [nodes_eq, HKN.out] at h1
          have h2 := nodesL_kid hlt
          simp at h1; omega
        have hne : (s ++ t :: nodesL (K.take i)).length + (nodes K[i]).length ≤ N := by
          have h1 := HN.out
          rw [nodes_eq, HKN.out] at h1
          have h2 := nodesL_kid hlt
          simp at h1 ⊢; omega
        have hinv := HR.out.inv
        rw [HKN.out] at hinv
        have hih := IH.out K[i] _ _ S' _ hme (HF.out.keep hinv ((Below.refl _ _).alloc (Nat.le_refl _) (.cells #[.int .i64 K[i].rule, .int .i64 K[i].term, .slice av nv cv] 42))) hkid hne
        obtain ⟨q0, HQ0⟩ := nameIt K[i].rule
        obtain ⟨q1, HQ1⟩ := nameIt K[i].term
        rw [HQ0.out] at e0 hih
        rw [HQ1.out] at e1 hih
        have HIH := Lib.hid hih
        subst hae
        clear hbel c0 c1 c2 hme hne hinv hih hkid
        go_wp2_with fail
        refine HIH.out.mono ?_
        rintro e W3 ⟨S3, rfl, hI3, hk3, hs3⟩
        have HI3 := Lib.hid hI3
        have hbb := (Below.refl wr.heap.size wr).alloc (Nat.le_refl _) (.cells #[.int .i64 q0,   .int .i64 q1, .slice av nv cv] 42)
        have HK3 : Hid (Keeps S W W3) := (HR.out.kps.trans (Below.keeps (S := S') hbb) HR.out.sub).trans hk3 HR.out.sub
        have HS3 : Hid (∀ k, S3 k → S k ∨ W.heap.size ≤ k) := fun k h => (hs3 k h).elim (HR.out.sub k) (fun h => .inr (by have := HR.out.kps.size; simp at h; omega))
        clear hI3 hk3 hs3 hbb HIH e0 e1 e2
        cases hp : (nodes K[i]).all p with
        | false =>
          have HP' := Lib.hid hp
          clear hp
          go_wp2
          go_ret
          have h1 := HR.out.all
          rw [HKN.out] at h1
          have h2 : nodes t = (t :: nodesL (K.take i)) ++ (nodes K[i] ++ nodesL (K.drop (i + 1))) := by rw [nodes_eq, HKN.out, nodesL_split hlt]; rfl
          refine ⟨S3, ?_, ?_, HK3.out, HS3.out⟩
          · rw [h2, List.all_append, List.all_append, HP'.out]; simp
          · rw [h2, upTo_append h1, upTo_stop HP'.out]
            have := HI3.out
            simpa using this
        | true =>
          have HR' : Hid (WalkRel p I t s S W (i + 1) S3 W3) := by
            refine ⟨?_, HK3.out, HS3.out, ?_⟩
            · rw [HKN.out, nodesL_take hlt]
              have := HI3.out
              rw [upTo_all hp] at this
              simpa using this
            · have h1 := HR.out.all
              rw [HKN.out] at h1
              rw [HKN.out, nodesL_take hlt]
              rw [← List.cons_append, List.all_append, h1, hp]; rfl
          clear hp
          go_wp2
          go_roundg (K.length - (i + 1))
          case measure => omega
          case rel => exact ⟨i + 1, S3, by omega, by omega, by go_num, HR'⟩
      · have hlt' : ¬ (i : Int) < (K.length : Int) := by omega
        go_wp2
        go_ret
        have h1 := HR.out.all
        have h3 := HR.out.inv
        rw [HKN.out, List.take_of_length_le (by omega)] at h1 h3
        have h2 : nodes t = t :: nodesL K := by rw [nodes_eq, HKN.out]
        refine ⟨S', ?_, ?_, HR.out.kps, HR.out.sub⟩
        · rw [h2, h1]; rfl
        · rw [h2, upTo_all h1]; exact h3
end Go.Proofs.Ytbnpemgmdnghgaa
namespace Go.Proofs.Ytbnpemgmdnghgaa
open Go.RowKit

mutual
def Tree.size : Tree → Nat
  | .node _ _ ks => sizeL ks + 1
def sizeL : List Tree → Nat
  | [] => 0
  | k :: ks => Tree.size k + sizeL ks
end
theorem Tree.size_eq (t : Tree) : t.size = sizeL t.kids + 1 := by cases t; simp [Tree.size, Tree.kids]
theorem Tree.size_pos (t : Tree) : 0 < t.size := by rw [Tree.size_eq]; omega
theorem sizeL_get : ∀ {ks : List Tree} {i : Nat} (h : i < ks.length), ks[i].size ≤ sizeL ks
  | [], i, h => by simp at h
  | k :: ks, 0, h => by simp [sizeL]
  | k :: ks, i + 1, h => by have := sizeL_get (ks := ks) (i := i) (by simpa using h); simp [sizeL]; omega
theorem sizeL_len : ∀ (ks : List Tree), ks.length ≤ sizeL ks
  | [] => by simp
  | k :: ks => by have := sizeL_len ks; have := k.size_pos; simp [sizeL]; omega

def FreshB (w : World) : Nat → Prop := fun k => w.heap.size ≤ k
def TreePost (t : Tree) (w : World) (e : Ending) (w' : World) : Prop :=
  ∃ v, e = .returned (.agg #[.int .i64 t.rule, .int .i64 t.term, v]) ∧ Rd (FreshB w) w' (.sl (t.kids.map Tree.d)) [v] ∧ Below w.heap.size w w'
theorem elTree : ElemT Try.prog 40 42 3 40 := ElemT.mk' (z := .agg #[.int .i64 0, .int .i64 0, .slice none 0 0]) Try.underlying40 (by kernel_rfl) rfl (by decide)

/-- a row of trees that is being made, its header in the box b at the cell 2 -/
structure RowRel (T : Nat → Prop) (B b : Nat) (r tm : Int) (ts : List Tree) (vr : Value) (wr : World) : Prop where
  out : wr.heap[b]? = some (.cells #[.int .i64 r, .int .i64 tm, vr] 42 (0, 0))
  own : ∃ xs, wr.ownsRow B 42 3 vr ts.length xs ∧ RdAll (fun k => T k ∧ vr.ownBlock ≠ some k) wr (ts.map Tree.d) xs
  lt : b < B
  nt : ¬ T b
  le : B ≤ wr.heap.size
theorem RowRel.len {T : Nat → Prop} {B b : Nat} {r tm : Int} {ts : List Tree} {vr : Value} {wr : World} (h : RowRel T B b r tm ts vr wr) : ∃ a cap, vr = .slice a ts.length cap ∧ ts.length ≤ cap ∧ cap ≤ maxLen := by
  obtain ⟨xs, h1, _⟩ := h.own; exact own_len h1
theorem RowRel.keep {T : Nat → Prop} {B b : Nat} {r tm : Int} {ts : List Tree} {vr : Value} {wr w' : World} (h : RowRel T B b r tm ts vr wr) (hb : Below wr.heap.size wr w') : RowRel T B b r tm ts vr w' := by
  obtain ⟨xs, h1, h2⟩ := h.own
  exact ⟨bx_keep h.out hb, ⟨xs, own_keep h1 hb, h2.below hb⟩, h.lt, h.nt, Nat.le_trans h.le hb.size⟩
/-- behind the append of a tree, and the store of the new header -/
theorem RowRel.step {T : Nat → Prop} {B b g cap n : Nat} {r tm : Int} {ts : List Tree} {t : Tree} {vr v : Value} {w2 w3 : World} {xs : List Value} (h : RowRel T B b r tm ts vr w2) (hn : ts.length = n) (ho : w2.ownsRow B 42 3 vr n xs) (hd : RdAll (fun k => T k ∧ vr.ownBlock ≠ some k) w2 (ts.map Tree.d) xs)
    (hr : Rd (fun k => T k ∧ vr.ownBlock ≠ some k) w2 (.sl (t.kids.map Tree.d)) [v])
    (ho3 : w3.ownsRow B 42 3 (.slice (some ⟨g, 0, none⟩) (n + 1) cap) (n + 1) (xs ++ [.int .i64 t.rule, .int .i64 t.term, v])) (hg : w2.grownBy w3 vr.ownBlock) (hat : vr.ownBlock = some g ∨ w2.heap.size ≤ g) :
    w3.heap[b]? = some (.cells #[.int .i64 r, .int .i64 tm, vr] 42 (0, 0)) ∧ RowRel T B b r tm (ts ++ [t]) (.slice (some ⟨g, 0, none⟩) (n + 1) cap) (w3.setCell ⟨b, 2, none⟩ (.slice (some ⟨g, 0, none⟩) (n + 1) cap)) := by
  have hlt := (Array.getElem?_eq_some_iff.1 h.out).1
  have hb3 : w3.heap[b]? = some (.cells #[.int .i64 r, .int .i64 tm, vr] 42 (0, 0)) := by
    rw [hg.block b hlt (fun e => by have := (ho.lt b e.symm).1; have := h.lt; omega)]; exact h.out
  have hne : b ≠ g := by
    have h1 := (ho3.lt g rfl).1
    have := h.lt; omega
  refine ⟨hb3, ?_, ⟨xs ++ [.int .i64 t.rule, .int .i64 t.term, v], ?_, ?_⟩, h.lt, h.nt, by simp [World.setCell]; exact Nat.le_trans h.le hg.size⟩
  · rw [bx_set hb3]; rfl
  · rw [List.length_append, hn]
    exact ho3.kept (grown_cell w3 ⟨b, 2, none⟩ _) (.inr (by simpa [Value.ownBlock] using fun e => hne e.symm))
  · have h1 := own_step (S := T) (v' := .slice (some ⟨g, 0, none⟩) (n + 1) cap) hd (RdAll.one (rd_tree hr)) hg (by
      rcases hat with e | e
      · exact .inl e.symm
      · exact .inr ⟨g, rfl, e⟩)
    rw [List.map_append]
    refine RdAll.keep (fun k hk _ => ⟨hk, Below.heap_setCell _ _ _ _ ?_⟩) _ _ h1
    intro e
    simp at e
    subst e
    exact h.nt hk.1

structure CopyRel (t : Tree) (w : World) (i : Nat) (vr : Value) (wr : World) : Prop where
  row : RowRel (fun k => w.heap.size + 1 + 1 + 1 ≤ k) (w.heap.size + 1 + 1 + 1) (w.heap.size + 1 + 1) t.rule t.term (t.kids.take i) vr wr
  res : wr.heap[w.heap.size + 1]? = some (.cells #[.int .i64 0, .int .i64 0, .slice none 0 0] 42 (0, 0))
  bel : Below w.heap.size w wr

/-- a result box, stored into: it is new memory alone -/
theorem below_box3 {B b : Nat} {w w' : World} (h : Below B w w') (hb : B ≤ b) (x y z : Value) : Below B w (((w'.setCell ⟨b, 0, none⟩ x).setCell ⟨b, 1, none⟩ y).setCell ⟨b, 2, none⟩ z) :=
  ((h.setCell (p := ⟨b, 0, none⟩) hb x).setCell (p := ⟨b, 1, none⟩) hb y).setCell (p := ⟨b, 2, none⟩) hb z
theorem grown_box3 (b : Nat) (w : World) (x y z : Value) : w.grownBy (((w.setCell ⟨b, 0, none⟩ x).setCell ⟨b, 1, none⟩ y).setCell ⟨b, 2, none⟩ z) (some b) := grown_trans (grown_trans (grown_cell _ _ _) (grown_cell _ _ _)) (grown_cell _ _ _)
theorem Rd.box3 {S : Nat → Prop} {w : World} {d : D} {cs : List Value} (h : Rd S w d cs) {b : Nat} (hb : ¬ S b) (x y z : Value) : Rd S (((w.setCell ⟨b, 0, none⟩ x).setCell ⟨b, 1, none⟩ y).setCell ⟨b, 2, none⟩ z) d cs :=
  Rd.keep (fun k hk hlt => ⟨hk, (grown_box3 b w x y z).block k hlt (fun e => by cases e; exact hb hk)⟩) d cs h

end Go.Proofs.Ytbnpemgmdnghgaa
namespace Go.Proofs.Ytbnpemgmdnghgaa
open Go.RowKit

def kidAt (t : Tree) (i : Int) : Option Tree := if t.rule = -1 ∨ i < 0 then none else t.kids[i.toNat]?
def belowT : Tree → List Int → Option Tree
  | t, [] => some t
  | t, i :: p => (kidAt t i).bind fun k => belowT k p
theorem belowT_drop {t : Tree} {p : List Int} {i : Nat} (h : i < p.length) : belowT t (p.drop i) = (kidAt t p[i]).bind fun k => belowT k (p.drop (i + 1)) := by
  rw [List.drop_eq_getElem_cons h, belowT]
theorem kidAt_leaf {t : Tree} {i : Int} (h : t.rule = -1) : kidAt t i = none := by simp [kidAt, h]
theorem kidAt_neg {t : Tree} {i : Int} (h : i < 0) : kidAt t i = none := by simp [kidAt, h]
theorem kidAt_out {t : Tree} {i : Nat} (h : t.kids.length ≤ i) : kidAt t (i : Int) = none := by
  unfold kidAt
  by_cases e : t.rule = -1 <;> simp [e, h]
theorem kidAt_in {t : Tree} {i : Nat} (hr : t.rule ≠ -1) (h : i < t.kids.length) : kidAt t (i : Int) = some t.kids[i] := by
  simp [kidAt, hr, h]

def noTree : Tree := .node 0 0 []
theorem bx_set3 {w : World} {b : Nat} {x0 x1 x2 : Value} {T : TypeId} (h : w.heap[b]? = some (.cells #[x0, x1, x2] T (0, 0))) (y0 y1 y2 : Value) : (((w.setCell ⟨b, 0, none⟩ y0).setCell ⟨b, 1, none⟩ y1).setCell ⟨b, 2, none⟩ y2).heap[b]? = some (.cells #[y0, y1, y2] T (0, 0)) := by
  rw [bx_set (bx_set (bx_set h 0 y0) 1 y1) 2 y2]; rfl
theorem bx_other3 {w : World} {b c : Nat} {o : Obj} (h : w.heap[b]? = some o) (hne : b ≠ c) (y0 y1 y2 : Value) : (((w.setCell ⟨c, 0, none⟩ y0).setCell ⟨c, 1, none⟩ y1).setCell ⟨c, 2, none⟩ y2).heap[b]? = some o :=
  bx_other (bx_other (bx_other h hne _ _) hne _ _) hne _ _

/-- the state of the loops: the tree that is come to lies in the parameter's box -/
structure DescRel (t : Tree) (p : List Int) (w : World) (i : Nat) (cur : Tree) (v : Value) (wr : World) : Prop where
  box : wr.heap[w.heap.size]? = some (.cells #[.int .i64 cur.rule, .int .i64 cur.term, v] 42 (0, 0))
  kid : Rd AnyB w (.sl (cur.kids.map Tree.d)) [v]
  res : wr.heap[w.heap.size + 1]? = some (.cells #[.int .i64 0, .int .i64 0, .slice none 0 0] 42 (0, 0))
  eq : belowT cur (p.drop i) = belowT t p
  bel : Below w.heap.size w wr
theorem DescRel.step {t cur k : Tree} {p : List Int} {w wr : World} {i : Nat} {v u : Value} (h : DescRel t p w i cur v wr) (hi : i < p.length) (hk : kidAt cur p[i] = some k) (hu : Rd AnyB w (.sl (k.kids.map Tree.d)) [u]) :
    DescRel t p w (i + 1) k u (((wr.setCell ⟨w.heap.size, 0, none⟩ (.int .i64 k.rule)).setCell ⟨w.heap.size, 1, none⟩ (.int .i64 k.term)).setCell ⟨w.heap.size, 2, none⟩ u) :=
  ⟨bx_set3 h.box _ _ _, hu, bx_other3 h.res (by omega) _ _ _, by rw [← h.eq, belowT_drop hi, hk]; rfl, below_box3 h.bel (Nat.le_refl _) _ _ _⟩

def DescPost (x : Option Tree) (c : Option Tree → Value) (w : World) (e : Ending) (w' : World) : Prop :=
  ∃ v, e = .returned (.tuple #[.agg #[.int .i64 (x.getD noTree).rule, .int .i64 (x.getD noTree).term, v], c x]) ∧ Rd AnyB w' (.sl ((x.getD noTree).kids.map Tree.d)) [v] ∧ Below w.heap.size w w'
def foundB (x : Option Tree) : Value := .bool x.isSome
def foundE (x : Option Tree) : Value := .int .i64 (if x.isSome then 0 else 5)

theorem desc0 {t : Tree} {p : List Int} {a : Option Addr} {n cap : Nat} {w : World} (hv : Rd AnyB w (.sl (t.kids.map Tree.d)) [.slice a n cap]) :
    DescRel t p w 0 t (.slice a n cap) ((w.alloc (.cells #[.int .i64 t.rule, .int .i64 t.term, .slice a n cap] 42)).alloc (.cells #[.int .i64 0, .int .i64 0, .slice none 0 0] 42)) :=
  ⟨bx_keep (bx_new _ _ _ rfl) ((Below.refl _ _).alloc (Nat.le_refl _) _), hv, bx_new _ _ _ (by simp), rfl, ((Below.refl _ _).alloc (Nat.le_refl _) _).alloc (by simp) _⟩

end Go.Proofs.Ytbnpemgmdnghgaa
namespace Go.Proofs.Ytbnpemgmdnghgaa
open Go.RowKit

theorem kidAt_of (t : Tree) (i : Int) : kidAt t i = if i < 0 then none else (kidsOf t)[i.toNat]? := by
  unfold kidAt kidsOf
  by_cases h : t.rule = -1 <;> by_cases h2 : i < 0 <;> simp [h, h2]
theorem DescRel.keep {t : Tree} {p : List Int} {w : World} {i : Nat} {cur : Tree} {v : Value} {wr w' : World} (h : DescRel t p w i cur v wr) (hb : Below wr.heap.size wr w') : DescRel t p w i cur v w' :=
  ⟨bx_keep h.box hb, h.kid, bx_keep h.res hb, h.eq, h.bel.trans (hb.mono h.bel.size)⟩
mutual
theorem size_mono : ∀ (t : Tree), ∀ k ∈ t.kids, k.size < t.size
  | .node r tm ks => by
    intro k hk
    have := sizeL_mem ks k hk
    simp [Tree.size]; omega
theorem sizeL_mem : ∀ (ks : List Tree), ∀ k ∈ ks, k.size ≤ sizeL ks
  | [], k, h => by simp at h
  | x :: ks, k, h => by
    rcases List.mem_cons.1 h with rfl | h
    · simp [sizeL]
    · have := sizeL_mem ks k h; simp [sizeL]; omega
end
theorem belowT_size : ∀ (p : List Int) (t x : Tree), belowT t p = some x → x.size ≤ t.size
  | [], t, x, h => by simp [belowT] at h; subst h; exact Nat.le_refl _
  | i :: p, t, x, h => by
    rw [belowT] at h
    cases hk : kidAt t i with
    | none => rw [hk] at h; simp at h
    | some k =>
      rw [hk] at h
      have h1 := belowT_size p k x h
      have h2 : k ∈ t.kids := by
        unfold kidAt at hk
        split at hk
        · cases hk
        · exact List.mem_of_getElem? hk
      have := size_mono t k h2
      omega

/-- what was found lies in new memory -/
def FndPost (x : Option Tree) (w : World) (e : Ending) (w' : World) : Prop :=
  ∃ v, e = .returned (.tuple #[.agg #[.int .i64 (x.getD noTree).rule, .int .i64 (x.getD noTree).term, v], foundE x]) ∧ Rd (FreshB w) w' (.sl ((x.getD noTree).kids.map Tree.d)) [v] ∧ Below w.heap.size w w'

theorem FndPost.desc {x : Option Tree} {w : World} {e : Ending} {w' : World} (h : FndPost x w e w') : DescPost x foundE w e w' := by
  obtain ⟨v, rfl, h1, h2⟩ := h
  exact ⟨v, rfl, h1.any, h2⟩
end Go.Proofs.Ytbnpemgmdnghgaa
namespace Go.Proofs.Ytbnpemgmdnghgaa
open Go.RowKit

def putT : Tree → List Int → Tree → Tree
  | _, [], s => s
  | t, i :: p, s => .node t.rule t.term (t.kids.mapIdx fun j k => if (j : Int) = i then putT k p s else k)
def putK (t : Tree) (i : Int) (p : List Int) (s : Tree) : List Tree := t.kids.mapIdx fun j k => if (j : Int) = i then putT k p s else k
theorem putT_cons (t : Tree) (i : Int) (p : List Int) (s : Tree) : putT t (i :: p) s = .node t.rule t.term (putK t i p s) := rfl
theorem putK_len (t : Tree) (i : Int) (p : List Int) (s : Tree) : (putK t i p s).length = t.kids.length := by simp [putK]
theorem putK_take {t : Tree} {i : Int} {p : List Int} {s : Tree} {j : Nat} (h : j < t.kids.length) : (putK t i p s).take (j + 1) = (putK t i p s).take j ++ [if (j : Int) = i then putT t.kids[j] p s else t.kids[j]] := by
  rw [List.take_succ_eq_append_getElem (by rw [putK_len]; exact h)]
  simp [putK]

def WithPost (S0 : Nat → Prop) (t : Tree) (w : World) (e : Ending) (w' : World) : Prop :=
  ∃ v, e = .returned (.agg #[.int .i64 t.rule, .int .i64 t.term, v]) ∧ Rd (fun k => S0 k ∨ w.heap.size ≤ k) w' (.sl (t.kids.map Tree.d)) [v] ∧ Below w.heap.size w w'

structure WithRel (S0 : Nat → Prop) (t s : Tree) (vs : Value) (K : List Tree) (w : World) (i : Nat) (vr : Value) (wr : World) : Prop where
  row : RowRel (fun k => S0 k ∨ w.heap.size + 1 + 1 + 1 + 1 ≤ k) (w.heap.size + 1 + 1 + 1 + 1) (w.heap.size + 1 + 1 + 1) t.rule t.term (K.take i) vr wr
  res : wr.heap[w.heap.size + 1 + 1]? = some (.cells #[.int .i64 0, .int .i64 0, .slice none 0 0] 42 (0, 0))
  sub : wr.heap[w.heap.size + 1]? = some (.cells #[.int .i64 s.rule, .int .i64 s.term, vs] 42 (0, 0))
  bel : Below w.heap.size w wr

theorem WithRel.next {S0 : Nat → Prop} {t s pt : Tree} {vs u vr : Value} {K : List Tree} {w wr w3 w4 : World} {i g cap4 : Nat} {xs : List Value} (h : WithRel S0 t s vs K w i vr wr) (hb : Below wr.heap.size wr w3) (htl : (K.take i).length = i)
    (ho : wr.ownsRow (w.heap.size + 1 + 1 + 1 + 1) 42 3 vr i xs) (hd : RdAll (fun k => (S0 k ∨ w.heap.size + 1 + 1 + 1 + 1 ≤ k) ∧ vr.ownBlock ≠ some k) wr ((K.take i).map Tree.d) xs) (hk : K.take (i + 1) = K.take i ++ [pt])
    (hr : Rd (fun k => (S0 k ∨ w.heap.size + 1 + 1 + 1 + 1 ≤ k) ∧ vr.ownBlock ≠ some k) w3 (.sl (pt.kids.map Tree.d)) [u])
    (ho4 : w4.ownsRow (w.heap.size + 1 + 1 + 1 + 1) 42 3 (.slice (some ⟨g, 0, none⟩) (i + 1) cap4) (i + 1) (xs ++ [.int .i64 pt.rule, .int .i64 pt.term, u])) (hg : w3.grownBy w4 vr.ownBlock) (hat : vr.ownBlock = some g ∨ w3.heap.size ≤ g) :
    w4.heap[w.heap.size + 1 + 1 + 1]? = some (.cells #[.int .i64 t.rule, .int .i64 t.term, vr] 42 (0, 0)) ∧ WithRel S0 t s vs K w (i + 1) (.slice (some ⟨g, 0, none⟩) (i + 1) cap4) (w4.setCell ⟨w.heap.size + 1 + 1 + 1, 2, none⟩ (.slice (some ⟨g, 0, none⟩) (i + 1) cap4)) := by
  have hst := RowRel.step (h.row.keep hb) htl (own_keep ho hb) (hd.below hb) hr ho4 hg hat
  have hle := h.row.le
  have hsz := hb.size
  have hother : ∀ k, k < w.heap.size + 1 + 1 + 1 + 1 → k < wr.heap.size → w4.heap[k]? = w3.heap[k]? := fun k hk hlt => hg.block k (by omega) (fun e => by have := (ho.lt k e.symm).1; omega)
  refine ⟨hst.1, ⟨by rw [hk]; exact hst.2, ?_, ?_, ?_⟩⟩
  · refine bx_other ?_ (by omega) _ _
    rw [hother _ (by omega) (by omega)]; exact bx_keep h.res hb
  · refine bx_other ?_ (by omega) _ _
    rw [hother _ (by omega) (by omega)]; exact bx_keep h.sub hb
  · exact ((h.bel.trans (hb.mono h.bel.size)).grown hg (by have := h.bel.size; omega) (fun k e => by have := (ho.lt k e).1; omega)).setCell (by simp; omega) _

/-- the rest of a path -/
theorem sl_tail {w : World} {a : Option Addr} {cap : Nat} {x : Int} {p : List Int} (h : Sl w (.slice a (x :: p).length cap) (ints (x :: p))) : Sl w (.slice (if cap = 1 then a else a.map fun y => y.add 1) p.length (cap - 1)) (ints p) := by
  have h1 := h.part (i := 1) (j := (x :: p).length) (by simp) (Nat.le_refl _)
  have e : ((ints (x :: p)).drop 1).take ((x :: p).length - 1) = ints p := by simp [ints, List.take_of_length_le]
  rw [e] at h1
  simpa using h1
end Go.Proofs.Ytbnpemgmdnghgaa
