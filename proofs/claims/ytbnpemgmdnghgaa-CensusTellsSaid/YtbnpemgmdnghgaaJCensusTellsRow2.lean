/- Plain: what a census asks: which lengths lists of symbols can have; why counting ends. Plain: the edges of a census, the passes of its tables; why counting ends. Plain: all trees of a symbol with a length, in order; how many, and which has a number. Plain: which tree has a number: first the rule, then the lengths. A table of numbers in memory, that is being filled. Rows of nested data of the call's own: append of one datum, of a slice of data. -/
import Derived.Test.YtbnpemgmdnghgaaJCensusTellsRow1
import Derived.Deep.OwnRows
namespace Go.Proofs.Ytbnpemgmdnghgaa
open Go.RowKit
namespace Cs

def hasK (S : Nat → Nat → Bool) (s : Sym) (k : Nat) : Bool := if s.term then decide (k = 1) else S s.n.toNat k
def canK (S : Nat → Nat → Bool) : List Sym → Nat → Bool
  | [], k => decide (k = 0)
  | s :: l, k => (List.range (k + 1)).any fun i => hasK S s i && canK S l (k - i)
def splitK (S : Nat → Nat → Bool) (a b : List Sym) (k : Nat) : Bool := (List.range (k + 1)).any fun i => canK S a i && canK S b (k - i)
theorem canK_cons {S : Nat → Nat → Bool} {s : Sym} {l : List Sym} {k : Nat} : canK S (s :: l) k = true ↔ ∃ i, i ≤ k ∧ hasK S s i = true ∧ canK S l (k - i) = true := by
  rw [canK, List.any_eq_true]
  constructor
  · rintro ⟨i, hi, h⟩
    rw [Bool.and_eq_true] at h
    exact ⟨i, by have := List.mem_range.1 hi; omega, h⟩
  · rintro ⟨i, hi, h1, h2⟩
    exact ⟨i, List.mem_range.2 (by omega), by rw [h1, h2]; rfl⟩
theorem splitK_iff {S : Nat → Nat → Bool} {a b : List Sym} {k : Nat} : splitK S a b k = true ↔ ∃ i, i ≤ k ∧ canK S a i = true ∧ canK S b (k - i) = true := by
  rw [splitK, List.any_eq_true]
  constructor
  · rintro ⟨i, hi, h⟩
    rw [Bool.and_eq_true] at h
    exact ⟨i, by have := List.mem_range.1 hi; omega, h⟩
  · rintro ⟨i, hi, h1, h2⟩
    exact ⟨i, List.mem_range.2 (by omega), by rw [h1, h2]; rfl⟩
/-- a list of at most so many trees of symbols, in which all that is asked for is good -/
def Fine (S : Nat → Nat → Bool) (G : Nat → Nat → Prop) (l : List Sym) (k : Nat) : Prop :=
  ∀ (p : Nat) (s : Sym) (i a : Nat), l[p]? = some s → s.term = false → S s.n.toNat i = true → a + i ≤ k → canK S (l.take p) a = true → canK S (l.drop (p + 1)) (k - a - i) = true → G s.n.toNat i
theorem Fine.head {S : Nat → Nat → Bool} {G : Nat → Nat → Prop} {s : Sym} {l : List Sym} {k i : Nat} (h : Fine S G (s :: l) k) (hi : i ≤ k) (h1 : hasK S s i = true) (h2 : canK S l (k - i) = true) (ht : s.term = false) : G s.n.toNat i := by
  refine h 0 s i 0 rfl ht ?_ (by omega) rfl (by simpa using h2)
  unfold hasK at h1
  rw [ht] at h1
  simpa using h1
theorem Fine.tail {S : Nat → Nat → Bool} {G : Nat → Nat → Prop} {s : Sym} {l : List Sym} {k i : Nat} (h : Fine S G (s :: l) k) (hi : i ≤ k) (h1 : hasK S s i = true) : Fine S G l (k - i) := by
  intro p s' j a hp ht hS ha h2 h3
  refine h (p + 1) s' j (i + a) hp ht hS (by omega) ?_ ?_
  · rw [List.take_succ_cons, canK_cons]
    exact ⟨i, by omega, h1, by rw [Nat.add_sub_cancel_left]; exact h2⟩
  · rw [List.drop_succ_cons]
    have : k - (i + a) - j = k - i - a - j := by omega
    rw [this]; exact h3
/-- how many nodes a node leads to -/
def reachN (T : Nat → Nat → Bool) (size u : Nat) : Nat := ((List.range size).filter fun v => T u v).length
theorem reachN_lt {T : Nat → Nat → Bool} {size u v : Nat} (hT : ∀ i k j, T i k = true → T k j = true → T i j = true) (huv : T u v = true) (hv : v < size) (hvv : T v v = false) : reachN T size v < reachN T size u := by
  unfold reachN
  have key : ∀ n, ((List.range n).filter fun w => T v w).length + (if v < n then 1 else 0) ≤ ((List.range n).filter fun w => T u w).length := by
    intro n
    induction n with
    | zero => simp
    | succ n ih =>
      rw [List.range_succ, List.filter_append, List.filter_append, List.length_append, List.length_append]
      by_cases e : v = n
      · subst e
        rw [if_neg (by omega)] at ih
        rw [if_pos (by omega)]
        simp [huv, hvv] at ih ⊢
        exact ih
      · have e2 : (if v < n + 1 then 1 else 0) = (if v < n then 1 else 0) := by
          by_cases h : v < n
          · rw [if_pos h, if_pos (by omega)]
          · rw [if_neg h, if_neg (by omega)]
        rw [e2]
        cases h : T v n with
        | false => simp [h]; omega
        | true =>
          have := hT u v n huv h
          simp [h, this]; omega
  have := key size
  rw [if_pos hv] at this
  omega
theorem reachN_le (T : Nat → Nat → Bool) (size u : Nat) : reachN T size u ≤ size := by
  unfold reachN
  refine Nat.le_trans (List.length_filter_le _ _) ?_
  rw [List.length_range]; exact Nat.le_refl _
/-- a table of truth values as edges -/
def edg (size : Nat) (F : Nat → Nat → Bool) : List (Nat × Nat) := (List.range size).flatMap fun i => ((List.range size).filter fun j => F i j).map fun j => (i, j)
theorem edg_mem {size : Nat} {F : Nat → Nat → Bool} {i j : Nat} : (i, j) ∈ edg size F ↔ i < size ∧ j < size ∧ F i j = true := by
  unfold edg
  rw [List.mem_flatMap]
  constructor
  · rintro ⟨a, ha, h⟩
    obtain ⟨b, hb, e⟩ := List.mem_map.1 h
    cases e
    rw [List.mem_filter] at hb
    exact ⟨List.mem_range.1 ha, List.mem_range.1 hb.1, hb.2⟩
  · rintro ⟨h1, h2, h3⟩
    exact ⟨i, List.mem_range.2 h1, List.mem_map.2 ⟨j, List.mem_filter.2 ⟨List.mem_range.2 h2, h3⟩, rfl⟩⟩
theorem edg_lt {size : Nat} {F : Nat → Nat → Bool} : ∀ e ∈ edg size F, e.1 < size ∧ e.2 < size := by
  rintro ⟨i, j⟩ h
  obtain ⟨h1, h2, _⟩ := edg_mem.1 h
  exact ⟨h1, h2⟩
theorem fw_zero {size : Nat} {F : Nat → Nat → Bool} {i j : Nat} (hi : i < size) (hj : j < size) : fw (edg size F) 0 i j = F i j := by
  rw [fw, Bool.eq_iff_iff, decide_eq_true_iff, edg_mem]
  exact ⟨fun h => h.2.2, fun h => ⟨hi, hj, h⟩⟩
/-- all that a node leads to -/
def clo (size : Nat) (F : Nat → Nat → Bool) (i j : Nat) : Bool := fw (edg size F) size i j
theorem clo_edge {size : Nat} {F : Nat → Nat → Bool} {i j : Nat} (hi : i < size) (hj : j < size) (h : F i j = true) : clo size F i j = true := fw_edge (edg_mem.2 ⟨hi, hj, h⟩) size
theorem pth_ends {E : List (Nat × Nat)} {N i j : Nat} (hE : ∀ e ∈ E, e.1 < N ∧ e.2 < N) (h : Pth E i j) : i < N ∧ j < N := by
  induction h with
  | one h => exact hE _ h
  | cons h _ ih => exact ⟨(hE _ h).1, ih.2⟩
theorem clo_lt {size : Nat} {F : Nat → Nat → Bool} {i j : Nat} (h : clo size F i j = true) : i < size ∧ j < size := pth_ends edg_lt ((fw_iff edg_lt).1 h)
theorem clo_trans {size : Nat} {F : Nat → Nat → Bool} : ∀ i k j, clo size F i k = true → clo size F k j = true → clo size F i j = true := fun _ _ _ h1 h2 =>
  (fw_iff edg_lt).2 (((fw_iff edg_lt).1 h1).trans ((fw_iff edg_lt).1 h2))
/-- what leads to itself, or to such: looked at below jm -/
def manyK (T : Nat → Nat → Bool) (jm u : Nat) : Bool := (List.range jm).any fun j => (u == j || T u j) && T j j
theorem manyK_not {T : Nat → Nat → Bool} {size u : Nat} (h : manyK T size u = false) {j : Nat} (hj : j < size) (h1 : u = j ∨ T u j = true) : T j j = false := by
  unfold manyK at h
  rw [List.any_eq_false] at h
  have := h j (List.mem_range.2 hj)
  cases e : T j j with
  | false => rfl
  | true =>
    rw [e] at this
    rcases h1 with rfl | h1
    · simp at this
    · simp [h1] at this
/-- the sum over ways of a list, as the program reckons it -/
def listStep (cap : Int) (sum o l : Int) : Int := min (IntKind.i64.wrap (sum + IntKind.i64.wrap (o * l))) cap
def listV (S : Nat → Nat → Bool) (cap : Int) (o : Sym → Nat → Int) : List Sym → Nat → Int
  | [], k => if k = 0 then 1 else 0
  | s :: l, k => (List.range (k + 1)).foldl (fun sum i => if (hasK S s i && canK S l (k - i)) = true then listStep cap sum (o s i) (listV S cap o l (k - i)) else sum) 0
def symV (S : Nat → Nat → Bool) (f : Nat → Nat → Int) (s : Sym) (k : Nat) : Int := if hasK S s k = false then 0 else if s.term then 1 else f s.n.toNat k
def ofF (rules : List Rule) (S M : Nat → Nat → Bool) (cap many : Int) : Nat → Nat → Nat → Int
  | 0, _, _ => 0
  | f + 1, A, k => if S A k = false then 0 else if M A k then many else rules.foldl (fun sum r => if r.left = (A : Int) then min (IntKind.i64.wrap (sum + listV S cap (symV S (ofF rules S M cap many f)) r.right k)) cap else sum) 0
theorem foldl_same {α β : Type} {f g : β → α → β} : ∀ (l : List α) (b : β), (∀ b a, a ∈ l → f b a = g b a) → l.foldl f b = l.foldl g b
  | [], _, _ => rfl
  | a :: l, b, h => by
    rw [List.foldl_cons, List.foldl_cons, h b a List.mem_cons_self]
    exact foldl_same l _ fun b' a' h' => h b' a' (List.mem_cons_of_mem _ h')
theorem listV_same {S : Nat → Nat → Bool} {cap : Int} {o o' : Sym → Nat → Int} {G : Nat → Nat → Prop} (ho : ∀ (s : Sym) (i : Nat), s.term = true → o s i = o' s i) (hG : ∀ (s : Sym) (i : Nat), s.term = false → G s.n.toNat i → o s i = o' s i) :
    ∀ (l : List Sym) (k : Nat), Fine S G l k → listV S cap o l k = listV S cap o' l k
  | [], _, _ => rfl
  | s :: l, k, h => by
    rw [listV, listV]
    refine foldl_same _ _ fun b i hi => ?_
    have hik : i ≤ k := by have := List.mem_range.1 hi; omega
    by_cases e : (hasK S s i && canK S l (k - i)) = true
    · rw [if_pos e, if_pos e]
      rw [Bool.and_eq_true] at e
      rw [listV_same ho hG l (k - i) (h.tail hik e.1)]
      cases ht : s.term with
      | true => rw [ho s i ht]
      | false => rw [hG s i ht (h.head hik e.1 e.2 ht)]
    · rw [if_neg e, if_neg e]
/-- a node from which counting ends, in so many steps -/
def okK (T M : Nat → Nat → Bool) (n size f A k : Nat) : Prop := M A k = true ∨ reachN T size (A * (n + 1) + k) < f
/-- all that is asked for at a node leads to fewer nodes -/
def EndsK (rules : List Rule) (S M T : Nat → Nat → Bool) (N n size : Nat) : Prop :=
  ∀ (A k : Nat) (r : Rule), A < N → k ≤ n → M A k = false → r ∈ rules → r.left = (A : Int) → Fine S (fun B j => B < N ∧ j ≤ n ∧ okK T M n size (reachN T size (A * (n + 1) + k)) B j) r.right k
section
variable {rules : List Rule} {S M T : Nat → Nat → Bool} {N n size : Nat} {cap many : Int}
theorem okK.mono {f f' A k : Nat} (h : okK T M n size f A k) (hf : f ≤ f') : okK T M n size f' A k := h.imp id fun h => by omega
theorem ofF_stable (hE : EndsK rules S M T N n size) : ∀ (f A k : Nat), A < N → k ≤ n → okK T M n size f A k → ∀ f', f ≤ f' → ofF rules S M cap many (f' + 1) A k = ofF rules S M cap many (f + 1) A k := by
  intro f
  induction f with
  | zero =>
    intro A k hA hk h f' _
    rcases h with h | h
    · rw [ofF, ofF, h]; rfl
    · omega
  | succ f ih =>
    intro A k hA hk h f' hf
    by_cases hM : M A k = true
    · rw [ofF, ofF, hM]; rfl
    · have hM' : M A k = false := by simpa using hM
      have hr : reachN T size (A * (n + 1) + k) < f + 1 := h.resolve_left hM
      obtain ⟨f0, rfl⟩ : ∃ f0, f' = f0 + 1 := ⟨f' - 1, by omega⟩
      rw [ofF, ofF, hM']
      by_cases hS : S A k = false
      · rw [if_pos hS, if_pos hS]
      · rw [if_neg hS, if_neg hS]
        simp only [Bool.false_eq_true, if_false]
        refine foldl_same _ _ fun b r hr' => ?_
        by_cases hl : r.left = (A : Int)
        · rw [if_pos hl, if_pos hl]
          have := hE A k r hA hk hM' hr' hl
          have h1 : ∀ (s : Sym) (i : Nat), s.term = true → symV S (ofF rules S M cap many (f0 + 1)) s i = symV S (ofF rules S M cap many (f + 1)) s i := fun s i ht => by unfold symV; simp [ht]
          have h2 : ∀ (s : Sym) (i : Nat), s.term = false → (s.n.toNat < N ∧ i ≤ n ∧ okK T M n size (reachN T size (A * (n + 1) + k)) s.n.toNat i) → symV S (ofF rules S M cap many (f0 + 1)) s i = symV S (ofF rules S M cap many (f + 1)) s i := fun s i ht hg => by
            unfold symV
            simp only [ht, Bool.false_eq_true, if_false]
            rw [ih _ _ hg.1 hg.2.1 (hg.2.2.mono (by omega)) f0 (by omega)]
          rw [listV_same (G := fun B j => B < N ∧ j ≤ n ∧ okK T M n size (reachN T size (A * (n + 1) + k)) B j) h1 h2 r.right k this]
        · rw [if_neg hl, if_neg hl]
/-- the number of trees, as the program reckons it -/
def valK (rules : List Rule) (S M : Nat → Nat → Bool) (cap many : Int) (size : Nat) (A k : Nat) : Int := ofF rules S M cap many (size + 2) A k
theorem valK_eq (hE : EndsK rules S M T N n size) {A k : Nat} (hA : A < N) (hk : k ≤ n) :
    valK rules S M cap many size A k = if S A k = false then 0 else if M A k then many else rules.foldl (fun sum r => if r.left = (A : Int) then min (IntKind.i64.wrap (sum + listV S cap (symV S (valK rules S M cap many size)) r.right k)) cap else sum) 0 := by
  unfold valK
  rw [ofF]
  by_cases hS : S A k = false
  · rw [if_pos hS, if_pos hS]
  · rw [if_neg hS, if_neg hS]
    by_cases hM : M A k = true
    · rw [if_pos hM, if_pos hM]
    · rw [if_neg hM, if_neg hM]
      have hM' : M A k = false := by simpa using hM
      refine foldl_same _ _ fun b r hr' => ?_
      by_cases hl : r.left = (A : Int)
      · rw [if_pos hl, if_pos hl]
        have h1 : ∀ (s : Sym) (i : Nat), s.term = true → symV S (ofF rules S M cap many (size + 1)) s i = symV S (fun A k => ofF rules S M cap many (size + 2) A k) s i := fun s i ht => by unfold symV; simp [ht]
        have h2 : ∀ (s : Sym) (i : Nat), s.term = false → (s.n.toNat < N ∧ i ≤ n ∧ okK T M n size (reachN T size (A * (n + 1) + k)) s.n.toNat i) → symV S (ofF rules S M cap many (size + 1)) s i = symV S (fun A k => ofF rules S M cap many (size + 2) A k) s i := fun s i ht hg => by
          have hs := reachN_le T size (A * (n + 1) + k)
          have e1 := ofF_stable (cap := cap) (many := many) hE (reachN T size (A * (n + 1) + k)) _ _ hg.1 hg.2.1 hg.2.2 size hs
          have e2 := ofF_stable (cap := cap) (many := many) hE (reachN T size (A * (n + 1) + k)) _ _ hg.1 hg.2.1 hg.2.2 (size + 1) (by omega)
          unfold symV
          simp only [ht, Bool.false_eq_true, if_false]
          rw [e1, e2]
        rw [listV_same (G := fun B j => B < N ∧ j ≤ n ∧ okK T M n size (reachN T size (A * (n + 1) + k)) B j) h1 h2 r.right k (hE A k r hA hk hM' hr' hl)]
      · rw [if_neg hl, if_neg hl]
theorem okK_all (f A k : Nat) (hf : size < f) : okK T M n size f A k := .inr (Nat.lt_of_le_of_lt (reachN_le _ _ _) hf)
end
end Cs
end Go.Proofs.Ytbnpemgmdnghgaa
namespace Go.Proofs.Ytbnpemgmdnghgaa
open Go.RowKit
namespace Cs

def updB (F : Nat → Nat → Bool) (a b : Nat) : Nat → Nat → Bool := fun k l => if k = a ∧ l = b then true else F k l
theorem updB_ge {F : Nat → Nat → Bool} {a b k l : Nat} (h : F k l = true) : updB F a b k l = true := by unfold updB; split; rfl; exact h
theorem updB_at (F : Nat → Nat → Bool) (a b : Nat) : updB F a b a b = true := by unfold updB; rw [if_pos ⟨rfl, rfl⟩]
/-- one place: rule r at length k, symbol i, of length j -/
def e1 (S : Nat → Nat → Bool) (n : Nat) (r : Rule) (k i : Nat) (F : Nat → Nat → Bool) (j : Nat) : Nat → Nat → Bool :=
  if (S ((r.right.getD i ⟨true, 0⟩).n.toNat) j && splitK S (r.right.take i) (r.right.drop (i + 1)) (k - j)) = true then updB F (r.left.toNat * (n + 1) + k) ((r.right.getD i ⟨true, 0⟩).n.toNat * (n + 1) + j) else F
def e2 (S : Nat → Nat → Bool) (n : Nat) (r : Rule) (k i : Nat) (F : Nat → Nat → Bool) (jm : Nat) : Nat → Nat → Bool := (List.range jm).foldl (e1 S n r k i) F
def e3 (S : Nat → Nat → Bool) (n : Nat) (r : Rule) (k : Nat) (F : Nat → Nat → Bool) (im : Nat) : Nat → Nat → Bool := (List.range im).foldl (fun F i => if (r.right.getD i ⟨true, 0⟩).term then F else e2 S n r k i F (k + 1)) F
def e4 (S : Nat → Nat → Bool) (n : Nat) (r : Rule) (F : Nat → Nat → Bool) (km : Nat) : Nat → Nat → Bool := (List.range km).foldl (fun F k => e3 S n r k F r.right.length) F
def e5 (S : Nat → Nat → Bool) (n : Nat) (l : List Rule) : Nat → Nat → Bool := l.foldl (fun F r => e4 S n r F (n + 1)) (fun _ _ => false)
theorem fold_ge {α β : Type} {P : β → Prop} {f : β → α → β} : ∀ (l : List α) (b : β), (∀ b a, P b → P (f b a)) → P b → P (l.foldl f b)
  | [], _, _, h => h
  | a :: l, b, hf, h => fold_ge l (f b a) hf (hf b a h)
theorem fold_hit {α β : Type} {P : β → Prop} {f : β → α → β} (hf : ∀ b a, P b → P (f b a)) : ∀ (l : List α) (b : β) (x : α), x ∈ l → (∀ b, P (f b x)) → P (l.foldl f b)
  | [], _, _, h, _ => by cases h
  | a :: l, b, x, h, hx => by
    rcases List.mem_cons.1 h with rfl | h
    · exact fold_ge l _ hf (hx b)
    · exact fold_hit hf l _ x h hx
section
variable {S : Nat → Nat → Bool} {n : Nat} {u v : Nat}
theorem e1_ge {r : Rule} {k i : Nat} (F : Nat → Nat → Bool) (j : Nat) (h : F u v = true) : e1 S n r k i F j u v = true := by unfold e1; split; exact updB_ge h; exact h
theorem e2_ge {r : Rule} {k i : Nat} (F : Nat → Nat → Bool) (jm : Nat) (h : F u v = true) : e2 S n r k i F jm u v = true := fold_ge (P := fun (F : Nat → Nat → Bool) => F u v = true) _ _ (fun (F : Nat → Nat → Bool) j h => e1_ge F j h) h
theorem e3_ge {r : Rule} {k : Nat} (F : Nat → Nat → Bool) (im : Nat) (h : F u v = true) : e3 S n r k F im u v = true := fold_ge (P := fun (F : Nat → Nat → Bool) => F u v = true) _ _ (fun (F : Nat → Nat → Bool) i h => by show (if _ then F else e2 S n r k i F (k + 1)) u v = true; split; exact h; exact e2_ge F _ h) h
theorem e4_ge {r : Rule} (F : Nat → Nat → Bool) (km : Nat) (h : F u v = true) : e4 S n r F km u v = true := fold_ge (P := fun (F : Nat → Nat → Bool) => F u v = true) _ _ (fun (F : Nat → Nat → Bool) k h => e3_ge F _ h) h
/-- all edges are there -/
theorem e5_hit {l : List Rule} {r : Rule} {k i j : Nat} {s : Sym} (hr : r ∈ l) (hk : k ≤ n) (hi : r.right[i]? = some s) (ht : s.term = false) (hj : j ≤ k) (hS : S s.n.toNat j = true) (hsp : splitK S (r.right.take i) (r.right.drop (i + 1)) (k - j) = true) :
    e5 S n l (r.left.toNat * (n + 1) + k) (s.n.toNat * (n + 1) + j) = true := by
  have hg : r.right.getD i ⟨true, 0⟩ = s := by rw [List.getD_eq_getElem?_getD, hi]; rfl
  have hil := (List.getElem?_eq_some_iff.1 hi).1
  unfold e5
  refine fold_hit (P := fun (F : Nat → Nat → Bool) => F (r.left.toNat * (n + 1) + k) (s.n.toNat * (n + 1) + j) = true) (fun F r' h => e4_ge F _ h) l _ r hr fun F => ?_
  unfold e4
  refine fold_hit (P := fun (F : Nat → Nat → Bool) => F (r.left.toNat * (n + 1) + k) (s.n.toNat * (n + 1) + j) = true) (fun F k' h => e3_ge F _ h) _ _ k (List.mem_range.2 (by omega)) fun F => ?_
  unfold e3
  refine fold_hit (P := fun (F : Nat → Nat → Bool) => F (r.left.toNat * (n + 1) + k) (s.n.toNat * (n + 1) + j) = true) (fun F i' h => by show (if _ then F else e2 S n r k i' F (k + 1)) _ _ = true; split; exact h; exact e2_ge F _ h) _ _ i (List.mem_range.2 hil) fun F => ?_
  rw [hg, ht]
  simp only [Bool.false_eq_true, if_false]
  unfold e2
  refine fold_hit (P := fun (F : Nat → Nat → Bool) => F (r.left.toNat * (n + 1) + k) (s.n.toNat * (n + 1) + j) = true) (fun F j' h => e1_ge F _ h) _ _ j (List.mem_range.2 (by omega)) fun F => ?_
  unfold e1
  rw [hg, hS, hsp]
  exact updB_at _ _ _
end
/-- which nodes have infinitely many trees -/
def sizeK (N n : Nat) : Nat := N * (n + 1)
def clK (rules : List Rule) (S : Nat → Nat → Bool) (N n : Nat) : Nat → Nat → Bool := clo (sizeK N n) (e5 S n rules)
def MK (rules : List Rule) (S : Nat → Nat → Bool) (N n : Nat) : Nat → Nat → Bool := fun A k => manyK (clK rules S N n) (sizeK N n) (A * (n + 1) + k)
theorem node_lt {N n A k : Nat} (hA : A < N) (hk : k ≤ n) : A * (n + 1) + k < sizeK N n := by
  unfold sizeK
  have : (A + 1) * (n + 1) ≤ N * (n + 1) := Nat.mul_le_mul_right _ hA
  rw [Nat.add_mul, Nat.one_mul] at this
  omega
theorem ends_MK {rules : List Rule} {S : Nat → Nat → Bool} {N n : Nat} (hok : ∀ r ∈ rules, ∀ s ∈ r.right, s.term = false → 0 ≤ s.n ∧ s.n.toNat < N) : EndsK rules S (MK rules S N n) (clK rules S N n) N n (sizeK N n) := by
  intro A k r hA hk hM hr hl p s i a hp ht hS ha h1 h2
  have hs := hok r hr s (List.mem_of_getElem? hp) ht
  have hin : i ≤ n := by omega
  refine ⟨hs.2, hin, ?_⟩
  have hu := node_lt (N := N) hA hk
  have hv := node_lt (N := N) hs.2 hin
  have hsp : splitK S (r.right.take p) (r.right.drop (p + 1)) (k - i) = true := splitK_iff.2 ⟨a, by omega, h1, by rw [show k - i - a = k - a - i by omega]; exact h2⟩
  have hedge := e5_hit (n := n) hr hk hp ht (show i ≤ k by omega) hS hsp
  rw [hl, Int.toNat_natCast] at hedge
  have hT : clK rules S N n (A * (n + 1) + k) (s.n.toNat * (n + 1) + i) = true := clo_edge hu hv hedge
  have hvv := manyK_not hM hv (.inr hT)
  exact .inr (reachN_lt clo_trans hT hv hvv)

/-- a pass over the table of lengths -/
def p1 (r : Rule) (st : (Nat → Nat → Bool) × Bool) (k : Nat) : (Nat → Nat → Bool) × Bool := if (!st.1 r.left.toNat k && canK st.1 r.right k) = true then (updB st.1 r.left.toNat k, true) else st
def p2 (n : Nat) (st : (Nat → Nat → Bool) × Bool) (r : Rule) : (Nat → Nat → Bool) × Bool := (List.range (n + 1)).foldl (p1 r) st
def p3 (n : Nat) (l : List Rule) (S : Nat → Nat → Bool) : (Nat → Nat → Bool) × Bool := l.foldl (p2 n) (S, false)
def itP (n : Nat) (l : List Rule) : Nat → (Nat → Nat → Bool) → (Nat → Nat → Bool)
  | 0, S => S
  | m + 1, S => itP n l m (p3 n l S).1
/-- the table when the passes end -/
def Done (n : Nat) (l : List Rule) (S : Nat → Nat → Bool) : Prop := ∃ m S0, (∀ a k, S0 a k = false) ∧ S = itP n l m S0 ∧ (p3 n l S).2 = false
end Cs
end Go.Proofs.Ytbnpemgmdnghgaa
namespace Go.Proofs.Ytbnpemgmdnghgaa
open Go.RowKit
namespace Cs

/-- all lists of trees of symbols with a length together -/
def enL (S : Nat → Nat → Bool) (o : Sym → Nat → List Tree) : List Sym → Nat → List (List Tree)
  | [], k => if k = 0 then [[]] else []
  | s :: l, k => (List.range (k + 1)).flatMap fun i => if (hasK S s i && canK S l (k - i)) = true then (o s i).flatMap fun x => (enL S o l (k - i)).map (x :: ·) else []
def symE (S : Nat → Nat → Bool) (e : Nat → Nat → List Tree) (s : Sym) (k : Nat) : List Tree := if hasK S s k = false then [] else if s.term then [.node (-1) s.n []] else e s.n.toNat k
def enR (S : Nat → Nat → Bool) (o : Sym → Nat → List Tree) (A : Int) (k : Nat) : List Rule → Nat → List Tree
  | [], _ => []
  | r :: rs, j => (if r.left = A then (enL S o r.right k).map fun ks => Tree.node (j : Int) 0 ks else []) ++ enR S o A k rs (j + 1)
/-- all trees of a nonterminal of at most so many levels -/
def enF (rules : List Rule) (S : Nat → Nat → Bool) : Nat → Nat → Nat → List Tree
  | 0, _, _ => []
  | f + 1, A, k => if S A k = false then [] else enR S (symE S (enF rules S f)) (A : Int) k rules 0
theorem enR_append {S : Nat → Nat → Bool} {o : Sym → Nat → List Tree} {A : Int} {k : Nat} : ∀ (a b : List Rule) (j : Nat), enR S o A k (a ++ b) j = enR S o A k a j ++ enR S o A k b (j + a.length)
  | [], b, j => by simp [enR]
  | r :: a, b, j => by
    rw [List.cons_append, enR, enR, enR_append a b (j + 1), List.append_assoc, List.length_cons, show j + (a.length + 1) = j + 1 + a.length by omega]
theorem flat_same {α β : Type} {f g : α → List β} : ∀ (l : List α), (∀ a, a ∈ l → f a = g a) → l.flatMap f = l.flatMap g
  | [], _ => rfl
  | a :: l, h => by
    rw [List.flatMap_cons, List.flatMap_cons, h a List.mem_cons_self, flat_same l fun b hb => h b (List.mem_cons_of_mem _ hb)]
/-- what is asked for is good: its trees alone matter -/
theorem enL_same {S : Nat → Nat → Bool} {o o' : Sym → Nat → List Tree} {G : Nat → Nat → Prop} (ho : ∀ (s : Sym) (i : Nat), s.term = true → o s i = o' s i) (hG : ∀ (s : Sym) (i : Nat), s.term = false → G s.n.toNat i → o s i = o' s i) :
    ∀ (l : List Sym) (k : Nat), Fine S G l k → enL S o l k = enL S o' l k
  | [], _, _ => rfl
  | s :: l, k, h => by
    rw [enL, enL]
    refine flat_same _ fun i hi => ?_
    have hik : i ≤ k := by have := List.mem_range.1 hi; omega
    by_cases e : (hasK S s i && canK S l (k - i)) = true
    · rw [if_pos e, if_pos e]
      rw [Bool.and_eq_true] at e
      rw [enL_same ho hG l (k - i) (h.tail hik e.1)]
      cases ht : s.term with
      | true => rw [ho s i ht]
      | false => rw [hG s i ht (h.head hik e.1 e.2 ht)]
    · rw [if_neg e, if_neg e]
theorem enR_same {S : Nat → Nat → Bool} {o o' : Sym → Nat → List Tree} {A : Int} {k : Nat} : ∀ (l : List Rule) (j : Nat), (∀ r ∈ l, r.left = A → enL S o r.right k = enL S o' r.right k) → enR S o A k l j = enR S o' A k l j
  | [], _, _ => rfl
  | r :: l, j, h => by
    rw [enR, enR, enR_same l (j + 1) fun r' h' => h r' (List.mem_cons_of_mem _ h')]
    by_cases hl : r.left = A
    · rw [if_pos hl, if_pos hl, h r List.mem_cons_self hl]
    · rw [if_neg hl, if_neg hl]
/-- a node from which no circle is reached, in so many steps -/
def Gd (M T : Nat → Nat → Bool) (N n size f A k : Nat) : Prop := A < N ∧ k ≤ n ∧ M A k = false ∧ reachN T size (A * (n + 1) + k) < f
def EndsM (rules : List Rule) (S M T : Nat → Nat → Bool) (N n size : Nat) : Prop :=
  ∀ (A k : Nat) (r : Rule), A < N → k ≤ n → M A k = false → r ∈ rules → r.left = (A : Int) → Fine S (Gd M T N n size (reachN T size (A * (n + 1) + k))) r.right k
theorem Fine.mono {S : Nat → Nat → Bool} {G G' : Nat → Nat → Prop} {l : List Sym} {k : Nat} (h : Fine S G l k) (hg : ∀ A i, G A i → G' A i) : Fine S G' l k := fun p s i a h1 h2 h3 h4 h5 h6 => hg _ _ (h p s i a h1 h2 h3 h4 h5 h6)
section
variable {rules : List Rule} {S M T : Nat → Nat → Bool} {N n size : Nat} {cap many : Int}
theorem Gd.mono {f f' A k : Nat} (h : Gd M T N n size f A k) (hf : f ≤ f') : Gd M T N n size f' A k := ⟨h.1, h.2.1, h.2.2.1, Nat.lt_of_lt_of_le h.2.2.2 hf⟩
theorem enF_stable (hE : EndsM rules S M T N n size) : ∀ (f A k : Nat), Gd M T N n size f A k → ∀ f', f ≤ f' → enF rules S f' A k = enF rules S f A k := by
  intro f
  induction f with
  | zero => intro A k h; exact absurd h.2.2.2 (Nat.not_lt_zero _)
  | succ f ih =>
    intro A k h f' hf
    obtain ⟨hA, hk, hM, hr⟩ := h
    obtain ⟨f0, rfl⟩ : ∃ f0, f' = f0 + 1 := ⟨f' - 1, by omega⟩
    rw [enF, enF]
    by_cases hS : S A k = false
    · rw [if_pos hS, if_pos hS]
    · rw [if_neg hS, if_neg hS]
      refine enR_same _ _ fun r hr' hl => ?_
      refine enL_same (G := Gd M T N n size (reachN T size (A * (n + 1) + k))) (fun s i ht => by unfold symE; simp [ht]) (fun s i ht hg => ?_) r.right k (hE A k r hA hk hM hr' hl)
      unfold symE
      simp only [ht, Bool.false_eq_true, if_false]
      rw [ih _ _ (hg.mono (by omega)) f0 (by omega)]
/-- the trees of a nonterminal -/
def EN (rules : List Rule) (S : Nat → Nat → Bool) (size : Nat) : Nat → Nat → List Tree := enF rules S (size + 2)
theorem EN_eq (hE : EndsM rules S M T N n size) {A k : Nat} (hA : A < N) (hk : k ≤ n) (hM : M A k = false) :
    EN rules S size A k = if S A k = false then [] else enR S (symE S (EN rules S size)) (A : Int) k rules 0 := by
  have hs := reachN_le T size (A * (n + 1) + k)
  unfold EN
  have e := enF_stable hE (size + 2) A k ⟨hA, hk, hM, by omega⟩ (size + 3) (by omega)
  rw [← e, enF]
theorem EN_all (hE : EndsM rules S M T N n size) {A k : Nat} (hA : A < N) (hk : k ≤ n) (hM : M A k = false) (f : Nat) (hf : size + 2 ≤ f) : enF rules S f A k = EN rules S size A k := by
  have hs := reachN_le T size (A * (n + 1) + k)
  exact enF_stable hE (size + 2) A k ⟨hA, hk, hM, by omega⟩ f hf
end
theorem cap_step {cap : Int} (h1 : 1 ≤ cap) (h2 : cap ≤ 1000000000) (a x y : Nat) : listStep cap (min (a : Int) cap) (min (x : Int) cap) (min (y : Int) cap) = min ((a + x * y : Nat) : Int) cap := by
  unfold listStep
  have hx : 0 ≤ min (x : Int) cap := by omega
  have hy : 0 ≤ min (y : Int) cap := by omega
  have hx' : min (x : Int) cap ≤ 1000000000 := by omega
  have hy' : min (y : Int) cap ≤ 1000000000 := by omega
  have hp0 : 0 ≤ min (x : Int) cap * min (y : Int) cap := Int.mul_nonneg hx hy
  have hp1 : min (x : Int) cap * min (y : Int) cap ≤ 1000000000 * 1000000000 := Int.mul_le_mul hx' hy' hy (by decide)
  have ha : 0 ≤ min (a : Int) cap := by omega
  have ha' : min (a : Int) cap ≤ 1000000000 := by omega
  have hxy : min (x : Int) cap * min (y : Int) cap = (x : Int) * y ∨ (cap ≤ min (x : Int) cap * min (y : Int) cap ∧ cap ≤ (x : Int) * y) := by
    by_cases hx0 : x = 0
    · subst hx0
      left
      rw [show min ((0 : Nat) : Int) cap = 0 by omega]
      simp
    · by_cases hy0 : y = 0
      · subst hy0
        left
        rw [show min ((0 : Nat) : Int) cap = 0 by omega]
        simp
      · have x1 : (1 : Int) ≤ x := by omega
        have y1 : (1 : Int) ≤ y := by omega
        by_cases hxc : cap ≤ x
        · right
          rw [Int.min_eq_right hxc]
          have a1 : 1 ≤ min (y : Int) cap := by omega
          have e1 : cap * 1 ≤ cap * min (y : Int) cap := Int.mul_le_mul_of_nonneg_left a1 (by omega)
          have e2 : (x : Int) * 1 ≤ (x : Int) * y := Int.mul_le_mul_of_nonneg_left y1 (by omega)
          omega
        · by_cases hyc : cap ≤ y
          · right
            rw [Int.min_eq_right hyc, Int.min_eq_left (by omega)]
            have e1 : 1 * cap ≤ (x : Int) * cap := Int.mul_le_mul_of_nonneg_right x1 (by omega)
            have e2 : 1 * (y : Int) ≤ (x : Int) * y := Int.mul_le_mul_of_nonneg_right x1 (by omega)
            omega
          · left
            rw [Int.min_eq_left (by omega), Int.min_eq_left (by omega)]
  have hxy0 : (0 : Int) ≤ (x : Int) * y := by exact_mod_cast Nat.zero_le (x * y)
  push_cast
  obtain ⟨P, hP⟩ : ∃ P, P = min (x : Int) cap * min (y : Int) cap := ⟨_, rfl⟩
  obtain ⟨Q, hQ⟩ : ∃ Q, Q = (x : Int) * y := ⟨_, rfl⟩
  rw [← hP] at hxy hp0 hp1 ⊢
  rw [← hQ] at hxy hxy0 ⊢
  rw [IntWalk.i64_in P (by omega), IntWalk.i64_in _ (by omega)]
  omega
theorem len_prod {α : Type} (f : α → List (List α)) (xs : List α) (ys : List (List α)) : (xs.flatMap fun x => ys.map (x :: ·)).length = xs.length * ys.length := by
  induction xs with
  | nil => simp
  | cons x xs ih =>
    rw [List.flatMap_cons, List.length_append, ih, List.length_map, List.length_cons, Nat.add_mul]
    omega
def prodL (xs : List Tree) (ys : List (List Tree)) : List (List Tree) := xs.flatMap fun x => ys.map (x :: ·)
theorem prodL_len (xs : List Tree) (ys : List (List Tree)) : (prodL xs ys).length = xs.length * ys.length := len_prod (fun _ => []) xs ys
/-- the block of lists whose first tree has a length -/
def blk (S : Nat → Nat → Bool) (o : Sym → Nat → List Tree) (s : Sym) (l : List Sym) (k i : Nat) : List (List Tree) := if (hasK S s i && canK S l (k - i)) = true then prodL (o s i) (enL S o l (k - i)) else []
def pre (S : Nat → Nat → Bool) (o : Sym → Nat → List Tree) (s : Sym) (l : List Sym) (k m : Nat) : List (List Tree) := (List.range m).flatMap (blk S o s l k)
theorem pre_zero {S : Nat → Nat → Bool} {o : Sym → Nat → List Tree} {s : Sym} {l : List Sym} {k : Nat} : pre S o s l k 0 = [] := rfl
theorem pre_next {S : Nat → Nat → Bool} {o : Sym → Nat → List Tree} {s : Sym} {l : List Sym} {k m : Nat} : pre S o s l k (m + 1) = pre S o s l k m ++ blk S o s l k m := by unfold pre; rw [List.range_succ, List.flatMap_append]; simp
theorem enL_pre {S : Nat → Nat → Bool} {o : Sym → Nat → List Tree} {s : Sym} {l : List Sym} {k : Nat} : enL S o (s :: l) k = pre S o s l k (k + 1) := rfl
theorem pre_le {S : Nat → Nat → Bool} {o : Sym → Nat → List Tree} {s : Sym} {l : List Sym} {k m m' : Nat} (h : m ≤ m') : ∃ z, pre S o s l k m' = pre S o s l k m ++ z := by
  induction m' with
  | zero =>
    obtain rfl : m = 0 := by omega
    exact ⟨[], by simp⟩
  | succ m' ih =>
    by_cases e : m = m' + 1
    · subst e; exact ⟨[], by simp⟩
    · obtain ⟨z, hz⟩ := ih (by omega)
      exact ⟨z ++ blk S o s l k m', by rw [pre_next, hz, List.append_assoc]⟩
/-- the number that is reckoned is the number of lists, limited -/
theorem listV_len {S : Nat → Nat → Bool} {cap : Int} (h1 : 1 ≤ cap) (h2 : cap ≤ 1000000000) {ov : Sym → Nat → Int} {o : Sym → Nat → List Tree} {G : Nat → Nat → Prop} (ho : ∀ (s : Sym) (i : Nat), hasK S s i = true → s.term = true → ov s i = min ((o s i).length : Int) cap) (hG : ∀ (s : Sym) (i : Nat), hasK S s i = true → s.term = false → G s.n.toNat i → ov s i = min ((o s i).length : Int) cap) :
    ∀ (l : List Sym) (k : Nat), Fine S G l k → listV S cap ov l k = min ((enL S o l k).length : Int) cap
  | [], k, _ => by
    unfold listV enL
    by_cases hk : k = 0
    · rw [if_pos hk, if_pos hk]; simp; omega
    · rw [if_neg hk, if_neg hk]; simp; omega
  | s :: l, k, h => by
    rw [listV, enL_pre]
    have key : ∀ m, m ≤ k + 1 → (List.range m).foldl (fun sum i => if (hasK S s i && canK S l (k - i)) = true then listStep cap sum (ov s i) (listV S cap ov l (k - i)) else sum) 0 = min ((pre S o s l k m).length : Int) cap := by
      intro m
      induction m with
      | zero => intro _; simp [pre]; omega
      | succ m ih =>
        intro hm
        rw [List.range_succ, List.foldl_append, ih (by omega), pre_next, List.length_append]
        simp only [List.foldl_cons, List.foldl_nil]
        unfold blk
        by_cases e : (hasK S s m && canK S l (k - m)) = true
        · rw [if_pos e, if_pos e, prodL_len]
          rw [Bool.and_eq_true] at e
          have hmk : m ≤ k := by omega
          rw [listV_len h1 h2 ho hG l (k - m) (h.tail hmk e.1)]
          have hov : ov s m = min ((o s m).length : Int) cap := by
            cases ht : s.term with
            | true => exact ho s m e.1 ht
            | false => exact hG s m e.1 ht (h.head hmk e.1 e.2 ht)
          rw [hov]
          exact cap_step h1 h2 _ _ _
        · rw [if_neg e, if_neg e]; simp
    exact key (k + 1) (Nat.le_refl _)
theorem listV_zero {S : Nat → Nat → Bool} {cap : Int} {ov : Sym → Nat → Int} : ∀ (l : List Sym) (k : Nat), canK S l k = false → listV S cap ov l k = 0
  | [], k, h => by
    unfold canK at h
    unfold listV
    rw [if_neg (by simpa using h)]
  | s :: l, k, h => by
    rw [listV]
    have key : ∀ (x : List Nat), (∀ i ∈ x, i ≤ k) → x.foldl (fun sum i => if (hasK S s i && canK S l (k - i)) = true then listStep cap sum (ov s i) (listV S cap ov l (k - i)) else sum) 0 = 0 := by
      intro x
      induction x with
      | nil => intro _; rfl
      | cons i x ih =>
        intro hx
        rw [List.foldl_cons, if_neg, ih fun j hj => hx j (List.mem_cons_of_mem _ hj)]
        intro e
        rw [Bool.and_eq_true] at e
        have : canK S (s :: l) k = true := canK_cons.2 ⟨i, hx i List.mem_cons_self, e.1, e.2⟩
        rw [this] at h
        cases h
    exact key _ fun i hi => by have := List.mem_range.1 hi; omega
section
variable {rules : List Rule} {S M T : Nat → Nat → Bool} {N n size : Nat} {cap many : Int}
/-- so is that of a nonterminal -/
theorem ofF_len (h1 : 1 ≤ cap) (h2 : cap ≤ 1000000000) (hE : EndsM rules S M T N n size) : ∀ (f A k : Nat), Gd M T N n size f A k → ofF rules S M cap many f A k = min ((enF rules S f A k).length : Int) cap := by
  intro f
  induction f with
  | zero => intro A k h; exact absurd h.2.2.2 (Nat.not_lt_zero _)
  | succ f ih =>
    intro A k h
    obtain ⟨hA, hk, hM, hr⟩ := h
    rw [ofF, enF]
    by_cases hS : S A k = false
    · rw [if_pos hS, if_pos hS]; simp; omega
    · rw [if_neg hS, if_neg hS, hM]
      simp only [Bool.false_eq_true, if_false]
      have hL : ∀ r ∈ rules, r.left = (A : Int) → listV S cap (symV S (ofF rules S M cap many f)) r.right k = min ((enL S (symE S (enF rules S f)) r.right k).length : Int) cap := by
        intro r hr' hl
        refine listV_len h1 h2 (G := Gd M T N n size (reachN T size (A * (n + 1) + k))) (fun s i hs ht => ?_) (fun s i hs ht hg => ?_) r.right k (hE A k r hA hk hM hr' hl)
        · unfold symV symE; simp [ht, hs]; omega
        · unfold symV symE; simp only [ht, hs, Bool.true_eq_false, Bool.false_eq_true, if_false]; exact ih _ _ (hg.mono (by omega))
      have key : ∀ (l : List Rule) (j : Nat) (a : Nat), (∀ r ∈ l, r ∈ rules) → l.foldl (fun sum r => if r.left = (A : Int) then min (IntKind.i64.wrap (sum + listV S cap (symV S (ofF rules S M cap many f)) r.right k)) cap else sum) (min (a : Int) cap) = min ((a + (enR S (symE S (enF rules S f)) (A : Int) k l j).length : Nat) : Int) cap := by
        intro l
        induction l with
        | nil => intro j a _; simp [enR]
        | cons r l ihl =>
          intro j a hl
          rw [List.foldl_cons, enR, List.length_append]
          by_cases he : r.left = (A : Int)
          · rw [if_pos he, if_pos he, hL r (hl r List.mem_cons_self) he, List.length_map]
            obtain ⟨x, hx⟩ : ∃ x, x = (enL S (symE S (enF rules S f)) r.right k).length := ⟨_, rfl⟩
            rw [← hx]
            have hw : min (IntKind.i64.wrap (min (a : Int) cap + min (x : Int) cap)) cap = min ((a + x : Nat) : Int) cap := by
              rw [IntWalk.i64_in _ (by omega)]; omega
            rw [hw, ihl (j + 1) (a + x) fun r' h' => hl r' (List.mem_cons_of_mem _ h'), Nat.add_assoc]
          · rw [if_neg he, if_neg he, ihl (j + 1) a fun r' h' => hl r' (List.mem_cons_of_mem _ h')]
            simp
      have := key rules 0 0 fun r h => h
      rw [show min ((0 : Nat) : Int) cap = 0 by omega, Nat.zero_add] at this
      exact this
theorem valK_len (h1 : 1 ≤ cap) (h2 : cap ≤ 1000000000) (hE : EndsM rules S M T N n size) {A k : Nat} (hA : A < N) (hk : k ≤ n) (hM : M A k = false) : valK rules S M cap many size A k = min ((EN rules S size A k).length : Int) cap := by
  have hs := reachN_le T size (A * (n + 1) + k)
  exact ofF_len h1 h2 hE _ _ _ ⟨hA, hk, hM, by omega⟩
theorem listV_EN (h1 : 1 ≤ cap) (h2 : cap ≤ 1000000000) (hE : EndsM rules S M T N n size) {f : Nat} {l : List Sym} {k : Nat} (hF : Fine S (Gd M T N n size f) l k) :
    listV S cap (symV S (valK rules S M cap many size)) l k = min ((enL S (symE S (EN rules S size)) l k).length : Int) cap := by
  refine listV_len h1 h2 (G := Gd M T N n size f) (fun s i hs ht => ?_) (fun s i hs ht hg => ?_) l k hF
  · unfold symV symE; simp [ht, hs]; omega
  · unfold symV symE; simp only [ht, hs, Bool.true_eq_false, Bool.false_eq_true, if_false]; exact valK_len h1 h2 hE hg.1 hg.2.1 hg.2.2.1
theorem symV_EN (h1 : 1 ≤ cap) (h2 : cap ≤ 1000000000) (hE : EndsM rules S M T N n size) {f : Nat} {s : Sym} {k : Nat} (hF : s.term = false → Gd M T N n size f s.n.toNat k) :
    symV S (valK rules S M cap many size) s k = min ((symE S (EN rules S size) s k).length : Int) cap := by
  unfold symV symE
  by_cases hs : hasK S s k = false
  · rw [if_pos hs, if_pos hs]; simp; omega
  · rw [if_neg hs, if_neg hs]
    cases ht : s.term with
    | true => simp; omega
    | false => simp only [Bool.false_eq_true, if_false]; have hg := hF ht; exact valK_len h1 h2 hE hg.1 hg.2.1 hg.2.2.1
end
theorem ends_MM {rules : List Rule} {S : Nat → Nat → Bool} {N n : Nat} (hok : ∀ r ∈ rules, ∀ s ∈ r.right, s.term = false → 0 ≤ s.n ∧ s.n.toNat < N) : EndsM rules S (MK rules S N n) (clK rules S N n) N n (sizeK N n) := by
  intro A k r hA hk hM hr hl p s i a hp ht hS ha h1 h2
  have hs := hok r hr s (List.mem_of_getElem? hp) ht
  have hin : i ≤ n := by omega
  have hu := node_lt (N := N) hA hk
  have hv := node_lt (N := N) hs.2 hin
  have hsp : splitK S (r.right.take p) (r.right.drop (p + 1)) (k - i) = true := splitK_iff.2 ⟨a, by omega, h1, by rw [show k - i - a = k - a - i by omega]; exact h2⟩
  have hedge := e5_hit (n := n) hr hk hp ht (show i ≤ k by omega) hS hsp
  rw [hl, Int.toNat_natCast] at hedge
  have hT : clK rules S N n (A * (n + 1) + k) (s.n.toNat * (n + 1) + i) = true := clo_edge hu hv hedge
  have hvv := manyK_not hM hv (.inr hT)
  refine ⟨hs.2, hin, ?_, reachN_lt clo_trans hT hv hvv⟩
  unfold MK manyK
  rw [List.any_eq_false]
  intro j hj
  have hj' := List.mem_range.1 hj
  intro e
  rw [Bool.and_eq_true, Bool.or_eq_true] at e
  have : clK rules S N n (A * (n + 1) + k) j = true := by
    rcases e.1 with e1 | e1
    · rw [beq_iff_eq] at e1; rw [← e1]; exact hT
    · exact clo_trans _ _ _ hT e1
  have := manyK_not hM hj' (.inr this)
  rw [this] at e
  exact absurd e.2 (by decide)

/-- a block of a product: first by the head -/
theorem prod_at {xs : List Tree} {ys : List (List Tree)} {a b : Nat} {x : Tree} {y : List Tree} (hx : xs[a]? = some x) (hy : ys[b]? = some y) : (prodL xs ys)[a * ys.length + b]? = some (x :: y) := by
  induction xs generalizing a with
  | nil => simp at hx
  | cons z xs ih =>
    have hb : b < ys.length := (List.getElem?_eq_some_iff.1 hy).1
    unfold prodL
    rw [List.flatMap_cons]
    cases a with
    | zero =>
      simp at hx
      subst hx
      rw [List.getElem?_append_left (by simp; omega)]
      simp [hy]
    | succ a =>
      rw [List.getElem?_append_right (by rw [List.length_map, Nat.add_mul]; omega)]
      have := ih (a := a) (by simpa using hx)
      rw [List.length_map, show (a + 1) * ys.length + b - ys.length = a * ys.length + b by rw [Nat.add_mul]; omega]
      exact this
end Cs
end Go.Proofs.Ytbnpemgmdnghgaa
namespace Go.Proofs.Ytbnpemgmdnghgaa
open Go.RowKit
namespace Cs

def preR (S : Nat → Nat → Bool) (o : Sym → Nat → List Tree) (A : Int) (k : Nat) (rules : List Rule) (j : Nat) : List Tree := enR S o A k (rules.take j) 0
theorem preR_zero {S : Nat → Nat → Bool} {o : Sym → Nat → List Tree} {A : Int} {k : Nat} {rules : List Rule} : preR S o A k rules 0 = [] := by unfold preR; rw [List.take_zero]; rfl
theorem preR_next {S : Nat → Nat → Bool} {o : Sym → Nat → List Tree} {A : Int} {k : Nat} {rules : List Rule} {j : Nat} (hj : j < rules.length) :
    preR S o A k rules (j + 1) = preR S o A k rules j ++ (if rules[j].left = A then (enL S o rules[j].right k).map fun ks => Tree.node (j : Int) 0 ks else []) := by
  unfold preR
  rw [List.take_succ_eq_append_getElem hj, enR_append]
  have hl : (rules.take j).length = j := by rw [List.length_take]; omega
  rw [hl]
  simp [enR]
theorem preR_all {S : Nat → Nat → Bool} {o : Sym → Nat → List Tree} {A : Int} {k : Nat} {rules : List Rule} : preR S o A k rules rules.length = enR S o A k rules 0 := by unfold preR; rw [List.take_length]
theorem preR_le {S : Nat → Nat → Bool} {o : Sym → Nat → List Tree} {A : Int} {k : Nat} {rules : List Rule} {j : Nat} (hj : j ≤ rules.length) : ∃ z, enR S o A k rules 0 = preR S o A k rules j ++ z := by
  refine ⟨enR S o A k (rules.drop j) (0 + (rules.take j).length), ?_⟩
  unfold preR
  rw [← enR_append, List.take_append_drop]
theorem preR_len {S : Nat → Nat → Bool} {o : Sym → Nat → List Tree} {A : Int} {k : Nat} {rules : List Rule} {j : Nat} (hj : j < rules.length) :
    (preR S o A k rules (j + 1)).length = (preR S o A k rules j).length + (if rules[j].left = A then (enL S o rules[j].right k).length else 0) := by
  rw [preR_next hj, List.length_append]
  by_cases h : rules[j].left = A
  · rw [if_pos h, if_pos h, List.length_map]
  · rw [if_neg h, if_neg h, List.length_nil]
theorem preR_len_le {S : Nat → Nat → Bool} {o : Sym → Nat → List Tree} {A : Int} {k : Nat} {rules : List Rule} {j : Nat} (hj : j ≤ rules.length) : (preR S o A k rules j).length ≤ (enR S o A k rules 0).length := by
  obtain ⟨z, hz⟩ := preR_le (S := S) (o := o) (A := A) (k := k) hj
  rw [hz, List.length_append]; omega
theorem enR_found {S : Nat → Nat → Bool} {o : Sym → Nat → List Tree} {A : Int} {k : Nat} {rules : List Rule} {j x : Nat} {t : Tree} (hj : j < rules.length) (hl : rules[j].left = A) (hx : x < (enL S o rules[j].right k).length) (ht : (enR S o A k rules 0)[(preR S o A k rules j).length + x]? = some t) :
    ∃ ks, t = Tree.node (j : Int) 0 ks ∧ (enL S o rules[j].right k)[x]? = some ks := by
  obtain ⟨z, hz⟩ := preR_le (S := S) (o := o) (A := A) (k := k) (show j + 1 ≤ rules.length from hj)
  rw [hz, preR_next hj, if_pos hl, List.append_assoc, List.getElem?_append_right (by omega), Nat.add_sub_cancel_left, List.getElem?_append_left (by rw [List.length_map]; exact hx), List.getElem?_map, List.getElem?_eq_getElem hx] at ht
  simp at ht
  exact ⟨_, ht.symm, List.getElem?_eq_getElem hx⟩
theorem pre_len_le {S : Nat → Nat → Bool} {o : Sym → Nat → List Tree} {s : Sym} {l : List Sym} {k j : Nat} (hj : j ≤ k + 1) : (pre S o s l k j).length ≤ (enL S o (s :: l) k).length := by
  obtain ⟨z, hz⟩ := pre_le (S := S) (o := o) (s := s) (l := l) (k := k) hj
  rw [enL_pre, hz, List.length_append]; omega
theorem pre_len {S : Nat → Nat → Bool} {o : Sym → Nat → List Tree} {s : Sym} {l : List Sym} {k j : Nat} : (pre S o s l k (j + 1)).length = (pre S o s l k j).length + (blk S o s l k j).length := by rw [pre_next, List.length_append]
theorem prodL_found {xs : List Tree} {ys : List (List Tree)} {x : Nat} (hx : x < xs.length * ys.length) : ∃ t y, (prodL xs ys)[x]? = some (t :: y) ∧ xs[x / ys.length]? = some t ∧ ys[x % ys.length]? = some y := by
  have hp : 0 < ys.length := by
    rcases Nat.eq_zero_or_pos ys.length with h | h
    · rw [h] at hx; simp at hx
    · exact h
  have h1 : x / ys.length < xs.length := Nat.div_lt_of_lt_mul (by rw [Nat.mul_comm]; exact hx)
  have h2 := Nat.mod_lt x hp
  refine ⟨xs[x / ys.length], ys[x % ys.length], ?_, List.getElem?_eq_getElem h1, List.getElem?_eq_getElem h2⟩
  have := prod_at (List.getElem?_eq_getElem h1) (List.getElem?_eq_getElem h2)
  rw [show x / ys.length * ys.length + x % ys.length = x by rw [Nat.mul_comm]; exact Nat.div_add_mod x ys.length] at this
  exact this
theorem enL_found {S : Nat → Nat → Bool} {o : Sym → Nat → List Tree} {s : Sym} {l : List Sym} {k j x i : Nat} {z : List Tree} (hj : j ≤ k) (hi : i = (pre S o s l k j).length + x) (hx : x < (blk S o s l k j).length) (hz : (enL S o (s :: l) k)[i]? = some z) :
    ∃ t y, z = t :: y ∧ (o s j)[x / (enL S o l (k - j)).length]? = some t ∧ (enL S o l (k - j))[x % (enL S o l (k - j)).length]? = some y := by
  obtain ⟨u, hu⟩ := pre_le (S := S) (o := o) (s := s) (l := l) (k := k) (show j + 1 ≤ k + 1 by omega)
  rw [enL_pre, hu, pre_next, List.append_assoc, hi, List.getElem?_append_right (by omega), Nat.add_sub_cancel_left, List.getElem?_append_left hx] at hz
  unfold blk at hx hz
  by_cases e : (hasK S s j && canK S l (k - j)) = true
  · rw [if_pos e] at hx hz
    rw [prodL_len] at hx
    obtain ⟨t, y, h1, h2, h3⟩ := prodL_found hx
    rw [h1] at hz
    cases hz
    exact ⟨t, y, rfl, h2, h3⟩
  · rw [if_neg e] at hx; simp at hx
section
variable {rules : List Rule} {S M T : Nat → Nat → Bool} {N n size : Nat} {cap many : Int}
theorem blk_val (h1 : 1 ≤ cap) (h2 : cap ≤ 1000000000) (hE : EndsM rules S M T N n size) {f : Nat} {s : Sym} {L : List Sym} {k j : Nat} (hF : Fine S (Gd M T N n size f) (s :: L) k) (hj : j ≤ k) (hlt : ((enL S (symE S (EN rules S size)) (s :: L) k).length : Int) < cap) :
    (if 0 < listV S cap (symV S (valK rules S M cap many size)) L (k - j) then symV S (valK rules S M cap many size) s j else 0) * listV S cap (symV S (valK rules S M cap many size)) L (k - j) = ((blk S (symE S (EN rules S size)) s L k j).length : Int) ∧
    (0 < (blk S (symE S (EN rules S size)) s L k j).length → hasK S s j = true ∧ canK S L (k - j) = true ∧ listV S cap (symV S (valK rules S M cap many size)) L (k - j) = ((enL S (symE S (EN rules S size)) L (k - j)).length : Int) ∧ 0 < (enL S (symE S (EN rules S size)) L (k - j)).length ∧
      symV S (valK rules S M cap many size) s j = ((symE S (EN rules S size) s j).length : Int) ∧ ((symE S (EN rules S size) s j).length : Int) < cap ∧ ((enL S (symE S (EN rules S size)) L (k - j)).length : Int) < cap) := by
  have hle : (blk S (symE S (EN rules S size)) s L k j).length ≤ (enL S (symE S (EN rules S size)) (s :: L) k).length := by
    have := pre_len_le (S := S) (o := symE S (EN rules S size)) (s := s) (l := L) (k := k) (j := j + 1) (by omega)
    rw [pre_len] at this; omega
  by_cases hh : hasK S s j = true
  · by_cases hc : canK S L (k - j) = true
    · have e1 := symV_EN (many := many) h1 h2 hE (f := f) (s := s) (k := j) (fun ht => hF.head hj hh hc ht)
      have e2 := listV_EN (many := many) h1 h2 hE (hF.tail hj hh)
      have hb : (blk S (symE S (EN rules S size)) s L k j).length = (symE S (EN rules S size) s j).length * (enL S (symE S (EN rules S size)) L (k - j)).length := by
        unfold blk
        rw [if_pos (by rw [hh, hc]; rfl), prodL_len]
      rw [e1, e2]
      obtain ⟨x, hx⟩ : ∃ x, x = (symE S (EN rules S size) s j).length := ⟨_, rfl⟩
      obtain ⟨y, hy⟩ : ∃ y, y = (enL S (symE S (EN rules S size)) L (k - j)).length := ⟨_, rfl⟩
      rw [← hx, ← hy] at hb
      rw [← hx, ← hy]
      rw [hb] at hle ⊢
      by_cases hy0 : y = 0
      · subst hy0
        rw [show min ((0 : Nat) : Int) cap = 0 by omega]
        exact ⟨by simp, fun h => by simp at h⟩
      · by_cases hx0 : x = 0
        · subst hx0
          rw [show min ((0 : Nat) : Int) cap = 0 by omega]
          exact ⟨by simp, fun h => by simp at h⟩
        · have m1 : x * 1 ≤ x * y := Nat.mul_le_mul_left _ (by omega)
          have m2 : 1 * y ≤ x * y := Nat.mul_le_mul_right _ (by omega)
          rw [Nat.mul_one] at m1
          rw [Nat.one_mul] at m2
          rw [Int.min_eq_left (show (x : Int) ≤ cap by omega), Int.min_eq_left (show (y : Int) ≤ cap by omega), if_pos (by omega)]
          exact ⟨by push_cast; rfl, fun _ => ⟨hh, hc, rfl, by omega, rfl, by omega, by omega⟩⟩
    · have hc' : canK S L (k - j) = false := by simpa using hc
      have hb : blk S (symE S (EN rules S size)) s L k j = [] := by
        unfold blk
        rw [if_neg (by rw [hc']; simp)]
      rw [listV_zero _ _ hc', hb]
      exact ⟨by simp, fun h => by simp at h⟩
  · have hh' : hasK S s j = false := by simpa using hh
    have e1 : symV S (valK rules S M cap many size) s j = 0 := by unfold symV; rw [if_pos hh']
    have hb : blk S (symE S (EN rules S size)) s L k j = [] := by
      unfold blk
      rw [if_neg (by rw [hh']; simp)]
    rw [e1, hb]
    refine ⟨?_, fun h => by simp at h⟩
    split <;> simp
end
end Cs
end Go.Proofs.Ytbnpemgmdnghgaa
namespace Go.Proofs.Ytbnpemgmdnghgaa
open Go.RowKit

theorem made_at (z : Value) (n j : Nat) (h : j < n) : (madeCells #[z] n)[j]? = some z := by
  simp [madeCells, h, Nat.mod_one]

theorem cell_set_off {w : World} {b j j' : Nat} {v : Value} (x : Value) (h : w.cell? ⟨b, j', none⟩ = some v) (hne : ¬ j = j') : (w.setCell ⟨b, j, none⟩ x).cell? ⟨b, j', none⟩ = some v := by
  unfold World.cell? at h ⊢
  cases e : w.heap[b]? with
  | none => simp [e] at h
  | some o =>
    simp only [e] at h
    simp only [World.setCell, Array.getElem?_modify, e, if_true, Option.map_some]
    cases o <;> simp_all [Array.getElem?_setIfInBounds]

/-- rows lo .. n of the table in block bt are there: row k in block rb k, of m + 1 numbers -/
structure Tab (B bt n m : Nat) (rb : Nat → Nat) (lo : Nat) (val : Nat → Nat → Int) (wr : World) : Prop where
  tb : ∃ cs, wr.heap[bt]? = some (.cells cs 33 (0, 0)) ∧ cs.size = n + 1 ∧ ∀ k, lo ≤ k → k ≤ n → cs[k]? = some (.slice (some ⟨rb k, 0, none⟩) (m + 1) (m + 1))
  row : ∀ k, lo ≤ k → k ≤ n → ∃ cs, wr.heap[rb k]? = some (.cells cs 3 (0, 0)) ∧ cs.size = m + 1 ∧ ∀ j, j ≤ m → cs[j]? = some (.int .i64 (val k j))
  inj : ∀ k k', lo ≤ k → k ≤ n → lo ≤ k' → k' ≤ n → rb k = rb k' → k = k'
  ne : ∀ k, lo ≤ k → k ≤ n → rb k ≠ bt ∧ B ≤ rb k
  bB : B ≤ bt
section
variable {B bt n m : Nat} {rb : Nat → Nat} {lo : Nat} {val : Nat → Nat → Int} {wr w' : World}
theorem Tab.keep (h : Tab B bt n m rb lo val wr) (hb : Below wr.heap.size wr w') : Tab B bt n m rb lo val w' := by
  obtain ⟨⟨cs, h1, h2, h3⟩, h4, h5, h6, h7⟩ := h
  refine ⟨⟨cs, bx_keep h1 hb, h2, h3⟩, fun k hk hn => ?_, h5, h6, h7⟩
  obtain ⟨rs, r1, r2⟩ := h4 k hk hn
  exact ⟨rs, bx_keep r1 hb, r2⟩
theorem Tab.grown {row : Option Nat} (h : Tab B bt n m rb lo val wr) (hg : wr.grownBy w' row) (hr : ∀ k, row = some k → k ≠ bt ∧ ∀ i, lo ≤ i → i ≤ n → rb i ≠ k) : Tab B bt n m rb lo val w' := by
  obtain ⟨⟨cs, h1, h2, h3⟩, h4, h5, h6, h7⟩ := h
  refine ⟨⟨cs, ?_, h2, h3⟩, fun k hk hn => ?_, h5, h6, h7⟩
  · rw [hg.block bt (Array.getElem?_eq_some_iff.1 h1).1 (fun e => (hr bt e.symm).1 rfl)]; exact h1
  · obtain ⟨rs, r1, r2⟩ := h4 k hk hn
    refine ⟨rs, ?_, r2⟩
    rw [hg.block (rb k) (Array.getElem?_eq_some_iff.1 r1).1 (fun e => (hr _ e.symm).2 k hk hn rfl)]; exact r1
theorem Tab.hdr (h : Tab B bt n m rb lo val wr) {k : Nat} (hk : lo ≤ k) (hn : k ≤ n) : wr.cell? ⟨bt, k, none⟩ = some (.slice (some ⟨rb k, 0, none⟩) (m + 1) (m + 1)) := by
  obtain ⟨cs, h1, h2, h3⟩ := h.tb
  simp [World.cell?, h1, h3 k hk hn]
theorem Tab.cell (h : Tab B bt n m rb lo val wr) {k j : Nat} (hk : lo ≤ k) (hn : k ≤ n) (hj : j ≤ m) : wr.cell? ⟨rb k, j, none⟩ = some (.int .i64 (val k j)) := by
  obtain ⟨cs, h1, h2, h3⟩ := h.row k hk hn
  simp [World.cell?, h1, h3 j hj]
theorem Tab.free (h : Tab B bt n m rb lo val wr) {k : Nat} (hk : lo ≤ k) (hn : k ≤ n) (j : Nat) : wr.frozen? ⟨rb k, j, none⟩ = false := by
  obtain ⟨cs, h1, h2, h3⟩ := h.row k hk hn
  simp [World.frozen?, h1]
theorem Tab.lt (h : Tab B bt n m rb lo val wr) : bt < wr.heap.size := by
  obtain ⟨cs, h1, _⟩ := h.tb
  exact (Array.getElem?_eq_some_iff.1 h1).1
theorem Tab.rlt (h : Tab B bt n m rb lo val wr) {k : Nat} (hk : lo ≤ k) (hn : k ≤ n) : rb k < wr.heap.size := by
  obtain ⟨cs, h1, _⟩ := h.row k hk hn
  exact (Array.getElem?_eq_some_iff.1 h1).1
/-- a number stored -/
theorem Tab.set (h : Tab B bt n m rb lo val wr) {i j : Nat} (hi : lo ≤ i) (hin : i ≤ n) (hj : j ≤ m) (x : Int) : Tab B bt n m rb lo (fun k l => if k = i ∧ l = j then x else val k l) (wr.setCell ⟨rb i, j, none⟩ (.int .i64 x)) := by
  obtain ⟨⟨cs, h1, h2, h3⟩, h4, h5, h6, h7⟩ := h
  refine ⟨⟨cs, bx_other h1 (fun e => (h6 i hi hin).1 e.symm) _ _, h2, h3⟩, fun k hk hn => ?_, h5, h6, h7⟩
  obtain ⟨rs, r1, r2, r3⟩ := h4 k hk hn
  by_cases e : k = i
  · subst e
    refine ⟨rs.setIfInBounds j (.int .i64 x), bx_set r1 _ _, by simpa using r2, fun l hl => ?_⟩
    rw [Array.getElem?_setIfInBounds]
    by_cases e2 : j = l
    · subst e2
      rw [if_pos rfl, if_pos (by omega)]; simp
    · rw [if_neg e2, r3 l hl]
      simp [show ¬ l = j from fun h => e2 h.symm]
  · refine ⟨rs, bx_other r1 (fun e2 => e (h5 k i hk hn hi hin e2)) _ _, r2, fun l hl => ?_⟩
    rw [r3 l hl]; simp [e]
/-- a new row: laid, and its header stored -/
theorem Tab.add {i : Nat} (h : Tab B bt n m rb (i + 1) val wr) (hi : i ≤ n) (hB : B ≤ wr.heap.size) :
    Tab B bt n m (fun k => if k = i then wr.heap.size else rb k) i (fun k l => if k = i then 0 else val k l) ((wr.alloc (.cells (madeCells #[.int .i64 0] (m + 1)) 3)).setCell ⟨bt, i, none⟩ (.slice (some ⟨wr.heap.size, 0, none⟩) (m + 1) (m + 1))) := by
  have hbt := h.lt
  have hrl := fun k hk hn => h.rlt (k := k) hk hn
  obtain ⟨⟨cs, h1, h2, h3⟩, h4, h5, h6, h7⟩ := h
  have hba : Below wr.heap.size wr (wr.alloc (.cells (madeCells #[.int .i64 0] (m + 1)) 3)) := (Below.refl _ _).alloc (Nat.le_refl _) _
  refine ⟨⟨cs.setIfInBounds i (.slice (some ⟨wr.heap.size, 0, none⟩) (m + 1) (m + 1)), bx_set (bx_keep h1 hba) _ _, by simpa using h2, fun k hk hn => ?_⟩, fun k hk hn => ?_, fun k k' hk hn hk' hn' e => ?_, fun k hk hn => ?_, h7⟩
  · rw [Array.getElem?_setIfInBounds]
    by_cases e : i = k
    · subst e
      rw [if_pos rfl, if_pos (by omega)]; simp
    · rw [if_neg e, h3 k (by omega) hn]
      simp [show ¬ k = i from fun h => e h.symm]
  · by_cases e : k = i
    · subst e
      refine ⟨madeCells #[.int .i64 0] (m + 1), ?_, size_madeCells _ _, fun j hj => ?_⟩
      · simp only [if_true]
        exact bx_other (bx_new _ _ _ rfl) (by omega) _ _
      · rw [made_at _ _ _ (by omega)]; simp
    · obtain ⟨rs, r1, r2, r3⟩ := h4 k (by omega) hn
      refine ⟨rs, ?_, r2, fun j hj => by rw [r3 j hj]; simp [e]⟩
      simp only [e, if_false]
      exact bx_other (bx_keep r1 hba) (h6 k (by omega) hn).1 _ _
  · by_cases e1 : k = i <;> by_cases e2 : k' = i <;> simp only [e1, e2, if_true, if_false] at e ⊢
    · have := hrl k' (by omega) hn'; omega
    · have := hrl k (by omega) hn; omega
    · exact h5 k k' (by omega) hn (by omega) hn' e
  · by_cases e : k = i
    · subst e; simp only [if_true]; omega
    · simp only [e, if_false]; exact h6 k (by omega) hn
theorem Tab.eq {val' : Nat → Nat → Int} (h : Tab B bt n m rb lo val wr) (he : ∀ k j, lo ≤ k → k ≤ n → j ≤ m → val k j = val' k j) : Tab B bt n m rb lo val' wr := by
  obtain ⟨h1, h4, h5, h6, h7⟩ := h
  refine ⟨h1, fun k hk hn => ?_, h5, h6, h7⟩
  obtain ⟨rs, r1, r2, r3⟩ := h4 k hk hn
  exact ⟨rs, r1, r2, fun j hj => by rw [r3 j hj, he k j hk hn hj]⟩
end
/-- nothing there yet -/
theorem Tab.none' {B n m : Nat} {rb : Nat → Nat} {val : Nat → Nat → Int} (w : World) (hB : B ≤ w.heap.size) : Tab B w.heap.size n m rb (n + 1) val (w.alloc (.cells (madeCells #[.slice none 0 0] (n + 1)) 33)) :=
  ⟨⟨_, bx_new _ _ _ rfl, size_madeCells _ _, fun k hk hn => by omega⟩, fun k hk hn => by omega, fun k k' hk hn => by omega, fun k hk hn => by omega, hB⟩
end Go.Proofs.Ytbnpemgmdnghgaa
namespace Go.Proofs.Ytbnpemgmdnghgaa
open Go.RowKit

mutual
theorem Rd.ones {S : Nat → Prop} {w : World} : ∀ (d : D) (cs : List Value), Rd S w d cs → ∀ u ∈ cs, u.oneCell' = true
  | .int n, cs, h => by simp [Rd] at h; subst h; simp [Value.oneCell']
  | .bool n, cs, h => by simp [Rd] at h; subst h; simp [Value.oneCell']
  | .str n, cs, h => by simp [Rd] at h; subst h; simp [Value.oneCell']
  | .sl ds, cs, h => by obtain ⟨a, cap, L, rfl, _⟩ := h; simp [Value.oneCell']
  | .agg ds, cs, h => RdAll.ones ds cs h
theorem RdAll.ones {S : Nat → Prop} {w : World} : ∀ (ds : List D) (cs : List Value), RdAll S w ds cs → ∀ u ∈ cs, u.oneCell' = true
  | [], cs, h => by simp [RdAll] at h; subst h; simp
  | d :: ds, cs, h => by
    obtain ⟨c1, c2, rfl, h1, h2⟩ := h
    intro u hu
    rcases List.mem_append.1 hu with hu | hu
    · exact Rd.ones d c1 h1 u hu
    · exact RdAll.ones ds c2 h2 u hu
end

/-- append of a slice of data to a row of the call's own -/
theorem wp_appD {P : Program} {ops : Array Oper} {rest : List Oper} {o : Oper} {a : Act} {Q : Exit → Act → World → Prop} {w : World} {t e : TypeId} {size bytes : Nat} (E : ElemT P t e size bytes)
    (hgd : o.guard = none) (s x : Operand) (ho : o.op = .call { callee := .builtin .append, args := #[s, x], argTypes := #[t, t] })
    {B : Nat} {v u : Value} {n : Nat} {xs : List Value} {S : Nat → Prop} {ds : List D} (hown : w.ownsRow B e size v n xs) (hs : a.eval s = v) (hsl : Rd S w (.sl ds) [u]) (hx : a.eval x = u) (hk : ∀ d ∈ ds, d.cells = size)
    (hb : (n + ds.length) * bytes ≤ 140737488355328) (hm : n + ds.length ≤ maxLen) (hB : B ≤ w.heap.size)
    (h : ∀ v' w' L, RdAll S w ds L → w'.ownsRow B e size v' (n + ds.length) (xs ++ L) → w.grownBy w' v.ownBlock → (v'.ownBlock = v.ownBlock ∨ ∃ k, v'.ownBlock = some k ∧ w.heap.size ≤ k) → wpList P ops Q rest (a.put o.dst v') w') :
    wpList P ops Q (o :: rest) a w := by
  obtain ⟨hu, ⟨i, z, hi, hz, hsz, hby, hzs⟩, hp⟩ := E
  obtain ⟨a', cap, L, e1, hl, hc, hn, hcell, hd⟩ := hsl
  simp at e1
  subst e1
  have hL : L.length = ds.length * size := by rw [RdAll.len _ _ hd, cellsAll_eq hk]
  cases a' with
  | none =>
    obtain rfl : cap = 0 := hn rfl
    have h0 : ds.length = 0 := by omega
    have hL0 : L = [] := List.eq_nil_of_length_eq_zero (by rw [hL, h0]; simp)
    subst hL0
    rw [h0] at hx
    refine wpList_append_own_none hgd s x t ho B e i size hu hi v n xs hs hown hx (h v w [] hd (by simpa [h0] using hown) ?_ (.inl rfl))
    exact ⟨rfl, rfl, rfl, Nat.le_refl _, fun _ _ _ => rfl⟩
  | some ad =>
    refine wpList_append_own_at w hgd s x t ho B e i z size bytes hu hi hz hsz hby hzs hp v n xs hs hown ad ds.length cap L hx hL ?_ (RdAll.ones _ _ hd) hm hb hB fun v' w' h2 h3 _ h5 => h v' w' L hd h2 h3 (h5.imp id fun e => ⟨_, e, Nat.le_refl _⟩)
    intro j y hj
    obtain ⟨hj1, hj2⟩ := List.getElem?_eq_some_iff.1 hj
    obtain ⟨y', hy, _, h2⟩ := hcell j hj1
    cases hy
    rw [h2, hj2]

/-- append of what lies in one block, at a step of a region that draws its order -/
theorem step_appB {P : Program} {ops : Array Oper} {o : Oper} {a : Act} {K : Act → World → Prop} {Q : Exit → Act → World → Prop} {E' : Prop} {w0 : World} {t e : TypeId} {size bytes : Nat} (E : ElemT P t e size bytes)
    (hgd : o.guard = none) (s x : Operand) (ho : o.op = .call { callee := .builtin .append, args := #[s, x], argTypes := #[t, t] })
    {B : Nat} {v : Value} {n : Nat} {xs : List Value} {news : Array Value} (hown : w0.ownsRow B e size v n xs) (hs : a.eval s = v) {g0 : Nat} (hx : a.eval x = .slice (some ⟨g0, 0, none⟩) 1 1) (hg0 : w0.heap[g0]? = some (.cells news e (0, 0)))
    (hn : news.size = size) (h1 : news.toList.all Value.oneCell' = true) (hb : (n + 1) * bytes ≤ 140737488355328) (hm : n + 1 ≤ maxLen) (hB : B ≤ w0.heap.size)
    (h : ∀ g cap w', w'.ownsRow B e size (.slice (some ⟨g, 0, none⟩) (n + 1) cap) (n + 1) (xs ++ news.toList) → w0.grownBy w' v.ownBlock → (v.ownBlock = some g ∨ g = w0.heap.size) → g < w'.heap.size → K (a.put o.dst (.slice (some ⟨g, 0, none⟩) (n + 1) cap)) w') :
    if Region.wanted o (yielded ops a.tmps) = true then Oper.wp P o a w0 K Q else E' := by
  obtain ⟨hu, ⟨i, z, hi, hz, hsz, hby, hzs⟩, hp⟩ := E
  exact step_append_lies w0 hgd s x t ho B e i z size bytes hu hi hz hsz hby hzs hp v n xs hs hown ⟨g0, 0, none⟩ 1 1 news.toList hx (by simp [hn]) (World.news_of_block hg0) (List.all_eq_true.1 h1) (by omega) hm hb hB w0.heap.size rfl h

/-- append of a slice of data, not empty, at a step of a region that draws its order -/
theorem step_appD {P : Program} {ops : Array Oper} {o : Oper} {a : Act} {K : Act → World → Prop} {Q : Exit → Act → World → Prop} {E' : Prop} {w : World} {t e : TypeId} {size bytes : Nat} (E : ElemT P t e size bytes)
    (hgd : o.guard = none) (s x : Operand) (ho : o.op = .call { callee := .builtin .append, args := #[s, x], argTypes := #[t, t] })
    {B : Nat} {v u : Value} {n : Nat} {xs : List Value} {S : Nat → Prop} {ds : List D} (hown : w.ownsRow B e size v n xs) (hs : a.eval s = v) (hsl : Rd S w (.sl ds) [u]) (hx : a.eval x = u) (hk : ∀ d ∈ ds, d.cells = size) (h0 : 0 < ds.length)
    (hb : (n + ds.length) * bytes ≤ 140737488355328) (hm : n + ds.length ≤ maxLen) (hB : B ≤ w.heap.size)
    (h : ∀ g cap w' L, RdAll S w ds L → w'.ownsRow B e size (.slice (some ⟨g, 0, none⟩) (n + ds.length) cap) (n + ds.length) (xs ++ L) → w.grownBy w' v.ownBlock → (v.ownBlock = some g ∨ g = w.heap.size) → g < w'.heap.size → K (a.put o.dst (.slice (some ⟨g, 0, none⟩) (n + ds.length) cap)) w') :
    if Region.wanted o (yielded ops a.tmps) = true then Oper.wp P o a w K Q else E' := by
  obtain ⟨hu, ⟨i, z, hi, hz, hsz, hby, hzs⟩, hp⟩ := E
  obtain ⟨a', cap, L, e1, hl, hc, hn, hcell, hd⟩ := hsl
  simp at e1
  subst e1
  have hL : L.length = ds.length * size := by rw [RdAll.len _ _ hd, cellsAll_eq hk]
  cases a' with
  | none => have := hn rfl; omega
  | some ad =>
    refine step_append_lies w hgd s x t ho B e i z size bytes hu hi hz hsz hby hzs hp v n xs hs hown ad ds.length cap L hx hL ?_ (RdAll.ones _ _ hd) h0 hm hb hB w.heap.size rfl fun g cap w' h2 h3 h4 h5 => h g cap w' L hd h2 h3 h4 h5
    intro j y hj
    obtain ⟨hj1, hj2⟩ := List.getElem?_eq_some_iff.1 hj
    obtain ⟨y', hy, _, h2⟩ := hcell j hj1
    cases hy
    rw [h2, hj2]
theorem at_lies {v : Value} {g H n cap : Nat} (h : v.ownBlock = some g ∨ g = H) : (Value.slice (some ⟨g, 0, none⟩) n cap).ownBlock = v.ownBlock ∨ ∃ k, (Value.slice (some ⟨g, 0, none⟩) n cap).ownBlock = some k ∧ H ≤ k := by
  rcases h with h | h
  · exact .inl h.symm
  · exact .inr ⟨g, rfl, by omega⟩

/-- a row of data of the call's own, in blocks of S, and beside the row's own block -/
structure RowD (S : Nat → Prop) (B : Nat) (e : TypeId) (size : Nat) (ds : List D) (v : Value) (wr : World) : Prop where
  own : ∃ xs, wr.ownsRow B e size v ds.length xs ∧ RdAll (fun k => S k ∧ v.ownBlock ≠ some k) wr ds xs
  le : B ≤ wr.heap.size
theorem RowD.keep {S : Nat → Prop} {B : Nat} {e : TypeId} {size : Nat} {ds : List D} {v : Value} {wr w' : World} (h : RowD S B e size ds v wr) (hb : Below wr.heap.size wr w') : RowD S B e size ds v w' := by
  obtain ⟨⟨xs, h1, h2⟩, h3⟩ := h
  exact ⟨⟨xs, own_keep h1 hb, h2.below hb⟩, Nat.le_trans h3 hb.size⟩
theorem RowD.form {S : Nat → Prop} {B : Nat} {e : TypeId} {size : Nat} {ds : List D} {v : Value} {wr : World} (h : RowD S B e size ds v wr) : ∃ a cap, v = .slice a ds.length cap ∧ ds.length ≤ cap ∧ cap ≤ maxLen ∧ ∀ k, v.ownBlock = some k → B ≤ k ∧ k < wr.heap.size := by
  obtain ⟨⟨xs, h1, h2⟩, h3⟩ := h
  obtain ⟨a, cap, rfl, e1, e2⟩ := own_len h1
  exact ⟨a, cap, rfl, e1, e2, h1.lt⟩
theorem RowD.rd {S : Nat → Prop} {B : Nat} {e : TypeId} {size : Nat} {ds : List D} {v : Value} {wr : World} (h : RowD S B e size ds v wr) : Rd (fun k => S k ∨ B ≤ k) wr (.sl ds) [v] := by
  obtain ⟨⟨xs, h1, h2⟩, h3⟩ := h
  exact rd_of_own h1 (h2.mono fun k hk _ => .inl hk.1) rfl (fun k e => .inr (h1.lt k e).1)
theorem RowD.nil (S : Nat → Prop) (B : Nat) (e : TypeId) (size : Nat) (w : World) (h : B ≤ w.heap.size) : RowD S B e size [] (.slice none 0 0) w := ⟨⟨[], World.ownsRow_nil _ _ _ _, by simp [RdAll]⟩, h⟩
/-- behind an append: W0: before it -/
theorem RowD.step {S T : Nat → Prop} {B : Nat} {e : TypeId} {size : Nat} {ds es : List D} {v v' : Value} {W0 W1 : World} {xs news : List Value} {n : Nat} (h1 : W0.ownsRow B e size v n xs) (h2 : RdAll (fun k => S k ∧ v.ownBlock ≠ some k) W0 ds xs) (hn : n = ds.length)
    (hp : RdAll T W0 es news) (hT : ∀ k, T k → k < W0.heap.size → S k ∧ v.ownBlock ≠ some k) (hB : B ≤ W0.heap.size)
    (ho : W1.ownsRow B e size v' (n + es.length) (xs ++ news)) (hg : W0.grownBy W1 v.ownBlock) (hat : v'.ownBlock = v.ownBlock ∨ ∃ k, v'.ownBlock = some k ∧ W0.heap.size ≤ k) : RowD S B e size (ds ++ es) v' W1 := by
  subst hn
  exact ⟨⟨xs ++ news, by rw [List.length_append]; exact ho, own_step h2 (hp.mono hT) hg hat⟩, Nat.le_trans hB hg.size⟩
end Go.Proofs.Ytbnpemgmdnghgaa
