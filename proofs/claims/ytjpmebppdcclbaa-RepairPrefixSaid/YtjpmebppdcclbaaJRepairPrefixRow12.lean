/- The closing of a table of edges in place; the answers written down. Plain: the passes over the table of lengths end; the counter's table written to. Plain: how many trees of at most so many levels there are. Plain: what the second implementation lists: all trees, if there are not too many, or too high. The contract of RuleFault: it is gram.Check's. Items as keys of a map. A row of the call's own that is also cut at its front: append to it. The lengths of words: two ways to reckon them, in plain Lean. lengthsOf: its boxes, its two rows of items, and its set. The walk of lengthsOf's inner function. lengthsOf: what a round adds, in plain Lean. The contract of Groups' inner function: what is derived from a nonterminal. The contract of approx.derives. lens.Set: what its rounds keep. The contract of grid, of truth values. lengthsOf: what its rounds keep. parlref5.lister.fits. parlref5.lister.trees. parlref5.lister.trees. A block that is known whole is a row. census.Counter.loops. parlref5.lister.rows. The walk of lengthsOf. census.Make. census.check and census.Trees. Plain: how many nodes a listed tree has. census.Trees. census.Total. rank.count and rank.Count. The contract of tree.Word. What rank.numberer.of meets: valid trees, the counter between calls. Plain: the number that rank.of reckons is the place in the list of all trees. rank.numberer.of. The contracts of gram.Root and of the functions of tree.valid. The contracts of tree.valid, tree.Check and tree.Symbol. The contract of tree.valid. The contracts of tree.Symbol and of Label. slices.Equal of symbols. rank.Of. The lengths of a census are those of the second implementation; parlref5.Listed. Plain: what has infinitely many trees has trees of many levels, and the other way round. What rank.numberer.tree and list answer. rank.numberer.tree. rank.numberer.list. rank.Tree. Plain: the two ways to count agree: by what leads to itself, and by the levels of trees. Plain: the numbers of a census are those by levels. Plain: least lengths. Plain: tables of least lengths. Plain: a value of a table of least lengths is set. Plain: the measure of the rounds of useful.lengths; a least value is found (parlref5.Shortest). The least lengths and words of useful are the values of Shortest. The words that useful.words finds, in plain Lean: the values of Shortest. The contract of grid, of whole numbers. What parlref5.heights.row keeps. -/
import Derived.Test.YtjpmebppdcclbaaJRepairPrefixRow11
import Derived.Test.YtjpmebppdcclbaaJRepairPrefixRow2
import Derived.DeepKeys4
import Derived.Test.YtjpmebppdcclbaaJRepairPrefixRow1
import Derived.Deep.DeepCutAuto
import Derived.StillTailTactics
import Derived.BigQuiet
import Derived.Test.YtjpmebppdcclbaaJRepairPrefixRow3
import Derived.IntWalk
import Derived.Deep.CutBlock
import Derived.Deep.LoopGhost
import Derived.Test.YtjpmebppdcclbaaJRepairPrefixRow6
import Derived.Deep.QuietTactic
import Derived.Laws.StructEq
import Derived.Test.YtjpmebppdcclbaaJRepairPrefixRow4
import Derived.Deep.RegionHeld3
import Derived.Test.YtjpmebppdcclbaaJRepairPrefixRow5
namespace Go.Proofs.Ytjpmebppdcclbaa
open Go.RowKit
theorem Grd.other {tr te : TypeId} {B bt n m hi : Nat} {rb : Nat → Nat} {val : Nat → Nat → Value} {wr w' : World} (h : Grd tr te B bt n m hi rb val wr) (hs : ∀ k, B ≤ k → w'.heap[k]? = wr.heap[k]?) : Grd tr te B bt n m hi rb val w' := by
  obtain ⟨⟨cs, h1, h2, h3⟩, h4, h5, h6, h7⟩ := h
  refine ⟨⟨cs, by rw [hs _ h7]; exact h1, h2, h3⟩, fun k hk hn => ?_, h5, h6, h7⟩
  obtain ⟨rs, r1, r2⟩ := h4 k hk hn
  exact ⟨rs, by rw [hs _ (h6 k hk hn).2]; exact r1, r2⟩
namespace Cs
def wv (E : List (Nat × Nat)) (k i j : Nat) : Nat → Nat → Bool := fun a b => if a < i ∨ (a = i ∧ b < j) then fw E (k + 1) a b else fw E k a b
section
variable {E : List (Nat × Nat)} {sz k i j a b : Nat}
end
def mv (T : Nat → Nat → Bool) (sz m i j : Nat) : Nat → Nat → Bool := fun A k => manyK T (if A * m + k < i then sz else if A * m + k = i then j else 0) (A * m + k)
section
variable {T : Nat → Nat → Bool} {sz m i j A k N : Nat}
end
section
variable {g : Gram} {vr : Value} {N n : Nat} {d : Cid} {S M M' : Nat → Nat → Bool} {C : Nat → Nat → Int} {W W' : World}
theorem CI.b2 (h : CI g vr N n d S M C W) : d.b2 ≤ W.heap.size := by
  have := h.lt
  have := h.many.pl
  have := h.cnt.pl
  have := h.le
  omega
theorem CI.setM (h : CI g vr N n d S M C W) {a k : Nat} (ha : a < N) (hk : k < n + 1) : CI g vr N n d S (updB M a k) C (W.setCell ⟨d.rm a, k, none⟩ (.bool true)) := by
  obtain ⟨⟨T, h1⟩, h2, h3, h4, h5⟩ := h
  have hne := h3.ne a ha
  have p2 := h2.pl
  have p3 := h3.pl
  have p4 := h4.pl
  refine ⟨⟨T, bx_other h1 (by omega) _ _⟩, h2.other fun j j1 j2 => Below.heap_setCell _ _ _ _ (by show j ≠ d.rm a; omega), ?_, h4.other fun j j1 j2 => Below.heap_setCell _ _ _ _ (by show j ≠ d.rm a; omega), h5⟩
  refine (h3.set ha hk (.bool true)).eq fun b l _ _ => ?_
  unfold updB
  show (if b = a ∧ l = k then _ else _) = _
  split <;> rfl
end
structure LM (g : Gram) (vr : Value) (N n : Nat) (d : Cid) (S : Nat → Nat → Bool) (C : Nat → Nat → Int) (wB : World) (bt sz : Nat) (rb : Nat → Nat) (F M : Nat → Nat → Bool) (wr : World) : Prop where
  ci : CI g vr N n d S M C wr
  tab : Grd 54 4 wB.heap.size bt sz sz sz rb (fun a b => .bool (F a b)) wr
  bel : Below d.b2 wB wr
  lt : d.cb < wB.heap.size
section
variable {g : Gram} {vr : Value} {N n : Nat} {d : Cid} {S M M' : Nat → Nat → Bool} {C : Nat → Nat → Int} {W wB wr : World} {bt sz : Nat} {rb : Nat → Nat} {F : Nat → Nat → Bool}
theorem LM.b2 (h : LM g vr N n d S C wB bt sz rb F M wr) : d.b2 ≤ wr.heap.size := h.ci.b2
theorem LM.keep (h : LM g vr N n d S C wB bt sz rb F M wr) (hb : Below wr.heap.size wr W) : LM g vr N n d S C wB bt sz rb F M W := ⟨h.ci.keep hb, h.tab.keep hb, h.bel.trans (hb.mono h.b2), h.lt⟩
theorem LM.set (h : LM g vr N n d S C wB bt sz rb F M wr) {a k : Nat} (ha : a < N) (hk : k < n + 1) : LM g vr N n d S C wB bt sz rb F (updB M a k) (wr.setCell ⟨d.rm a, k, none⟩ (.bool true)) := by
  have hne := h.ci.many.ne a ha
  have p4 := h.ci.cnt.pl
  have h5 := h.ci.le
  have h6 := h.lt
  exact ⟨h.ci.setM ha hk, h.tab.other fun j hj => Below.heap_setCell _ _ _ _ (by show j ≠ d.rm a; omega), h.bel.setCell (p := ⟨d.rm a, k, none⟩) hne.2.1 _, h.lt⟩
end
end Cs
end Go.Proofs.Ytjpmebppdcclbaa
namespace Go.Proofs.Ytjpmebppdcclbaa
open Go.RowKit
namespace Cs
def sumN (f : Nat → Nat) : Nat → Nat
  | 0 => 0
  | n + 1 => sumN f n + f n
theorem sumN_le {f g : Nat → Nat} : ∀ (n : Nat), (∀ i, i < n → f i ≤ g i) → sumN f n ≤ sumN g n
  | 0, _ => Nat.le_refl _
  | n + 1, h => Nat.add_le_add (sumN_le n fun i hi => h i (by omega)) (h n (by omega))
theorem sumN_lt {f g : Nat → Nat} : ∀ (n : Nat), (∀ i, i < n → f i ≤ g i) → (∃ i, i < n ∧ f i < g i) → sumN f n < sumN g n
  | 0, _, ⟨i, hi, _⟩ => absurd hi (Nat.not_lt_zero _)
  | n + 1, h, ⟨i, hi, hlt⟩ => by
    have h1 := sumN_le n fun i hi => h i (Nat.lt_succ_of_lt hi)
    have h2 := h n (Nat.lt_succ_self n)
    by_cases e : i = n
    · subst e
      show sumN f i + f i < sumN g i + g i
      omega
    · have h3 := sumN_lt n (fun i hi => h i (Nat.lt_succ_of_lt hi)) ⟨i, by omega, hlt⟩
      show sumN f n + f n < sumN g n + g n
      omega
end Cs
end Go.Proofs.Ytjpmebppdcclbaa
namespace Go.Proofs.Ytjpmebppdcclbaa
open Go.RowKit
namespace Cs
theorem sumN_lt_iff {f g : Nat → Nat} {n : Nat} (h : ∀ i, i < n → f i ≤ g i) : sumN f n < sumN g n ↔ ∃ i, i < n ∧ f i < g i := by
  constructor
  · intro hl
    induction n with
    | zero => exact absurd hl (Nat.lt_irrefl _)
    | succ n ih =>
      by_cases e : f n < g n
      · exact ⟨n, by omega, e⟩
      · have hl' : sumN f n + f n < sumN g n + g n := hl
        have := h n (by omega)
        obtain ⟨i, hi, hlt⟩ := ih (fun i hi => h i (by omega)) (by omega)
        exact ⟨i, by omega, hlt⟩
  · exact sumN_lt n h
theorem sumN_pos_iff {g : Nat → Nat} {n : Nat} : 0 < sumN g n ↔ ∃ i, i < n ∧ 0 < g i := by
  have h0 : ∀ n, sumN (fun _ => 0) n = 0 := by intro n; induction n with
    | zero => rfl
    | succ n ih => show sumN (fun _ => 0) n + 0 = 0; rw [ih]
  have := sumN_lt_iff (f := fun _ => 0) (g := g) (n := n) (fun i _ => Nat.zero_le _)
  rw [h0] at this
  exact this
def cN (o : Sym → Nat → Nat) : List Sym → Nat → Nat
  | [], k => if k = 0 then 1 else 0
  | s :: l, k => sumN (fun i => o s i * cN o l (k - i)) (k + 1)
def oN (c : Nat → Nat → Nat) (s : Sym) (i : Nat) : Nat := if s.term then (if i = 1 then 1 else 0) else c s.n.toNat i
def cR (o : Sym → Nat → Nat) (A : Int) (k : Nat) : List Rule → Nat
  | [] => 0
  | r :: rs => (if r.left = A then cN o r.right k else 0) + cR o A k rs
def cnt (rules : List Rule) : Nat → Nat → Nat → Nat
  | 0, _, _ => 0
  | h + 1, A, k => cR (oN (cnt rules h)) (A : Int) k rules
theorem cN_mono {o o' : Sym → Nat → Nat} (h : ∀ s i, o' s i ≤ o s i) : ∀ (l : List Sym) (k : Nat), cN o' l k ≤ cN o l k
  | [], _ => Nat.le_refl _
  | s :: l, k => by
    rw [cN, cN]
    exact sumN_le _ fun i _ => Nat.mul_le_mul (h s i) (cN_mono h l (k - i))
theorem cR_mono {o o' : Sym → Nat → Nat} (h : ∀ s i, o' s i ≤ o s i) {A : Int} {k : Nat} : ∀ rs, cR o' A k rs ≤ cR o A k rs
  | [] => Nat.le_refl _
  | r :: rs => by
    rw [cR, cR]
    have := cR_mono h (A := A) (k := k) rs
    by_cases e : r.left = A
    · rw [if_pos e, if_pos e]; have := cN_mono h r.right k; omega
    · rw [if_neg e, if_neg e]; omega
theorem oN_mono {c c' : Nat → Nat → Nat} (h : ∀ A i, c' A i ≤ c A i) (s : Sym) (i : Nat) : oN c' s i ≤ oN c s i := by
  unfold oN
  split
  · exact Nat.le_refl _
  · exact h _ _
theorem cnt_mono1 {rules : List Rule} : ∀ (h A k : Nat), cnt rules h A k ≤ cnt rules (h + 1) A k
  | 0, A, k => Nat.zero_le _
  | h + 1, A, k => by
    rw [cnt, cnt]
    exact cR_mono (oN_mono fun A i => cnt_mono1 h A i) _
theorem cnt_mono {rules : List Rule} {h h' : Nat} (hh : h ≤ h') (A k : Nat) : cnt rules h A k ≤ cnt rules h' A k := by
  induction h' with
  | zero => obtain rfl : h = 0 := by omega
            exact Nat.le_refl _
  | succ h' ih =>
    by_cases e : h = h' + 1
    · subst e; exact Nat.le_refl _
    · exact Nat.le_trans (ih (by omega)) (cnt_mono1 _ _ _)
end Cs
end Go.Proofs.Ytjpmebppdcclbaa
namespace Go.Proofs.Ytjpmebppdcclbaa
open Go.RowKit
namespace Cs
end Cs
end Go.Proofs.Ytjpmebppdcclbaa
namespace Go.Proofs.Ytjpmebppdcclbaa
open Go.RowKit
abbrev StrSet (b c : Nat) (S : Lit → Bool) (w : World) : Prop := SetM Try.prog 9 4 b c S w
structure FltI (w0 : World) (mb : Nat) (g : Gram) (K : List Rule) (i : Nat) (wr : World) : Prop where
  set : StrSet mb i (keysOf (K.take i)) wr
  bel : Below w0.heap.size w0 wr
  lo : w0.heap.size ≤ mb
  ok : ∀ r ∈ K.take i, okR r
  flt : faultsFrom g i (K.drop i) = faultsFrom g 0 K
end Go.Proofs.Ytjpmebppdcclbaa
namespace Go.Proofs.Ytjpmebppdcclbaa
open Go.RowKit
namespace Ln
def itL (a b c : Nat) : Lit := .string (keyBytes [.int .i64 a, .int .i64 b, .int .i64 c])
end Ln
end Go.Proofs.Ytjpmebppdcclbaa
namespace Go.Proofs.Ytjpmebppdcclbaa
open Go.RowKit
def ownsQ (w : World) (B : Nat) (e : TypeId) (size : Nat) (v : Value) (n : Nat) (xs : List Value) : Prop :=
  xs.length = n * size ∧
  ((v = .slice none 0 0 ∧ n = 0) ∨
   ∃ g off cap cur, v = .slice (some ⟨g, off, none⟩) n cap ∧ B ≤ g ∧ w.heap[g]? = some (.cells cur e (0, 0)) ∧ n ≤ cap ∧ cap ≤ maxLen ∧ off + cap * size ≤ cur.size ∧ (cur.toList.drop off).take (n * size) = xs)
section
variable {w w' : World} {B : Nat} {e : TypeId} {size : Nat} {v : Value} {n : Nat} {xs : List Value}
theorem ownsQ.lt (h : ownsQ w B e size v n xs) : ∀ k, v.ownBlock = some k → B ≤ k ∧ k < w.heap.size := by
  intro k hk
  rcases h.2 with ⟨rfl, _⟩ | ⟨g, off, cap, cur, rfl, a, b, _⟩
  · cases hk
  · cases hk; exact ⟨a, (Array.getElem?_eq_some_iff.1 b).1⟩
theorem ownsQ.other {row : Option Nat} (h : ownsQ w B e size v n xs) (hg : w.grownBy w' row) (hne : ∀ k, v.ownBlock = some k → row ≠ some k) : ownsQ w' B e size v n xs := by
  have hlt := h.lt
  obtain ⟨h1, h2⟩ := h
  refine ⟨h1, ?_⟩
  rcases h2 with h2 | ⟨g, off, cap, cur, rfl, a, b, r⟩
  · exact .inl h2
  · exact .inr ⟨g, off, cap, cur, rfl, a, (hg.block g (hlt g rfl).2 (fun e => hne g rfl e.symm)).trans b, r⟩
theorem ownsQ.keep (h : ownsQ w B e size v n xs) (hb : Below w.heap.size w w') : ownsQ w' B e size v n xs := h.other (grown_below hb none) (fun k _ e => by cases e)
theorem ownsQ.form (h : ownsQ w B e size v n xs) : ∃ a cap, v = .slice a n cap ∧ n ≤ cap ∧ cap ≤ maxLen := by
  rcases h.2 with ⟨rfl, rfl⟩ | ⟨g, off, cap, cur, rfl, _, _, h1, h2, _⟩
  · exact ⟨_, _, rfl, by simp, by simp⟩
  · exact ⟨_, _, rfl, h1, h2⟩
theorem ownsQ.cells (h : ownsQ w B e size v n xs) (hn : 0 < n) : ∃ g off cap, v = .slice (some ⟨g, off, none⟩) n cap ∧ ∀ j u, xs[j]? = some u → w.cell? ⟨g, off + j, none⟩ = some u := by
  rcases h.2 with ⟨_, h0⟩ | ⟨g, off, cap, cur, rfl, _, hh, h1, h2, h3, ht⟩
  · omega
  · refine ⟨g, off, cap, rfl, fun j u hj => ?_⟩
    have hl := h.1
    have hj2 := (List.getElem?_eq_some_iff.1 hj).1
    rw [← ht, List.getElem?_take, if_pos (by omega), List.getElem?_drop] at hj
    simp [World.cell?, hh]
    simpa using hj
theorem ownsQ.tail {g off cap : Nat} {ys : List Value} (h : ownsQ w B e size (.slice (some ⟨g, off, none⟩) (n + 1) cap) (n + 1) (ys ++ xs)) (hy : ys.length = size) (hs : 0 < size) : ownsQ w B e size (.slice (if cap = 1 then some ⟨g, off, none⟩ else some ⟨g, off + size, none⟩) n (cap - 1)) n xs := by
  obtain ⟨h1, h2⟩ := h
  rw [List.length_append, Nat.add_mul, hy] at h1
  refine ⟨by omega, ?_⟩
  rcases h2 with ⟨h2, _⟩ | ⟨g', off', cap', cur, hv, a, b, c, d, f, t⟩
  · cases h2
  · cases hv
    right
    by_cases e1 : cap = 1
    · subst e1
      obtain rfl : n = 0 := by omega
      have hx : xs = [] := List.eq_nil_of_length_eq_zero (by omega)
      refine ⟨g, off, 0, cur, by simp, a, b, by omega, by unfold maxLen; omega, by omega, by simp [hx]⟩
    · refine ⟨g, off + size, cap - 1, cur, by simp [e1], a, b, by omega, by omega, ?_, ?_⟩
      · have : cap * size = size + (cap - 1) * size := by
          obtain ⟨c', rfl⟩ : ∃ c', cap = c' + 1 := ⟨cap - 1, by omega⟩
          simp [Nat.add_mul]; omega
        omega
      · have h3 : (cur.toList.drop off).take (n * size + size) = ys ++ xs := by rw [← t]; congr 1; simp [Nat.add_mul]
        have h4 := congrArg (List.drop size) h3
        have h5 : List.drop size (ys ++ xs) = xs := by rw [← hy]; simp
        rw [List.drop_take, List.drop_drop, h5, Nat.add_sub_cancel] at h4
        exact h4
end
end Go.Proofs.Ytjpmebppdcclbaa
namespace Go.Proofs.Ytjpmebppdcclbaa
open Go.RowKit
namespace Ln
def rt (K : List Rule) (i : Nat) : List Sym := (K[i]?.map Rule.right).getD []
def lft (K : List Rule) (i : Nat) : Int := (K[i]?.map Rule.left).getD 0
inductive It (K : List Rule) : Nat → Nat → Nat → Prop
  | start {i : Nat} : i < K.length → It K i 0 0
  | term {i d l : Nat} {s : Sym} : It K i d l → (rt K i)[d]? = some s → s.term = true → It K i (d + 1) (l + 1)
  | non {i d l j k : Nat} {s : Sym} : It K i d l → (rt K i)[d]? = some s → s.term = false → It K j (rt K j).length k → lft K j = s.n → It K i (d + 1) (l + k)
theorem It.lt {K : List Rule} {i d l : Nat} (h : It K i d l) : i < K.length := by
  induction h with
  | start h => exact h
  | term _ _ _ ih => exact ih
  | non _ _ _ _ _ ih _ => exact ih
theorem It.dot {K : List Rule} {i d l : Nat} (h : It K i d l) : d ≤ (rt K i).length := by
  induction h with
  | start h => omega
  | term _ hs _ _ => have := (List.getElem?_eq_some_iff.1 hs).1; omega
  | non _ hs _ _ _ _ _ => have := (List.getElem?_eq_some_iff.1 hs).1; omega
def Has (K : List Rule) (a : Int) (k : Nat) : Prop := ∃ j, It K j (rt K j).length k ∧ lft K j = a
def stB (H : Nat → Nat → Bool) (s : Sym) (j : Nat) : Bool := if s.term then j == 1 else H s.n.toNat j
def nxt (H : Nat → Nat → Bool) (n : Nat) (s : Sym) (A : Nat → Bool) (m : Nat) : Bool := decide (m ≤ n) && (List.range (m + 1)).any fun i => A i && stB H s (m - i)
def atR (H : Nat → Nat → Bool) (n : Nat) (R : List Sym) : Nat → Bool := R.foldl (fun A s => nxt H n s A) (fun m => m == 0)
def Sound (K : List Rule) (H : Nat → Nat → Bool) : Prop := ∀ a k, H a k = true → Has K (a : Int) k
def Closed (K : List Rule) (n : Nat) (H : Nat → Nat → Bool) (i : Nat) : Prop := ∀ m, m ≤ n → atR H n (rt K i) m = true → H (lft K i).toNat m = true
variable {K : List Rule} {n : Nat} {H : Nat → Nat → Bool}
structure Items (K : List Rule) (n : Nat) (L : List (Nat × Nat × Nat)) (p : Nat) (C : Nat → Nat → Bool) : Prop where
  sound : ∀ x ∈ L, It K x.1 x.2.1 x.2.2 ∧ x.2.2 ≤ n
  nodup : L.Nodup
  start : ∀ i, i < K.length → (i, 0, 0) ∈ L
  csound : ∀ a k, C a k = true → ∃ x ∈ L.take p, x.2.1 = (rt K x.1).length ∧ lft K x.1 = (a : Int) ∧ x.2.2 = k
  full : ∀ x ∈ L.take p, x.2.1 = (rt K x.1).length → C (lft K x.1).toNat x.2.2 = true
  term : ∀ x ∈ L.take p, ∀ s, (rt K x.1)[x.2.1]? = some s → s.term = true → x.2.2 + 1 ≤ n → (x.1, x.2.1 + 1, x.2.2 + 1) ∈ L
  non : ∀ x ∈ L.take p, ∀ s, (rt K x.1)[x.2.1]? = some s → s.term = false → ∀ k, C s.n.toNat k = true → x.2.2 + k ≤ n → (x.1, x.2.1 + 1, x.2.2 + k) ∈ L
end Ln
end Go.Proofs.Ytjpmebppdcclbaa
namespace Go.Proofs.Ytjpmebppdcclbaa
open Go.RowKit
namespace Ln
open Classical in
noncomputable def inSet (L : List (Nat × Nat × Nat)) : Lit → Bool := fun l => decide (∃ x ∈ L, itL x.1 x.2.1 x.2.2 = l)
section
variable {B : Nat} {X : Nat → Prop} {A Q L0 : List (Nat × Nat × Nat)} {g0 off0 : Nat} {va vq : Value} {W W1 : World}
theorem ob {g off n cap k : Nat} (h : (Value.slice (some ⟨g, off, none⟩) n cap).ownBlock = some k) : g = k := by simpa [Value.ownBlock] using h
end
open Classical in
noncomputable def addL (n : Nat) (L : List (Nat × Nat × Nat)) (x : Nat × Nat × Nat) : List (Nat × Nat × Nat) := if x.2.2 ≤ n ∧ x ∉ L then L ++ [x] else L
end Ln
end Go.Proofs.Ytjpmebppdcclbaa
namespace Go.Proofs.Ytjpmebppdcclbaa
open Go.RowKit
namespace Ln
section
variable {w2 w3 : World} {s : Nat} {S : Lit → Bool} {b : Nat} {X : Nat → Prop} {A Q L0 : List (Nat × Nat × Nat)} {g0 off0 : Nat} {va vq : Value} {W W1 : World}
end
open Classical in
theorem addL_no {n : Nat} {L : List (Nat × Nat × Nat)} {x : Nat × Nat × Nat} (h : ¬ x.2.2 ≤ n ∨ x ∈ L) : addL n L x = L := by
  unfold addL
  rw [if_neg]
  rintro ⟨h1, h2⟩
  rcases h with h | h
  · exact h h1
  · exact h2 h
open Classical in
theorem addL_yes {n : Nat} {L : List (Nat × Nat × Nat)} {x : Nat × Nat × Nat} (h : x.2.2 ≤ n) (h2 : x ∉ L) : addL n L x = L ++ [x] := by
  unfold addL; rw [if_pos ⟨h, h2⟩]
end Ln
end Go.Proofs.Ytjpmebppdcclbaa
namespace Go.Proofs.Ytjpmebppdcclbaa
open Go.RowKit
namespace Ln
theorem nodup_le : ∀ (l m : List (Nat × Nat × Nat)), l.Nodup → (∀ x ∈ l, x ∈ m) → l.length ≤ m.length
  | [], m, _, _ => by simp
  | a :: l, m, hn, hs => by
    have ha := hs a List.mem_cons_self
    rw [List.nodup_cons] at hn
    have := nodup_le l (m.erase a) hn.2 fun x hx => by
      have hne : x ≠ a := fun e => hn.1 (e ▸ hx)
      exact (List.mem_erase_of_ne hne).2 (hs x (List.mem_cons_of_mem _ hx))
    rw [List.length_erase_of_mem ha] at this
    have : 0 < m.length := List.length_pos_of_mem ha
    simp; omega
def boxL (a b c : Nat) : List (Nat × Nat × Nat) := (List.range a).flatMap fun i => (List.range b).flatMap fun j => (List.range c).map fun k => (i, j, k)
theorem mem_boxL {a b c i j k : Nat} : (i, j, k) ∈ boxL a b c ↔ i < a ∧ j < b ∧ k < c := by
  unfold boxL
  simp only [List.mem_flatMap, List.mem_map, List.mem_range, Prod.mk.injEq]
  constructor
  · rintro ⟨a1, h1, b1, h2, c1, h3, rfl, rfl, rfl⟩; exact ⟨h1, h2, h3⟩
  · rintro ⟨h1, h2, h3⟩; exact ⟨i, h1, j, h2, k, h3, rfl, rfl, rfl⟩
theorem len_flat {α β : Type} (f : α → List β) (m : Nat) : ∀ (l : List α), (∀ x ∈ l, (f x).length = m) → (l.flatMap f).length = l.length * m
  | [], _ => by simp
  | x :: l, h => by
    rw [List.flatMap_cons, List.length_append, h x List.mem_cons_self, len_flat f m l (fun y hy => h y (List.mem_cons_of_mem _ hy)), List.length_cons, Nat.add_mul]; omega
theorem len_boxL (a b c : Nat) : (boxL a b c).length = a * (b * c) := by
  unfold boxL
  rw [len_flat _ (b * c)]
  · simp
  · intro i _
    rw [len_flat _ c]
    · simp
    · intro j _; simp
variable {K : List Rule} {n : Nat}
structure Grow (K : List Rule) (n : Nat) (L0 L : List (Nat × Nat × Nat)) : Prop where
  pre : L0 <+: L
  nodup : L.Nodup
  sound : ∀ x ∈ L, It K x.1 x.2.1 x.2.2 ∧ x.2.2 ≤ n
open Classical in
theorem mem_addL_old {L : List (Nat × Nat × Nat)} {x y : Nat × Nat × Nat} (h : y ∈ L) : y ∈ addL n L x := by
  unfold addL; split
  · exact List.mem_append_left _ h
  · exact h
open Classical in
theorem mem_addL {L : List (Nat × Nat × Nat)} {x : Nat × Nat × Nat} (h : x.2.2 ≤ n) : x ∈ addL n L x := by
  unfold addL
  by_cases hx : x ∈ L
  · rw [if_neg (by simp [hx])]; exact hx
  · rw [if_pos ⟨h, hx⟩]; simp
open Classical in
theorem Grow.add {L0 L : List (Nat × Nat × Nat)} {x : Nat × Nat × Nat} (h : Grow K n L0 L) (hx : It K x.1 x.2.1 x.2.2) : Grow K n L0 (addL n L x) := by
  unfold addL; split
  · rename_i hc
    refine ⟨h.pre.trans (List.prefix_append _ _), ?_, ?_⟩
    · rw [List.nodup_append]
      refine ⟨h.nodup, by simp, ?_⟩
      intro a ha b hb e
      simp at hb
      subst hb; subst e
      exact hc.2 ha
    · intro y hy
      rcases List.mem_append.1 hy with hy | hy
      · exact h.sound y hy
      · simp at hy; subst hy; exact ⟨hx, hc.1⟩
  · exact h
theorem Grow.len {L0 L : List (Nat × Nat × Nat)} (h : Grow K n L0 L) (hK : K.length ≤ 32) (hr : ∀ i, (rt K i).length ≤ 4) (hn : n ≤ 400) : L.length ≤ 64160 := by
  have h1 := nodup_le L (boxL 32 5 401) h.nodup (fun x hx => by
    obtain ⟨h1, h2⟩ := h.sound x hx
    have h3 := h1.lt
    have h4 := h1.dot
    have h5 := hr x.1
    obtain ⟨i, j, k⟩ := x
    simp only at h2 h3 h4 h5
    exact mem_boxL.2 ⟨by omega, by omega, by omega⟩)
  rw [len_boxL] at h1
  omega
theorem Grow.refl {L : List (Nat × Nat × Nat)} (h1 : L.Nodup) (h2 : ∀ x ∈ L, It K x.1 x.2.1 x.2.2 ∧ x.2.2 ≤ n) : Grow K n L L := ⟨List.prefix_refl _, h1, h2⟩
theorem Items.next {L L' : List (Nat × Nat × Nat)} {p : Nat} {C C' : Nat → Nat → Bool} (h : Items K n L p C) (hp : p < L.length) {x : Nat × Nat × Nat} (hx : L[p] = x) (hg : Grow K n L L')
    (hc : ∀ a k, C' a k = true → C a k = true ∨ (x.2.1 = (rt K x.1).length ∧ lft K x.1 = (a : Int) ∧ x.2.2 = k))
    (hf0 : ∀ a k, C a k = true → C' a k = true)
    (hf : x.2.1 = (rt K x.1).length → C' (lft K x.1).toNat x.2.2 = true)
    (ht : ∀ s, (rt K x.1)[x.2.1]? = some s → s.term = true → x.2.2 + 1 ≤ n → (x.1, x.2.1 + 1, x.2.2 + 1) ∈ L')
    (hn : ∀ s, (rt K x.1)[x.2.1]? = some s → s.term = false → ∀ k, C' s.n.toNat k = true → x.2.2 + k ≤ n → (x.1, x.2.1 + 1, x.2.2 + k) ∈ L')
    (hn2 : ∀ y ∈ L, ∀ s, (rt K y.1)[y.2.1]? = some s → s.term = false → ∀ k, C' s.n.toNat k = true → C s.n.toNat k = false → y.2.2 + k ≤ n → (y.1, y.2.1 + 1, y.2.2 + k) ∈ L') : Items K n L' (p + 1) C' := by
  obtain ⟨t, rfl⟩ := hg.pre
  have htk : (L ++ t).take (p + 1) = L.take p ++ [x] := by
    rw [List.take_append_of_le_length (by omega), List.take_succ_eq_append_getElem hp, hx]
  refine ⟨hg.sound, hg.nodup, fun i hi => List.mem_append_left _ (h.start i hi), ?_, ?_, ?_, ?_⟩
  · intro a k hk
    rw [htk]
    rcases hc a k hk with h1 | ⟨h1, h2, h3⟩
    · obtain ⟨y, hy, h2⟩ := h.csound a k h1
      exact ⟨y, List.mem_append_left _ hy, h2⟩
    · exact ⟨x, by simp, h1, h2, h3⟩
  · intro y hy
    rw [htk] at hy
    rcases List.mem_append.1 hy with hy | hy
    · exact fun e => hf0 _ _ (h.full y hy e)
    · simp at hy; subst hy; exact hf
  · intro y hy
    rw [htk] at hy
    rcases List.mem_append.1 hy with hy | hy
    · exact fun s h1 h2 h3 => List.mem_append_left _ (h.term y hy s h1 h2 h3)
    · simp at hy; subst hy; exact ht
  · intro y hy
    rw [htk] at hy
    rcases List.mem_append.1 hy with hy | hy
    · intro s h1 h2 k h3 h4
      cases e : C s.n.toNat k with
      | true => exact List.mem_append_left _ (h.non y hy s h1 h2 k e h4)
      | false => exact hn2 y (List.mem_of_mem_take hy) s h1 h2 k h3 e h4
    · simp at hy; subst hy; exact hn
open Classical in
theorem Items.termN {L : List (Nat × Nat × Nat)} {p i d l : Nat} {C : Nat → Nat → Bool} {s : Sym} (h : Items K n L p C) (hp : p < L.length) (hx : L[p] = (i, d, l)) (hs : (rt K i)[d]? = some s) (ht : s.term = true) : Items K n (addL n L (i, d + 1, l + 1)) (p + 1) C := by
  have hit := (h.sound _ (List.getElem_mem hp)).1
  rw [hx] at hit
  refine h.next hp hx ((Grow.refl h.nodup h.sound).add (.term hit hs ht)) (fun _ _ h => .inl h) (fun _ _ h => h) (fun e => ?_) (fun s' hs' ht' hl => mem_addL hl) (fun s' hs' ht' k _ _ => ?_) (fun y _ s _ _ k h1 h2 _ => by rw [h1] at h2; cases h2)
  · have := (List.getElem?_eq_some_iff.1 hs).1; simp only at e; omega
  · simp only at hs'
    rw [hs] at hs'; cases hs'; rw [ht] at ht'; cases ht'
end Ln
end Go.Proofs.Ytjpmebppdcclbaa
namespace Go.Proofs.Ytjpmebppdcclbaa
open Go.RowKit
end Go.Proofs.Ytjpmebppdcclbaa
namespace Go.Proofs.Ytjpmebppdcclbaa
open Go.RowKit
abbrev BTab (B bt N hi : Nat) (rb : Nat → Nat) (val : Nat → Nat → Bool) (wr : World) : Prop := Grd 54 4 B bt N N hi rb (fun i j => .bool (val i j)) wr
structure DI (w : World) (bt N : Nat) (G : Array Value) (rb : Nat → Nat) (hi : Nat) (val : Nat → Nat → Bool) (wr : World) : Prop where
  tab : BTab (w.heap.size + 1) bt N hi rb val wr
  bel : Below w.heap.size w wr
  box : wr.heap[w.heap.size]? = some (.cells G 24 (0, 0))
section
variable {w : World} {bt N : Nat} {G : Array Value} {rb : Nat → Nat} {hi : Nat} {val val' : Nat → Nat → Bool} {wr w' : World}
theorem DI.keep (h : DI w bt N G rb hi val wr) (hb : Below wr.heap.size wr w') : DI w bt N G rb hi val w' := ⟨h.tab.keep hb, h.bel.trans (hb.mono h.bel.size), bx_keep h.box hb⟩
theorem DI.eq (h : DI w bt N G rb hi val wr) (he : ∀ i j, i < N → j < N → val i j = val' i j) : DI w bt N G rb hi val' wr := ⟨h.tab.eq (fun i j _ hi hj => by rw [he i j hi hj]), h.bel, h.box⟩
theorem DI.set (h : DI w bt N G rb N val wr) {i j : Nat} (hi : i < N) (hj : j < N) (x : Bool) (he : ∀ a b, a < N → b < N → val' a b = if a = i ∧ b = j then x else val a b) : DI w bt N G rb N val' (wr.setCell ⟨rb i, j, none⟩ (.bool x)) := by
  have hne := (h.tab.ne i hi hi).2
  refine ⟨(h.tab.set hi hi hj (.bool x)).eq (fun a b _ ha hb => ?_), h.bel.setCell (by show w.heap.size ≤ rb i; omega) _, bx_other h.box (by show w.heap.size ≠ rb i; omega) _ _⟩
  rw [he a b ha hb]
  split <;> rfl
end
end Go.Proofs.Ytjpmebppdcclbaa
namespace Go.Proofs.Ytjpmebppdcclbaa
open Go.RowKit
namespace Ln
def Brow (g m : Nat) (A : Nat → Bool) (wr : World) : Prop := ∃ cs, wr.heap[g]? = some (.cells cs 4 (0, 0)) ∧ cs.size = m ∧ ∀ k, k < m → cs[k]? = some (.bool (A k))
section
variable {g m : Nat} {A A' : Nat → Bool} {wr w' : World}
theorem Brow.lt (h : Brow g m A wr) : g < wr.heap.size := by obtain ⟨cs, h1, _⟩ := h; exact (Array.getElem?_eq_some_iff.1 h1).1
theorem Brow.keep (h : Brow g m A wr) (hb : Below wr.heap.size wr w') : Brow g m A w' := by obtain ⟨cs, h1, h2⟩ := h; exact ⟨cs, bx_keep h1 hb, h2⟩
theorem Brow.cell (h : Brow g m A wr) {k : Nat} (hk : k < m) : wr.cell? ⟨g, k, none⟩ = some (.bool (A k)) := by obtain ⟨cs, h1, h2, h3⟩ := h; simp [World.cell?, h1, h3 k hk]
theorem Brow.free (h : Brow g m A wr) (k : Nat) : wr.frozen? ⟨g, k, none⟩ = false := by obtain ⟨cs, h1, h2, h3⟩ := h; simp [World.frozen?, h1]
theorem Brow.eq (h : Brow g m A wr) (he : ∀ k, k < m → A k = A' k) : Brow g m A' wr := by obtain ⟨cs, h1, h2, h3⟩ := h; exact ⟨cs, h1, h2, fun k hk => by rw [h3 k hk, he k hk]⟩
theorem Brow.set (h : Brow g m A wr) {j : Nat} (hj : j < m) (he : ∀ k, k < m → A' k = if k = j then true else A k) : Brow g m A' (wr.setCell ⟨g, j, none⟩ (.bool true)) := by
  obtain ⟨cs, h1, h2, h3⟩ := h
  refine ⟨cs.setIfInBounds j (.bool true), bx_set h1 _ _, by simpa using h2, fun k hk => ?_⟩
  rw [Array.getElem?_setIfInBounds, he k hk]
  by_cases e : j = k
  · subst e; rw [if_pos rfl, if_pos (by omega)]; simp
  · rw [if_neg e, h3 k hk, if_neg (fun h => e h.symm)]
theorem Brow.other (h : Brow g m A wr) {b : Nat} (hne : g ≠ b) (j : Nat) (v : Value) : Brow g m A (wr.setCell ⟨b, j, none⟩ v) := by obtain ⟨cs, h1, h2⟩ := h; exact ⟨cs, bx_other h1 hne _ _, h2⟩
end
structure LI (w : World) (bt N m : Nat) (G : Array Value) (rb : Nat → Nat) (hi : Nat) (H : Nat → Nat → Bool) (wr : World) : Prop where
  tab : Grd 54 4 (w.heap.size + 1) bt N m hi rb (fun i j => .bool (H i j)) wr
  bel : Below w.heap.size w wr
  box : wr.heap[w.heap.size]? = some (.cells G 24 (0, 0))
section
variable {w : World} {bt N m : Nat} {G : Array Value} {rb : Nat → Nat} {hi : Nat} {H H' : Nat → Nat → Bool} {wr w' : World}
theorem LI.keep (h : LI w bt N m G rb hi H wr) (hb : Below wr.heap.size wr w') : LI w bt N m G rb hi H w' := ⟨h.tab.keep hb, h.bel.trans (hb.mono h.bel.size), bx_keep h.box hb⟩
theorem LI.set (h : LI w bt N m G rb N H wr) {i j : Nat} (hi : i < N) (hj : j < m) (he : ∀ a b, a < N → b < m → H' a b = if a = i ∧ b = j then true else H a b) : LI w bt N m G rb N H' (wr.setCell ⟨rb i, j, none⟩ (.bool true)) := by
  have hne := (h.tab.ne i hi hi).2
  refine ⟨(h.tab.set hi hi hj (.bool true)).eq (fun a b _ ha hb => ?_), h.bel.setCell (by show w.heap.size ≤ rb i; omega) _, bx_other h.box (by show w.heap.size ≠ rb i; omega) _ _⟩
  rw [he a b ha hb]
  split <;> rfl
end
def cells (N m : Nat) : List (Nat × Nat) := (List.range N).flatMap fun a => (List.range m).map fun b => (a, b)
end Ln
end Go.Proofs.Ytjpmebppdcclbaa
namespace Go.Proofs.Ytjpmebppdcclbaa
open Go.RowKit
namespace Ln
end Ln
end Go.Proofs.Ytjpmebppdcclbaa
namespace Go.Proofs.Ytjpmebppdcclbaa
open Go.RowKit
namespace Ln
theorem Grd.same {tr te : TypeId} {B bt n m hi : Nat} {rb : Nat → Nat} {val : Nat → Nat → Value} {wr w' : World} (h : Grd tr te B bt n m hi rb val wr) (h1 : w'.heap[bt]? = wr.heap[bt]?) (h2 : ∀ i, i < hi → i < n → w'.heap[rb i]? = wr.heap[rb i]?) : Grd tr te B bt n m hi rb val w' := by
  obtain ⟨⟨cs, k1, k2⟩, k3, k4, k5, k6⟩ := h
  refine ⟨⟨cs, h1.trans k1, k2⟩, fun k hk hn => ?_, k4, k5, k6⟩
  obtain ⟨rs, r1, r2⟩ := k3 k hk hn
  exact ⟨rs, (h2 k hk hn).trans r1, r2⟩
section
variable {w2 : World} {nb s n : Nat} {X X' : Nat → Prop} {L L0 : List (Nat × Nat × Nat)} {p g0 off0 : Nat} {wr w' : World}
end
section
variable {w : World} {s n N : Nat} {G : Array Value} {bt : Nat} {rb : Nat → Nat} {X X' : Nat → Prop} {L L' : List (Nat × Nat × Nat)} {p : Nat} {L0 : List (Nat × Nat × Nat)} {g0 off0 : Nat} {C C' : Nat → Nat → Bool} {wr w' : World}
end
end Ln
end Go.Proofs.Ytjpmebppdcclbaa
namespace Go.Proofs.Ytjpmebppdcclbaa
open Go.RowKit
namespace Cs
structure FI (W : World) (sx : Nat) (SB : Array Value) (ga : Nat) (A : Nat → Bool) (gn : Nat) (M : Nat → Bool) (m : Nat) (wr : World) : Prop where
  bel : Below W.heap.size W wr
  sbox : wr.heap[sx]? = some (.cells SB 44 (0, 0))
  arow : Ln.Brow ga m A wr
  nrow : Ln.Brow gn m M wr
  ne : W.heap.size ≤ gn ∧ gn ≠ sx ∧ gn ≠ ga
section
variable {W : World} {sx : Nat} {SB : Array Value} {ga : Nat} {A : Nat → Bool} {gn : Nat} {M M' : Nat → Bool} {m : Nat} {wr w' : World}
theorem FI.eq (h : FI W sx SB ga A gn M m wr) (he : ∀ k, k < m → M k = M' k) : FI W sx SB ga A gn M' m wr := ⟨h.bel, h.sbox, h.arow, h.nrow.eq he, h.ne⟩
theorem FI.keep (h : FI W sx SB ga A gn M m wr) (hb : Below wr.heap.size wr w') : FI W sx SB ga A gn M m w' := ⟨h.bel.trans (hb.mono h.bel.size), bx_keep h.sbox hb, h.arow.keep hb, h.nrow.keep hb, h.ne⟩
theorem Brow.setV (h : Ln.Brow gn m M wr) {j : Nat} {x : Bool} (hj : j < m) (he : ∀ k, k < m → M' k = if k = j then x else M k) : Ln.Brow gn m M' (wr.setCell ⟨gn, j, none⟩ (.bool x)) := by
  obtain ⟨cs, h1, h2, h3⟩ := h
  refine ⟨cs.setIfInBounds j (.bool x), bx_set h1 _ _, by simpa using h2, fun k hk => ?_⟩
  rw [Array.getElem?_setIfInBounds, he k hk]
  by_cases e : j = k
  · subst e; rw [if_pos rfl, if_pos (by omega)]; simp
  · rw [if_neg e, h3 k hk, if_neg (fun h => e h.symm)]
theorem FI.set (h : FI W sx SB ga A gn M m wr) {j : Nat} {x : Bool} (hj : j < m) (he : ∀ k, k < m → M' k = if k = j then x else M k) : FI W sx SB ga A gn M' m (wr.setCell ⟨gn, j, none⟩ (.bool x)) := by
  obtain ⟨h1, h2, h3, h4, e1, e2, e3⟩ := h
  exact ⟨h1.setCell (p := ⟨gn, j, none⟩) e1 _, bx_other h2 (fun e => e2 e.symm) _ _, h3.other (fun e => e3 e.symm) _ _, Brow.setV h4 hj he, e1, e2, e3⟩
end
end Cs
end Go.Proofs.Ytjpmebppdcclbaa
namespace Go.Proofs.Ytjpmebppdcclbaa
open Go.RowKit
namespace Cs
structure InG (e : TypeId) (size B : Nat) (w3 : World) (vo : Value) (ds : List D) (v : Value) (wr : World) : Prop where
  row : RowD (fun k => B ≤ k) B e size ds v wr
  gr : w3.grownBy wr vo.ownBlock
  at' : v.ownBlock = vo.ownBlock ∨ ∃ k, v.ownBlock = some k ∧ w3.heap.size ≤ k
section
variable {e : TypeId} {size B : Nat} {w1 w3 : World} {vo : Value} {ds : List D} {v v' : Value} {wr w' W0 W1 : World}
theorem InG.start (h : RowD (fun k => B ≤ k) B e size ds vo w3) : InG e size B w3 vo ds vo w3 := ⟨h, ⟨rfl, rfl, rfl, Nat.le_refl _, fun _ _ _ => rfl⟩, .inl rfl⟩
theorem InG.keep (h : InG e size B w3 vo ds v wr) (hb : Below wr.heap.size wr w') : InG e size B w3 vo ds v w' := ⟨h.row.keep hb, grown_trans h.gr (grown_below hb _), h.at'⟩
theorem InG.rd (h : InG e size B w3 vo ds v wr) {T : Nat → Prop} {d : D} {cs : List Value} (hd : Rd (fun k => T k ∧ vo.ownBlock ≠ some k) w3 d cs) : Rd (fun k => T k ∧ k < wr.heap.size ∧ v.ownBlock ≠ some k) wr d cs := by
  refine Rd.keep (fun k hk hlt => ⟨⟨hk.1, Nat.lt_of_lt_of_le hlt h.gr.size, fun e => ?_⟩, h.gr.block k hlt (fun e => hk.2 e.symm)⟩) _ _ hd
  rcases h.at' with h2 | ⟨j, h2, hj⟩
  · rw [h2] at e; exact hk.2 e
  · rw [h2] at e; cases e; omega
theorem InG.below (h : InG e size B w3 vo ds v wr) (hb : Below B w1 w3) (hB : B ≤ w3.heap.size) (hvo : ∀ k, vo.ownBlock = some k → B ≤ k) : Below B w1 wr := hb.grown h.gr hB hvo
theorem InG.step {xs news : List Value} {n : Nat} {T : Nat → Prop} {d : D} (h : InG e size B w3 vo ds v W0) (ho : W0.ownsRow B e size v n xs) (hd : RdAll (fun k => B ≤ k ∧ v.ownBlock ≠ some k) W0 ds xs) (hn : n = ds.length)
    (hr : Rd T W0 d news) (hT : ∀ k, T k → k < W0.heap.size → B ≤ k ∧ v.ownBlock ≠ some k)
    (ho' : W1.ownsRow B e size v' (n + 1) (xs ++ news)) (hg : W0.grownBy W1 v.ownBlock) (hat : v'.ownBlock = v.ownBlock ∨ ∃ k, v'.ownBlock = some k ∧ W0.heap.size ≤ k) : InG e size B w3 vo (ds ++ [d]) v' W1 := by
  refine ⟨RowD.step (es := [d]) ho hd hn (RdAll.one hr) hT h.row.le ho' hg hat, ?_, ?_⟩
  · refine ⟨hg.os.trans h.gr.os, hg.tape.trans h.gr.tape, hg.output.trans h.gr.output, Nat.le_trans h.gr.size hg.size, fun k hk hne => ?_⟩
    rw [hg.block k (Nat.lt_of_lt_of_le hk h.gr.size) ?_, h.gr.block k hk hne]
    intro e
    rcases h.at' with h2 | ⟨j, h2, hj⟩
    · exact hne (by rw [e, h2])
    · rw [h2] at e; cases e; omega
  · have := h.gr.size
    rcases hat with h2 | ⟨j, h2, hj⟩
    · rw [h2]; exact h.at'
    · exact .inr ⟨j, h2, by omega⟩
end
end Cs
end Go.Proofs.Ytjpmebppdcclbaa
namespace Go.Proofs.Ytjpmebppdcclbaa
open Go.RowKit
namespace Cs
end Cs
end Go.Proofs.Ytjpmebppdcclbaa
namespace Go.Proofs.Ytjpmebppdcclbaa
open Go.RowKit
end Go.Proofs.Ytjpmebppdcclbaa
namespace Go.Proofs.Ytjpmebppdcclbaa
open Go.RowKit
namespace Cs
structure LI (wB : World) (bt sz : Nat) (rb : Nat → Nat) (B2 : Nat) (F : Nat → Nat → Bool) (wr : World) : Prop where
  tab : Grd 54 4 wB.heap.size bt sz sz sz rb (fun a b => .bool (F a b)) wr
  bel : Below wB.heap.size wB wr
  lo : ∀ a, a < sz → rb a < B2
section
variable {wB : World} {bt sz : Nat} {rb : Nat → Nat} {B2 : Nat} {F : Nat → Nat → Bool} {wr W : World}
theorem LI.keep (h : LI wB bt sz rb B2 F wr) (hb : Below wr.heap.size wr W) : LI wB bt sz rb B2 F W := ⟨h.tab.keep hb, h.bel.trans (hb.mono h.bel.size), h.lo⟩
theorem LI.setv (h : LI wB bt sz rb B2 F wr) {a b : Nat} (ha : a < sz) (hb : b < sz) (x : Bool) : LI wB bt sz rb B2 (fun k l => if k = a ∧ l = b then x else F k l) (wr.setCell ⟨rb a, b, none⟩ (.bool x)) := by
  refine ⟨(h.tab.set ha ha hb (.bool x)).eq (fun k l _ _ _ => ?_), h.bel.setCell (p := ⟨rb a, b, none⟩) (h.tab.ne a ha ha).2 _, h.lo⟩
  show (if k = a ∧ l = b then _ else _) = _
  split <;> rfl
theorem LI.eq {F' : Nat → Nat → Bool} (h : LI wB bt sz rb B2 F wr) (he : ∀ k l, k < sz → l < sz → F k l = F' k l) : LI wB bt sz rb B2 F' wr := ⟨h.tab.eq fun k l hk _ hl => by rw [he k l hk hl], h.bel, h.lo⟩
theorem LI.set (h : LI wB bt sz rb B2 F wr) {a b : Nat} (ha : a < sz) (hb : b < sz) : LI wB bt sz rb B2 (updB F a b) (wr.setCell ⟨rb a, b, none⟩ (.bool true)) := h.setv ha hb true
end
def okL (N : Nat) (g : Gram) : Prop := ∀ r ∈ g.rules, 0 ≤ r.left ∧ r.left.toNat < N
end Cs
end Go.Proofs.Ytjpmebppdcclbaa
namespace Go.Proofs.Ytjpmebppdcclbaa
open Go.RowKit
namespace Cs
section
variable {e : TypeId} {size B : Nat} {w3 : World} {vo : Value} {ds : List D} {v : Value} {wr : World}
theorem InG.block (h : InG e size B w3 vo ds v wr) {b : Nat} {o : Obj} (hb : w3.heap[b]? = some o) (hne : vo.ownBlock ≠ some b) : wr.heap[b]? = some o := by
  rw [h.gr.block b (Array.getElem?_eq_some_iff.1 hb).1 (fun e => hne e.symm)]; exact hb
end
end Cs
end Go.Proofs.Ytjpmebppdcclbaa
namespace Go.Proofs.Ytjpmebppdcclbaa
open Go.RowKit
namespace Ln
end Ln
end Go.Proofs.Ytjpmebppdcclbaa
namespace Go.Proofs.Ytjpmebppdcclbaa
open Go.RowKit
namespace Cs
theorem inv_setc {md : Region.Mode} {ops : Array Oper} {n i : Nat} {listed : Array Bool} (inv : HeadInv md ops n listed) (hr : (Region.ready md ops listed).contains i = true) (hin : i < n) : HeadInv md ops n (listed.setIfInBounds i true) := inv.set (by simpa using hr) hin
end Cs
end Go.Proofs.Ytjpmebppdcclbaa
namespace Go.Proofs.Ytjpmebppdcclbaa
open Go.RowKit
namespace Cs
structure OkC (g : Gram) (N : Nat) : Prop where
  nons : g.nons = (N : Int)
  n1 : 1 ≤ N
  n2 : N ≤ 10
  s0 : 0 ≤ g.start
  s1 : g.start < (N : Int)
  r : okR N g
  l : okL N g
  len : g.rules.length ≤ 32
theorem okC_of {g : Gram} (h : checkG g = 0) : ∃ N, OkC g N := by
  unfold checkG at h
  by_cases hb : badHead g = true
  · rw [if_pos hb] at h; cases h
  · rw [if_neg hb] at h
    by_cases hl : 32 < g.rules.length
    · rw [if_pos hl] at h; cases h
    · rw [if_neg hl] at h
      have hz := faultsFrom_zero h
      unfold badHead at hb
      simp only [Bool.or_eq_true, decide_eq_true_eq, not_or] at hb
      obtain ⟨⟨⟨⟨⟨b1, b2⟩, b3⟩, b4⟩, b5⟩, b6⟩ := hb
      refine ⟨g.nons.toNat, by omega, by omega, by omega, by omega, by omega, fun r hr s hs ht => ?_, fun r hr => ?_, by omega⟩
      · have := (hz r hr).2.2.2 s hs
        unfold hasS at this
        rw [ht] at this
        simp at this
        omega
      · have := hz r hr
        omega
end Cs
end Go.Proofs.Ytjpmebppdcclbaa
namespace Go.Proofs.Ytjpmebppdcclbaa
open Go.RowKit
namespace Cs
def same (T : Nat → Nat → Bool) (N n A k : Nat) : Nat := ((List.range N).filter fun B => T (A * (n + 1) + k) (B * (n + 1) + k)).length
theorem filter_lt {P Q : Nat → Bool} {v : Nat} (hPQ : ∀ w, P w = true → Q w = true) (hv : Q v = true) (hv' : P v = false) (N : Nat) (h : v < N) : ((List.range N).filter P).length < ((List.range N).filter Q).length := by
  have key : ∀ n, ((List.range n).filter P).length + (if v < n then 1 else 0) ≤ ((List.range n).filter Q).length := by
    intro n
    induction n with
    | zero => simp
    | succ n ih =>
      rw [List.range_succ, List.filter_append, List.filter_append, List.length_append, List.length_append]
      by_cases e : v = n
      · subst e
        rw [if_neg (by omega)] at ih
        rw [if_pos (by omega)]
        simp [hv, hv'] at ih ⊢
        exact ih
      · have e2 : (if v < n + 1 then 1 else 0) = (if v < n then 1 else 0) := by
          by_cases h : v < n
          · rw [if_pos h, if_pos (by omega)]
          · rw [if_neg h, if_neg (by omega)]
        rw [e2]
        cases h : P n with
        | false => simp [h]; omega
        | true =>
          have := hPQ n h
          simp [h, this]; omega
  have := key N
  rw [if_pos h] at this
  omega
section
variable {rules : List Rule} {S : Nat → Nat → Bool} {N n : Nat}
end
end Cs
end Go.Proofs.Ytjpmebppdcclbaa
namespace Go.Proofs.Ytjpmebppdcclbaa
open Go.RowKit
namespace Cs
section
variable {g : Gram} {vr : Value} {N n : Nat} {d : Cid} {S M : Nat → Nat → Bool} {V : Nat → Nat → Int} {w0 : World} {C : Nat → Nat → Int} {W W' : World}
theorem own_fr {B : Nat} {e : TypeId} {s : Nat} {v : Value} {k : Nat} {xs : List Value} (h : W.ownsRow B e s v k xs) (hf : Fr N d W W') (hr : ∀ a, a < N → d.rc a < B) : W'.ownsRow B e s v k xs := by
  obtain ⟨h1, h2⟩ := h
  refine ⟨h1, ?_⟩
  rcases h2 with h2 | ⟨b, cap, cur, rfl, hg, hh, r⟩
  · exact .inl h2
  · exact .inr ⟨b, cap, cur, rfl, hg, (hf.block b (Array.getElem?_eq_some_iff.1 hh).1 (fun a ha e => by have := hr a ha; omega)).trans hh, r⟩
theorem RowD.fr {B : Nat} {e : TypeId} {s : Nat} {ds : List D} {v : Value} (h : RowD (fun k => B ≤ k) B e s ds v W) (hf : Fr N d W W') (hr : ∀ a, a < N → d.rc a < B) : RowD (fun k => B ≤ k) B e s ds v W' := by
  obtain ⟨⟨xs, h1, h2⟩, h3⟩ := h
  exact ⟨⟨xs, own_fr h1 hf hr, RdAll.keep (fun k hk hl => ⟨hk, hf.block k hl (fun a ha e => by have := hr a ha; omega)⟩) _ _ h2⟩, Nat.le_trans h3 hf.size⟩
theorem CI.low (h : CI g vr N n d S M C W) (hs : ∀ k, k ≤ d.cb → W'.heap[k]? = W.heap[k]?) : CI g vr N n d S M C W' := by
  obtain ⟨⟨T, h1⟩, h2, h3, h4, h5⟩ := h
  have p2 := h2.pl
  have p3 := h3.pl
  have p4 := h4.pl
  exact ⟨⟨T, (hs _ (Nat.le_refl _)).trans h1⟩, h2.other fun k _ hk => hs k (by omega), h3.other fun k _ hk => hs k (by omega), h4.other fun k _ hk => hs k (by omega), h5⟩
theorem CS.keepB {B : Nat} (h : CS g vr N n d S M V w0 C W) (hb : Below B W W') (hB : d.cb < B) : CS g vr N n d S M V w0 C W' := by
  have p2 := h.ci.some'.pl
  have p3 := h.ci.many.pl
  have p4 := h.ci.cnt.pl
  have p5 := h.ci.le
  have p6 := h.lo
  exact ⟨h.ci.low fun k hk => hb.block k (by omega), h.cv, h.bel.trans (hb.mono (by omega)), h.lo⟩
theorem CS.rlt (h : CS g vr N n d S M V w0 C W) {B : Nat} (hB : d.cb < B) : ∀ a, a < N → d.rc a < B := fun a ha => Nat.lt_trans (h.rc a ha).2 hB
end
def tC (g : Gram) (S : Nat → Nat → Bool) (N n A k : Nat) : Int := symV S (valK g.rules S (MK g.rules S N n) MaxC (-1) (sizeK N n)) ⟨false, (A : Int)⟩ k
def rowC (g : Gram) (S : Nat → Nat → Bool) (N n A k : Nat) : List Int := (List.range k).map (tC g S N n A)
def tabC (g : Gram) (S : Nat → Nat → Bool) (N n A : Nat) : List (List Int) := (List.range A).map fun a => rowC g S N n a (n + 1)
theorem rowC_next (g : Gram) (S : Nat → Nat → Bool) (N n A k : Nat) : rowC g S N n A (k + 1) = rowC g S N n A k ++ [tC g S N n A k] := by unfold rowC; rw [List.range_succ, List.map_append]; rfl
theorem tabC_next (g : Gram) (S : Nat → Nat → Bool) (N n A : Nat) : tabC g S N n (A + 1) = tabC g S N n A ++ [rowC g S N n A (n + 1)] := by unfold tabC; rw [List.range_succ, List.map_append]; rfl
theorem rowC_len (g : Gram) (S : Nat → Nat → Bool) (N n A k : Nat) : (rowC g S N n A k).length = k := by simp [rowC]
theorem tabC_len (g : Gram) (S : Nat → Nat → Bool) (N n A : Nat) : (tabC g S N n A).length = A := by simp [tabC]
structure TI (g : Gram) (vr : Value) (N n : Nat) (d : Cid) (S : Nat → Nat → Bool) (w1 : World) (B A : Nat) (v : Value) (W : World) : Prop where
  cs : ∃ C, CS g vr N n d S (MK g.rules S N n) (valK g.rules S (MK g.rules S N n) MaxC (-1) (sizeK N n)) w1 C W
  row : RowD (fun k => B ≤ k) B 25 1 ((tabC g S N n A).map D.ints) v W
  cb : d.cb < B
structure TJ (g : Gram) (vr : Value) (N n : Nat) (d : Cid) (S : Nat → Nat → Bool) (w1 w3 : World) (A k : Nat) (v : Value) (W : World) : Prop where
  cs : ∃ C, CS g vr N n d S (MK g.rules S N n) (valK g.rules S (MK g.rules S N n) MaxC (-1) (sizeK N n)) w1 C W
  row : W.ownsRow w3.heap.size 3 1 v k (ints (rowC g S N n A k))
  fr : Fr N d w3 W
  cb : d.cb < w3.heap.size
section
variable {g : Gram} {vr : Value} {N n : Nat} {d : Cid} {S : Nat → Nat → Bool} {w1 w3 W W' : World} {B A k : Nat} {v u : Value}
theorem TJ.keep (h : TJ g vr N n d S w1 w3 A k v W) (hb : Below W.heap.size W W') : TJ g vr N n d S w1 w3 A k v W' := by
  obtain ⟨C, hc⟩ := h.cs
  exact ⟨⟨C, hc.keep hb⟩, own_keep h.row hb, h.fr.trans (Fr.of hb), h.cb⟩
theorem TJ.of (h : TJ g vr N n d S w1 w3 A k v W) (hf : Fr N d W W') (hc : ∃ C, CS g vr N n d S (MK g.rules S N n) (valK g.rules S (MK g.rules S N n) MaxC (-1) (sizeK N n)) w1 C W') : TJ g vr N n d S w1 w3 A k v W' := by
  obtain ⟨C, hc0⟩ := h.cs
  exact ⟨hc, own_fr h.row hf (hc0.rlt h.cb), h.fr.trans hf, h.cb⟩
theorem TJ.add {v' : Value} (h : TJ g vr N n d S w1 w3 A k v W) (ho : W'.ownsRow w3.heap.size 3 1 v' (k + 1) (ints (rowC g S N n A k) ++ [.int .i64 (tC g S N n A k)])) (hg : W.grownBy W' v.ownBlock) : TJ g vr N n d S w1 w3 A (k + 1) v' W' := by
  obtain ⟨C, hc⟩ := h.cs
  have hlt := h.row.lt
  have hs := h.fr.size
  refine ⟨⟨C, hc.keepB (B := w3.heap.size) ((Below.refl _ _).grown hg hs (fun k e => (hlt k e).1)) h.cb⟩, ?_, ?_, h.cb⟩
  · rw [rowC_next]; simpa [ints] using ho
  · exact ⟨hg.os.trans h.fr.os, hg.tape.trans h.fr.tape, hg.output.trans h.fr.output, Nat.le_trans hs hg.size, fun j hj hn => (hg.block j (by omega) (fun e => by have := (hlt j e.symm).1; omega)).trans (h.fr.block j hj hn)⟩
theorem TI.keep (h : TI g vr N n d S w1 B A v W) (hb : Below W.heap.size W W') : TI g vr N n d S w1 B A v W' := by
  obtain ⟨C, hc⟩ := h.cs
  exact ⟨⟨C, hc.keep hb⟩, h.row.keep hb, h.cb⟩
theorem TI.start (h : TI g vr N n d S w1 B A v w3) : TJ g vr N n d S w1 w3 A 0 (.slice none 0 0) w3 := by
  have := h.row.le
  have := h.cb
  exact ⟨h.cs, World.ownsRow_nil _ _ _ _, Fr.refl _ _ _, by omega⟩
theorem TI.add {v' : Value} {xs : List Value} (h : TI g vr N n d S w1 B A v w3) (hj : TJ g vr N n d S w1 w3 A (n + 1) u W) (h1 : W.ownsRow B 25 1 v A xs) (h2 : RdAll (fun k => B ≤ k ∧ v.ownBlock ≠ some k) W ((tabC g S N n A).map D.ints) xs)
    (ho : W'.ownsRow B 25 1 v' (A + 1) (xs ++ [u])) (hg : W.grownBy W' v.ownBlock) (hat : v'.ownBlock = v.ownBlock ∨ ∃ k, v'.ownBlock = some k ∧ W.heap.size ≤ k) : TI g vr N n d S w1 B (A + 1) v' W' := by
  obtain ⟨C, hc⟩ := hj.cs
  have hle := h.row.le
  have hs := hj.fr.size
  have hlt : ∀ k, v.ownBlock = some k → B ≤ k ∧ k < w3.heap.size := by
    obtain ⟨xs', o1, o2⟩ := h.row.own
    exact o1.lt
  refine ⟨⟨C, hc.keepB (B := B) ((Below.refl _ _).grown hg (by omega) (fun k e => (hlt k e).1)) h.cb⟩, ?_, h.cb⟩
  rw [tabC_next, List.map_append]
  have hrd : Rd (fun k => w3.heap.size ≤ k) W (D.ints (rowC g S N n A (n + 1))) [u] := rd_of_own hj.row ((rdAll_ints _ _).2 rfl) (by simp [rowC_len]) (fun k e => (hj.row.lt k e).1)
  exact RowD.step (es := [D.ints (rowC g S N n A (n + 1))]) h1 h2 (by rw [List.length_map, tabC_len]) (RdAll.one hrd) (fun k hk _ => ⟨by omega, fun e => by have := (hlt k e).2; omega⟩) (by omega) (by simpa using ho) hg hat
end
end Cs
end Go.Proofs.Ytjpmebppdcclbaa
namespace Go.Proofs.Ytjpmebppdcclbaa
open Go.RowKit
namespace Cs
end Cs
end Go.Proofs.Ytjpmebppdcclbaa
namespace Go.Proofs.Ytjpmebppdcclbaa
open Go.RowKit
namespace Cs
def CntR (g : Gram) (vr : Value) (N n : Nat) (d : Cid) (S : Nat → Nat → Bool) (w1 : World) (W : World) : Prop :=
  ∃ C, CS g vr N n d S (MK g.rules S N n) (valK g.rules S (MK g.rules S N n) MaxC (-1) (sizeK N n)) w1 C W
end Cs
end Go.Proofs.Ytjpmebppdcclbaa
namespace Go.Proofs.Ytjpmebppdcclbaa
open Go.RowKit
end Go.Proofs.Ytjpmebppdcclbaa
namespace Go.Proofs.Ytjpmebppdcclbaa
open Go.RowKit
namespace Cs
def OkT (g : Gram) (t : Tree) : Prop := ∀ x ∈ nodes t, nodeOk g x = true
theorem OkT.size {t : Tree} (hr : t.rule ≠ -1) {i : Nat} (hi : i < t.kids.length) : (nodes t.kids[i]).length < (nodes t).length := by
  rw [nodes_eq t]
  unfold kidsOf
  rw [if_neg hr, nodesL_split hi]
  simp
  omega
theorem OkT.cases {g : Gram} {t : Tree} (h : OkT g t) : t.rule = -1 ∨ ∃ (j : Nat) (hj : j < g.rules.length), t.rule = (j : Int) ∧ t.kids.length = g.rules[j].right.length := by
  have h0 := h t (by rw [nodes_eq]; exact List.mem_cons_self)
  unfold nodeOk at h0
  by_cases h1 : t.rule = -1
  · exact .inl h1
  · rw [if_neg h1] at h0
    by_cases h2 : t.rule < 0
    · rw [if_pos h2] at h0; cases h0
    · rw [if_neg h2] at h0
      obtain ⟨j, hj⟩ := Int.eq_ofNat_of_zero_le (show 0 ≤ t.rule by omega)
      rw [hj, Int.toNat_natCast] at h0
      cases hg : g.rules[j]? with
      | none => rw [hg] at h0; cases h0
      | some r =>
        rw [hg] at h0
        obtain ⟨hjl, rfl⟩ := List.getElem?_eq_some_iff.1 hg
        simp only [Bool.and_eq_true, kidsOk, decide_eq_true_eq] at h0
        exact .inr ⟨j, hjl, hj, h0.2.1⟩
structure NI (g : Gram) (vr : Value) (N n : Nat) (d : Cid) (S : Nat → Nat → Bool) (w1 Wb W : World) : Prop where
  cs : CntR g vr N n d S w1 W
  fr : Fr N d Wb W
section
variable {g : Gram} {vr : Value} {N n : Nat} {d : Cid} {S : Nat → Nat → Bool} {w1 Wb W W' : World}
theorem CntR.keep (h : CntR g vr N n d S w1 W) (hb : Below W.heap.size W W') : CntR g vr N n d S w1 W' := by
  obtain ⟨C, hc⟩ := h
  exact ⟨C, hc.keep hb⟩
theorem CntR.bel (h : CntR g vr N n d S w1 W) : Below w1.heap.size w1 W := by obtain ⟨C, hc⟩ := h; exact hc.bel
theorem CntR.over (h : CntR g vr N n d S w1 W) {b : Nat} (hb : d.cb < b) : ∀ a, a < N → d.rc a ≠ b := by
  obtain ⟨C, hc⟩ := h
  intro a ha e
  have := (hc.rc a ha).2
  omega
theorem CntR.low (h : CntR g vr N n d S w1 W) {b : Nat} (hb : b < w1.heap.size) : ∀ a, a < N → d.rc a ≠ b := by
  obtain ⟨C, hc⟩ := h
  intro a ha e
  have := (hc.rc a ha).1
  omega
theorem NI.start (h : CntR g vr N n d S w1 W) : NI g vr N n d S w1 W W := ⟨h, Fr.refl _ _ _⟩
theorem NI.keep (h : NI g vr N n d S w1 Wb W) (hb : Below W.heap.size W W') : NI g vr N n d S w1 Wb W' := ⟨h.cs.keep hb, h.fr.trans (Fr.of hb)⟩
theorem NI.of (h : NI g vr N n d S w1 Wb W) (hf : Fr N d W W') (hc : CntR g vr N n d S w1 W') : NI g vr N n d S w1 Wb W' := ⟨hc, h.fr.trans hf⟩
end
end Cs
end Go.Proofs.Ytjpmebppdcclbaa
namespace Go.Proofs.Ytjpmebppdcclbaa
open Go.RowKit
namespace Cs
section
variable {rules : List Rule} {S M T : Nat → Nat → Bool} {N n size : Nat} {many : Int}
end
end Cs
end Go.Proofs.Ytjpmebppdcclbaa
namespace Go.Proofs.Ytjpmebppdcclbaa
open Go.RowKit
namespace Cs
end Cs
end Go.Proofs.Ytjpmebppdcclbaa
namespace Go.Proofs.Ytjpmebppdcclbaa
open Go.RowKit
theorem symEq (a c : Bool) (b d : Int) (w : World) : (binOp .eql 44 (.agg #[.bool a, .int .i64 b]) (.agg #[.bool c, .int .i64 d])).run Try.prog w = .ok (.bool (a == c && b == d)) w := by
  have h1 : Try.prog.underlying 44 = some (.struct (Try.prog.fieldsOf 44)) := by kernel_rfl
  have h2 : Try.prog.stoodInHeld 44 = false := by kernel_rfl
  have h3 := Try.underlying44
  have h4 := Try.underlying4
  have h5 := Try.underlying3
  rw [run_eql_struct, run_equalIn_agg (d := 9999) _ _ _ _ h1 h2]
  simp only [Program.fieldsOf, h3]
  cases hac : (a == c) <;> by_cases hbd : b = d <;> simp [Op.eqFields, go_sem, h4, h5, hac, hbd]
end Go.Proofs.Ytjpmebppdcclbaa
namespace Go.Proofs.Ytjpmebppdcclbaa
open Go.RowKit
end Go.Proofs.Ytjpmebppdcclbaa
namespace Go.Proofs.Ytjpmebppdcclbaa
open Go.RowKit
end Go.Proofs.Ytjpmebppdcclbaa
namespace Go.Proofs.Ytjpmebppdcclbaa
open Go.RowKit
end Go.Proofs.Ytjpmebppdcclbaa
namespace Go.Proofs.Ytjpmebppdcclbaa
open Go.RowKit
end Go.Proofs.Ytjpmebppdcclbaa
namespace Go.Proofs.Ytjpmebppdcclbaa
open Go.RowKit
namespace Cs
end Cs
end Go.Proofs.Ytjpmebppdcclbaa
namespace Go.Proofs.Ytjpmebppdcclbaa
open Go.RowKit
namespace Cs
end Cs
end Go.Proofs.Ytjpmebppdcclbaa
namespace Go.Proofs.Ytjpmebppdcclbaa
open Go.RowKit
namespace Cs
section
variable {rules : List Rule} {S : Nat → Nat → Bool} {N n : Nat}
variable (hclo : ∀ r ∈ rules, ∀ k, k ≤ n → canK S r.right k = true → S r.left.toNat k = true)
include hclo
end
end Cs
end Go.Proofs.Ytjpmebppdcclbaa
namespace Go.Proofs.Ytjpmebppdcclbaa
open Go.RowKit
namespace Cs
def SE (g : Gram) (S : Nat → Nat → Bool) (N n : Nat) : Sym → Nat → List Tree := symE S (EN g.rules S (sizeK N n))
def GdN (g : Gram) (S : Nat → Nat → Bool) (N n f : Nat) : Nat → Nat → Prop := Gd (MK g.rules S N n) (clK g.rules S N n) N n (sizeK N n) f
section
variable {g : Gram} {vr : Value} {N n : Nat} {d : Cid} {S : Nat → Nat → Bool} {w1 W W' w0 Wc w' : World}
theorem CntR.keepB {B : Nat} (h : CntR g vr N n d S w1 W) (hb : Below B W W') (hB : d.cb < B) : CntR g vr N n d S w1 W' := by
  obtain ⟨C, hc⟩ := h
  exact ⟨C, hc.keepB hb hB⟩
theorem CntR.rlt (h : CntR g vr N n d S w1 W) {B : Nat} (hB : d.cb < B) : ∀ a, a < N → d.rc a < B := by
  obtain ⟨C, hc⟩ := h
  exact hc.rlt hB
end
end Cs
end Go.Proofs.Ytjpmebppdcclbaa
namespace Go.Proofs.Ytjpmebppdcclbaa
open Go.RowKit
namespace Cs
end Cs
end Go.Proofs.Ytjpmebppdcclbaa
namespace Go.Proofs.Ytjpmebppdcclbaa
open Go.RowKit
namespace Cs
structure NxQ (g : Gram) (N n : Nat) (S : Nat → Nat → Bool) (w1 : World) (f : Nat) (l : List Sym) (ks : List Tree) (p k q y : Nat) (al : Option Addr) (cl : Nat) (t : Tree) : Prop where
  kn : k - q ≤ n
  fine : Fine S (GdN g S N n f) (l.drop (p + 1)) (k - q)
  at' : (enL S (SE g S N n) (l.drop (p + 1)) (k - q))[y]? = some (ks.drop (p + 1))
  lt : (enL S (SE g S N n) (l.drop (p + 1)) (k - q)).length < 1000000000
  rd : Rd AnyB w1 (.sl ((l.drop (p + 1)).map Sym.d)) [.slice al (l.length - (p + 1)) cl]
  tk : ks.take (p + 1) = ks.take p ++ [t]
  pk : p + 1 ≤ ks.length
section
variable {g : Gram} {vr : Value} {N n : Nat} {d : Cid} {S : Nat → Nat → Bool} {w1 : World} {f : Nat} {l : List Sym} {ks : List Tree} {w0 : World} {p k i q y : Nat} {al al' : Option Addr} {cl cl' : Nat} {vo : Value} {W W0 W1 : World} {t : Tree}
end
end Cs
end Go.Proofs.Ytjpmebppdcclbaa
namespace Go.Proofs.Ytjpmebppdcclbaa
open Go.RowKit
namespace Cs
end Cs
end Go.Proofs.Ytjpmebppdcclbaa
namespace Go.Proofs.Ytjpmebppdcclbaa
open Go.RowKit
namespace Cs
section
variable {g : Gram} {N n : Nat} {S : Nat → Nat → Bool}
end
end Cs
end Go.Proofs.Ytjpmebppdcclbaa
namespace Go.Proofs.Ytjpmebppdcclbaa
open Go.RowKit
namespace Cs
section
variable {g : Gram} {N n : Nat} {S : Nat → Nat → Bool}
end
end Cs
end Go.Proofs.Ytjpmebppdcclbaa
namespace Go.Proofs.Ytjpmebppdcclbaa
open Go.RowKit
namespace Cs
def Dv (rules : List Rule) (A k : Nat) : Prop := ∃ h, 0 < cnt rules h A k
def Ds (rules : List Rule) (s : Sym) (k : Nat) : Prop := if s.term then k = 1 else Dv rules s.n.toNat k
def Dl (rules : List Rule) : List Sym → Nat → Prop
  | [], k => k = 0
  | s :: l, k => ∃ i j, k = i + j ∧ Ds rules s i ∧ Dl rules l j
section
variable {rules : List Rule}
theorem oN_up {h h' k : Nat} (hh : h ≤ h') {s : Sym} : oN (cnt rules h) s k ≤ oN (cnt rules h') s k := oN_mono (fun A i => cnt_mono hh A i) s k
theorem dl_cN : ∀ (l : List Sym) (k : Nat), Dl rules l k → ∃ h, 0 < cN (oN (cnt rules h)) l k
  | [], k, hp => ⟨0, by rw [cN, if_pos (show k = 0 from hp)]; omega⟩
  | s :: l, k, ⟨i, j, e, h1, h2⟩ => by
    obtain ⟨h, hh⟩ := dl_cN l j h2
    have h3 : ∃ h', 0 < oN (cnt rules h') s i := by
      unfold Ds at h1
      unfold oN
      by_cases e : s.term = true
      · rw [if_pos e] at h1
        exact ⟨0, by rw [if_pos e, if_pos h1]; omega⟩
      · rw [if_neg e] at h1
        obtain ⟨h', hd⟩ := h1
        exact ⟨h', by rw [if_neg e]; exact hd⟩
    obtain ⟨h', hh'⟩ := h3
    refine ⟨max h h', ?_⟩
    rw [cN]
    refine sumN_pos_iff.2 ⟨i, by omega, ?_⟩
    have p1 := Nat.lt_of_lt_of_le hh' (oN_up (rules := rules) (k := i) (s := s) (Nat.le_max_right h h'))
    have p2 := Nat.lt_of_lt_of_le hh (cN_mono (fun s i => oN_up (rules := rules) (k := i) (s := s) (Nat.le_max_left h h')) l j)
    rw [show k - i = j by omega]
    exact Nat.mul_pos p1 p2
theorem cR_posI {o : Sym → Nat → Nat} {A : Int} {k : Nat} : ∀ rs : List Rule, 0 < cR o A k rs ↔ ∃ r ∈ rs, r.left = A ∧ 0 < cN o r.right k
  | [] => by simp [cR]
  | r :: rs => by
    rw [cR]
    have ih := cR_posI (o := o) (A := A) (k := k) rs
    constructor
    · intro h
      by_cases e : r.left = A ∧ 0 < cN o r.right k
      · exact ⟨r, List.mem_cons_self, e⟩
      · have : 0 < cR o A k rs := by
          by_cases e2 : r.left = A
          · rw [if_pos e2] at h
            have : ¬ 0 < cN o r.right k := fun h => e ⟨e2, h⟩
            omega
          · rw [if_neg e2] at h; omega
        obtain ⟨r', h1, h2⟩ := ih.1 this
        exact ⟨r', List.mem_cons_of_mem _ h1, h2⟩
    · rintro ⟨r', h1, h2, h3⟩
      rcases List.mem_cons.1 h1 with rfl | h1
      · rw [if_pos h2]; omega
      · have := ih.2 ⟨r', h1, h2, h3⟩
        omega
theorem dv_rule {r : Rule} (hr : r ∈ rules) {A k : Nat} (hl : r.left = (A : Int)) (h : Dl rules r.right k) : Dv rules A k := by
  obtain ⟨h', hp⟩ := dl_cN _ _ h
  exact ⟨h' + 1, by rw [cnt]; exact (cR_posI _).2 ⟨r, hr, hl, hp⟩⟩
end
end Cs
end Go.Proofs.Ytjpmebppdcclbaa
namespace Go.Proofs.Ytjpmebppdcclbaa
open Go.RowKit
namespace Cs
def stepV (X : Nat → Int) (acc : Int) (s : Sym) : Int := if 0 ≤ acc then (if s.term then acc + 1 else if 0 ≤ X s.n.toNat then acc + X s.n.toNat else -1) else -1
def sumV (X : Nat → Int) (l : List Sym) : Int := l.foldl (stepV X) 0
def SoundV (rules : List Rule) (X : Nat → Int) : Prop := ∀ A, -1 ≤ X A ∧ (0 ≤ X A → Dv rules A (X A).toNat)
def ClosedV (rules : List Rule) (X : Nat → Int) : Prop := ∀ r ∈ rules, 0 ≤ sumV X r.right → 0 ≤ X r.left.toNat ∧ X r.left.toNat ≤ sumV X r.right
def LeastV (rules : List Rule) (N : Nat) (X : Nat → Int) : Prop := ∀ A, A < N → -1 ≤ X A ∧ (0 ≤ X A → Dv rules A (X A).toNat) ∧ ∀ k, Dv rules A k → 0 ≤ X A ∧ X A ≤ (k : Int)
theorem stepV_snoc {X : Nat → Int} {l : List Sym} {s : Sym} : sumV X (l ++ [s]) = stepV X (sumV X l) s := by unfold sumV; rw [List.foldl_append]; rfl
section
variable {rules : List Rule} {X : Nat → Int}
theorem fold_neg : ∀ (l : List Sym) (a : Int), a < 0 → l.foldl (stepV X) a < 0
  | [], _, h => h
  | s :: l, a, h => by
    rw [List.foldl_cons]
    refine fold_neg l _ ?_
    unfold stepV
    rw [if_neg (by omega)]; omega
theorem fold_dl (hs : SoundV rules X) : ∀ (l : List Sym) (a : Int), 0 ≤ a → 0 ≤ l.foldl (stepV X) a → a ≤ l.foldl (stepV X) a ∧ Dl rules l (l.foldl (stepV X) a - a).toNat
  | [], a, _, _ => by
    rw [List.foldl_nil]
    exact ⟨Int.le_refl _, by show (a - a).toNat = 0; omega⟩
  | s :: l, a, ha, h => by
    rw [List.foldl_cons] at h ⊢
    by_cases hb : 0 ≤ stepV X a s
    · obtain ⟨h1, h2⟩ := fold_dl hs l _ hb h
      have hst : a ≤ stepV X a s ∧ Ds rules s (stepV X a s - a).toNat := by
        unfold stepV at hb ⊢
        unfold Ds
        rw [if_pos ha] at hb ⊢
        by_cases e : s.term = true
        · rw [if_pos e, if_pos e]; omega
        · rw [if_neg e] at hb
          rw [if_neg e, if_neg e]
          by_cases e2 : 0 ≤ X s.n.toNat
          · rw [if_pos e2]
            refine ⟨by omega, ?_⟩
            have := (hs s.n.toNat).2 e2
            rwa [show a + X s.n.toNat - a = X s.n.toNat by omega]
          · rw [if_neg e2] at hb; omega
      refine ⟨by omega, ?_⟩
      exact ⟨(stepV X a s - a).toNat, (l.foldl (stepV X) (stepV X a s) - stepV X a s).toNat, by omega, hst.2, h2⟩
    · have hn := fold_neg (X := X) l (stepV X a s) (by omega)
      omega
theorem sum_dl (hs : SoundV rules X) {l : List Sym} (h : 0 ≤ sumV X l) : Dl rules l (sumV X l).toNat := by
  have := (fold_dl hs l 0 (Int.le_refl _) h).2
  rwa [Int.sub_zero] at this
theorem fold_le {h : Nat} (hle : ∀ A k, 0 < cnt rules h A k → 0 ≤ X A ∧ X A ≤ (k : Int)) : ∀ (l : List Sym) (k : Nat) (a : Int), 0 ≤ a → 0 < cN (oN (cnt rules h)) l k → 0 ≤ l.foldl (stepV X) a ∧ l.foldl (stepV X) a ≤ a + k
  | [], k, a, ha, hp => by
    rw [List.foldl_nil]; omega
  | s :: l, k, a, ha, hp => by
    rw [cN] at hp
    obtain ⟨i, hi, hpi⟩ := sumN_pos_iff.1 hp
    have h1 : 0 < oN (cnt rules h) s i := Nat.pos_of_mul_pos_right hpi
    have h2 : 0 < cN (oN (cnt rules h)) l (k - i) := Nat.pos_of_mul_pos_left hpi
    have hst : 0 ≤ stepV X a s ∧ stepV X a s ≤ a + i := by
      unfold stepV
      unfold oN at h1
      rw [if_pos ha]
      by_cases e : s.term = true
      · rw [if_pos e] at h1 ⊢
        by_cases e2 : i = 1
        · omega
        · rw [if_neg e2] at h1; omega
      · rw [if_neg e] at h1 ⊢
        have := hle _ _ h1
        rw [if_pos this.1]; omega
    rw [List.foldl_cons]
    have := fold_le hle l (k - i) _ hst.1 h2
    omega
theorem closed_least (hs : SoundV rules X) (hl : ∀ r ∈ rules, 0 ≤ r.left) (hc : ClosedV rules X) (N : Nat) : LeastV rules N X := by
  have key : ∀ h A k, 0 < cnt rules h A k → 0 ≤ X A ∧ X A ≤ (k : Int) := by
    intro h
    induction h with
    | zero => intro A k hp; exact absurd hp (Nat.lt_irrefl _)
    | succ h ih =>
      intro A k hp
      rw [cnt] at hp
      obtain ⟨r, hr, he, h2⟩ := (cR_posI _).1 hp
      have h3 := fold_le ih r.right k 0 (Int.le_refl _) h2
      have h4 := hc r hr h3.1
      have : r.left.toNat = A := by rw [he]; simp
      rw [this] at h4
      have h5 : sumV X r.right ≤ 0 + k := h3.2
      omega
  intro A _
  exact ⟨(hs A).1, (hs A).2, fun k ⟨h, hp⟩ => key h A k hp⟩
end
end Cs
end Go.Proofs.Ytjpmebppdcclbaa
namespace Go.Proofs.Ytjpmebppdcclbaa
open Go.RowKit
namespace Cs
def setV (X : Nat → Int) (A : Nat) (v : Int) : Nat → Int := fun B => if B = A then v else X B
def nset (X : Nat → Int) (N : Nat) : Nat := sumN (fun A => if 0 ≤ X A then 1 else 0) N
def BdV (X : Nat → Int) (N : Nat) : Prop := (∀ A, X A ≤ ((4 ^ nset X N : Nat) : Int)) ∧ ∀ A, N ≤ A → X A = -1
section
variable {rules : List Rule} {X : Nat → Int} {N A : Nat} {v : Int}
theorem setV_sound (hs : SoundV rules X) (h0 : 0 ≤ v) (hd : Dv rules A v.toNat) : SoundV rules (setV X A v) := by
  intro B
  unfold setV
  by_cases e : B = A
  · subst e; rw [if_pos rfl]; exact ⟨by omega, fun _ => hd⟩
  · rw [if_neg e]; exact hs B
theorem nset_le : nset X N ≤ N := by
  unfold nset
  have h : ∀ n, sumN (fun A => if 0 ≤ X A then 1 else 0) n ≤ n := by
    intro n
    induction n with
    | zero => exact Nat.le_refl _
    | succ n ih =>
      show sumN _ n + (if 0 ≤ X n then 1 else 0) ≤ n + 1
      split <;> omega
  exact h N
theorem nset_set (hA : A < N) (h0 : 0 ≤ v) : nset X N ≤ nset (setV X A v) N ∧ (X A < 0 → nset X N + 1 ≤ nset (setV X A v) N) := by
  unfold nset
  have hle : ∀ i, i < N → (if 0 ≤ X i then 1 else 0) ≤ (if 0 ≤ setV X A v i then 1 else 0) := by
    intro i _
    unfold setV
    by_cases e : i = A
    · rw [if_pos e, if_pos h0]; split <;> omega
    · rw [if_neg e]; exact Nat.le_refl _
  refine ⟨sumN_le _ hle, fun hx => ?_⟩
  refine sumN_lt_iff hle |>.2 ⟨A, hA, ?_⟩
  rw [if_neg (by omega)]
  unfold setV
  rw [if_pos rfl, if_pos h0]; omega
theorem fold_bd {M : Int} (hM : 1 ≤ M) (hX : ∀ A, X A ≤ M) : ∀ (l : List Sym) (a : Int), l.foldl (stepV X) a ≤ (if 0 ≤ a then a else 0) + M * l.length
  | [], a => by
    rw [List.foldl_nil]
    split <;> simp <;> omega
  | s :: l, a => by
    rw [List.foldl_cons]
    have ih := fold_bd hM hX l (stepV X a s)
    have h2 : (if 0 ≤ stepV X a s then stepV X a s else 0) ≤ (if 0 ≤ a then a else 0) + M := by
      unfold stepV
      have := hX s.n.toNat
      repeat (any_goals split)
      all_goals omega
    have h3 : M * ((s :: l).length : Int) = M * l.length + M := by rw [List.length_cons]; push_cast; rw [Int.mul_add, Int.mul_one]
    rw [h3]
    omega
theorem bdV_set (hb : BdV X N) (hA : A < N) (h0 : 0 ≤ v) (hv : v < X A ∨ (X A < 0 ∧ v ≤ 4 * ((4 ^ nset X N : Nat) : Int))) : BdV (setV X A v) N := by
  obtain ⟨h1, h2⟩ := hb
  obtain ⟨n1, n2⟩ := nset_set (X := X) hA h0
  have hp : ((4 ^ nset X N : Nat) : Int) ≤ ((4 ^ nset (setV X A v) N : Nat) : Int) := by exact_mod_cast Nat.pow_le_pow_right (by decide) n1
  refine ⟨fun B => ?_, fun B hB => ?_⟩
  · unfold setV
    by_cases e : B = A
    · rw [if_pos e]
      rcases hv with hv | ⟨hx, hv⟩
      · have := h1 A
        unfold setV at hp
        omega
      · have h4 : 4 ^ (nset X N + 1) ≤ 4 ^ nset (setV X A v) N := Nat.pow_le_pow_right (by decide) (n2 hx)
        rw [Nat.pow_succ] at h4
        unfold setV at h4
        omega
    · rw [if_neg e]
      have := h1 B
      unfold setV at hp
      omega
  · unfold setV
    rw [if_neg (by omega)]; exact h2 B hB
end
end Cs
end Go.Proofs.Ytjpmebppdcclbaa
namespace Go.Proofs.Ytjpmebppdcclbaa
open Go.RowKit
namespace Cs
def muV (X : Nat → Int) (N : Nat) : Nat := sumN (fun A => if 0 ≤ X A then (X A).toNat else 2000000) N
section
variable {rules : List Rule} {X : Nat → Int} {N A : Nat} {v : Int}
theorem pow10 {m : Nat} (h : m ≤ 10) : 4 ^ m ≤ 1048576 := Nat.le_trans (Nat.pow_le_pow_right (by decide) h) (by decide)
theorem BdV.le (hb : BdV X N) (hN : N ≤ 10) (A : Nat) : X A ≤ 1048576 := by
  have h1 := hb.1 A
  have h2 := pow10 (m := nset X N) (Nat.le_trans nset_le hN)
  omega
theorem foldV_ge : ∀ (l : List Sym) (a : Int), -1 ≤ a → -1 ≤ l.foldl (stepV X) a
  | [], _, h => h
  | s :: l, a, h => by
    rw [List.foldl_cons]
    refine foldV_ge l _ ?_
    unfold stepV
    repeat (any_goals split)
    all_goals omega
theorem sum_ge (l : List Sym) : -1 ≤ sumV X l := foldV_ge l 0 (by omega)
theorem sum_bd (hb : BdV X N) {l : List Sym} (hl : l.length ≤ 4) : sumV X l ≤ 4 * ((4 ^ nset X N : Nat) : Int) := by
  have h1 : 1 ≤ 4 ^ nset X N := Nat.one_le_pow _ _ (by decide)
  have h2 := fold_bd (X := X) (M := ((4 ^ nset X N : Nat) : Int)) (by omega) hb.1 l 0
  unfold sumV
  have h3 : ((4 ^ nset X N : Nat) : Int) * (l.length : Int) ≤ ((4 ^ nset X N : Nat) : Int) * 4 := Int.mul_le_mul_of_nonneg_left (by omega) (by omega)
  have h4 : (if (0 : Int) ≤ 0 then (0 : Int) else 0) = 0 := rfl
  rw [h4] at h2
  omega
theorem sum_le (hb : BdV X N) (hN : N ≤ 10) {l : List Sym} (hl : l.length ≤ 4) : sumV X l ≤ 4194304 := by
  have h1 := sum_bd hb hl
  have h2 := pow10 (m := nset X N) (Nat.le_trans nset_le hN)
  omega
theorem mu_set (hN : N ≤ 10) (hA : A < N) (h0 : 0 ≤ v) (hv : v < X A ∨ (X A < 0 ∧ v ≤ 4 * ((4 ^ nset X N : Nat) : Int))) : muV (setV X A v) N < muV X N := by
  have hv2 : X A < 0 → v ≤ 1048576 := by
    intro hx
    have h1 := (nset_set (X := X) (N := N) hA h0).2 hx
    have h2 : nset (setV X A v) N ≤ N := nset_le
    have h3 := pow10 (m := nset X N + 1) (by omega)
    rw [Nat.pow_succ] at h3
    omega
  unfold muV
  have hs : ∀ i, i < N → (if 0 ≤ setV X A v i then (setV X A v i).toNat else 2000000) ≤ (if 0 ≤ X i then (X i).toNat else 2000000) := by
    intro i _
    unfold setV
    by_cases e : i = A
    · subst e
      rw [if_pos rfl, if_pos h0]
      by_cases hx : 0 ≤ X i
      · rw [if_pos hx]; omega
      · rw [if_neg hx]; have := hv2 (by omega); omega
    · rw [if_neg e]; exact Nat.le_refl _
  refine (sumN_lt_iff hs).2 ⟨A, hA, ?_⟩
  unfold setV
  rw [if_pos rfl, if_pos h0]
  by_cases hx : 0 ≤ X A
  · rw [if_pos hx]; omega
  · rw [if_neg hx]; have := hv2 (by omega); omega
theorem sound_start : SoundV rules (fun _ => -1) := fun _ => ⟨Int.le_refl _, fun h => absurd h (by show ¬ (0 : Int) ≤ -1; omega)⟩
theorem bd_start : BdV (fun _ => -1) N := ⟨fun _ => by show (-1 : Int) ≤ _; have : (0 : Int) ≤ ((4 ^ nset (fun _ => -1) N : Nat) : Int) := Int.natCast_nonneg _; omega, fun _ _ => rfl⟩
end
end Cs
end Go.Proofs.Ytjpmebppdcclbaa
namespace Go.Proofs.Ytjpmebppdcclbaa
namespace Hl
open Rp
structure LeastX (K : List Rule) (N : Nat) (X : Nat → Int) : Prop where
  ge : ∀ A, A < N → -1 ≤ X A
  ex : ∀ A, A < N → 0 ≤ X A → ∃ v, DrG leafS emS 0 K ⟨false, (A : Int)⟩ 0 0 v ∧ (v.n : Int) = X A
  le : ∀ (A : Nat) v, A < N → DrG leafS emS 0 K ⟨false, (A : Int)⟩ 0 0 v → 0 ≤ X A ∧ X A ≤ (v.n : Int)
theorem clL_S {s : Sym} {v : Val} : clL leafS 0 s 0 0 = some v ↔ s.term = true ∧ v = ⟨0, 1, [s.n]⟩ := by
  unfold clL leafS
  rw [if_pos ⟨Nat.le_refl _, Nat.le_refl _⟩]
  cases s.term with
  | true => simp [eq_comm]
  | false => simp
section
variable {K : List Rule} {N tm : Nat}
theorem dr_term {h : Nat} {s : Sym} (ht : s.term = true) {v : Val} (hd : Dr K (clL leafS 0) (clE emS 0) h s 0 0 v) : v = ⟨0, 1, [s.n]⟩ := by
  cases h with
  | zero => exact (clL_S.1 hd).2
  | succ h =>
    rcases hd with hd | ⟨h1, _⟩
    · exact (clL_S.1 hd).2
    · rw [ht] at h1; cases h1
theorem dr_bnd {leaf : Sym → Nat → Nat → Option Val} {em : Nat → Nat → Option Val} {n : Nat} {K : List Rule} : ∀ (h : Nat) {s : Sym} {i j : Nat} {v : Val}, Dr K (clL leaf n) (clE em n) h s i j v → i ≤ j ∧ j ≤ n := by
  have hl : ∀ {s i j v}, clL leaf n s i j = some v → i ≤ j ∧ j ≤ n := by
    intro s i j v e
    unfold clL at e
    split at e
    · rename_i h; exact h
    · cases e
  have he : ∀ {i j v}, clE em n i j = some v → i ≤ j ∧ j ≤ n := by
    intro i j v e
    unfold clE at e
    split at e
    · rename_i h; exact h
    · cases e
  have hr : ∀ {P : Sym → Nat → Nat → Val → Prop} {l : List Sym}, (∀ s i j v, P s i j v → i ≤ j ∧ j ≤ n) → ∀ {i j v}, Row P l i j v → i ≤ j ∧ j ≤ n := by
    intro P l hP
    induction l with
    | nil => intro i j v h; exact h.elim
    | cons s l ih =>
      intro i j v h
      cases l with
      | nil => exact hP _ _ _ _ h
      | cons t l =>
        obtain ⟨m, a, b, h1, h2, h3, h4, _⟩ := h
        exact ⟨by omega, (ih h4).2⟩
  intro h
  induction h with
  | zero => intro s i j v hd; exact hl hd
  | succ h ih =>
    intro s i j v hd
    rcases hd with hd | ⟨_, r, _, _, ⟨_, hd⟩ | hd⟩
    · exact hl hd
    · exact he hd
    · exact hr (fun s i j v hp => ih hp) hd
theorem row0_of {h : Nat} {l : List Sym} {v : Val} (hw : ∀ s i j v, Dr K (clL leafS 0) (clE emS 0) h s i j v → Wf v) (hne : l ≠ []) : Row (Dr K (clL leafS 0) (clE emS 0) h) l 0 0 v ↔ Row0 (Dr K (clL leafS 0) (clE emS 0) h) l 0 0 v :=
  row_row0 (fun s i j v hp => ⟨(dr_bnd h hp).1, hw s i j v hp⟩) hne
theorem dr_wf : ∀ (h : Nat) (s : Sym) (i j : Nat) (v : Val), Dr K (clL leafS 0) (clE emS 0) h s i j v → Wf v ∧ v.c = 0 := by
  have hl : ∀ {s i j v}, clL leafS 0 s i j = some v → Wf v ∧ v.c = 0 := by
    intro s i j v e
    unfold clL at e
    split at e
    · unfold leafS at e
      split at e
      · cases e; exact ⟨.inl ⟨by simp [maxL], rfl⟩, rfl⟩
      · cases e
    · cases e
  have he : ∀ {i j v}, clE emS 0 i j = some v → Wf v ∧ v.c = 0 := by
    intro i j v e
    unfold clE at e
    split at e
    · cases e; exact ⟨wf_zero, rfl⟩
    · cases e
  have hr : ∀ {P : Sym → Nat → Nat → Val → Prop} {l : List Sym}, (∀ s i j v, P s i j v → Wf v ∧ v.c = 0) → ∀ {i j v}, Row P l i j v → Wf v ∧ v.c = 0 := by
    intro P l hP
    induction l with
    | nil => intro i j v h; exact h.elim
    | cons s l ih =>
      intro i j v h
      cases l with
      | nil => exact hP _ _ _ _ h
      | cons t l =>
        obtain ⟨m, a, b, h1, h2, h3, h4, rfl⟩ := h
        obtain ⟨q1, q2⟩ := hP _ _ _ _ h3
        obtain ⟨q3, q4⟩ := ih h4
        exact ⟨wf_thn q1 q3, by show a.c + b.c = 0; omega⟩
  intro h
  induction h with
  | zero => intro s i j v hd; exact hl hd
  | succ h ih =>
    intro s i j v hd
    rcases hd with hd | ⟨_, r, _, _, ⟨_, hd⟩ | hd⟩
    · exact hl hd
    · exact he hd
    · exact hr (fun s i j v hp => ih s i j v hp) hd
theorem dr_rule {h : Nat} {r : Rule} (hr : r ∈ K) {v : Val} (hv : Row0 (Dr K (clL leafS 0) (clE emS 0) h) r.right 0 0 v) : Dr K (clL leafS 0) (clE emS 0) (h + 1) ⟨false, r.left⟩ 0 0 v := by
  by_cases hre : r.right = []
  · rw [hre] at hv
    obtain ⟨_, rfl⟩ := hv
    exact .inr ⟨rfl, r, hr, rfl, .inl ⟨hre, by unfold clE; rw [if_pos ⟨Nat.le_refl _, Nat.le_refl _⟩]; rfl⟩⟩
  · exact .inr ⟨rfl, r, hr, rfl, .inr ((row0_of (fun s i j v hp => (dr_wf h s i j v hp).1) hre).2 hv)⟩
theorem dr_inv {h : Nat} {A : Int} {v : Val} (hd : Dr K (clL leafS 0) (clE emS 0) (h + 1) ⟨false, A⟩ 0 0 v) : ∃ r ∈ K, r.left = A ∧ Row0 (Dr K (clL leafS 0) (clE emS 0) h) r.right 0 0 v := by
  rcases hd with hd | ⟨_, r, hr, hl, ⟨hre, hd⟩ | hd⟩
  · exact absurd (clL_S.1 hd).1 (by simp)
  · refine ⟨r, hr, hl, ?_⟩
    unfold clE at hd
    rw [if_pos ⟨Nat.le_refl _, Nat.le_refl _⟩] at hd
    cases hd
    rw [hre]; exact ⟨rfl, rfl⟩
  · refine ⟨r, hr, hl, ?_⟩
    by_cases hre : r.right = []
    · rw [hre] at hd; exact hd.elim
    · exact (row0_of (fun s i j v hp => (dr_wf h s i j v hp).1) hre).1 hd
theorem row_cn {h : Nat} (ih : ∀ (s : Sym) (k : Nat), 0 < Cs.oN (Cs.cnt K h) s k → (s.term = false → 0 ≤ s.n) → ∃ h' v, Dr K (clL leafS 0) (clE emS 0) h' s 0 0 v ∧ v.n = k) : ∀ (l : List Sym) (k : Nat), (∀ s ∈ l, s.term = false → 0 ≤ s.n) → 0 < Cs.cN (Cs.oN (Cs.cnt K h)) l k → ∃ h' v, Row0 (Dr K (clL leafS 0) (clE emS 0) h') l 0 0 v ∧ v.n = k
  | [], k, _, hp => by
    rw [Cs.cN] at hp
    by_cases e : k = 0
    · exact ⟨0, zero, ⟨rfl, rfl⟩, e.symm⟩
    · rw [if_neg e] at hp; omega
  | s :: l, k, hs, hp => by
    rw [Cs.cN] at hp
    obtain ⟨i, hi, hpi⟩ := Cs.sumN_pos_iff.1 hp
    obtain ⟨h1, a, ha, ea⟩ := ih s i (Nat.pos_of_mul_pos_right hpi) (hs s (by simp))
    obtain ⟨h2, b, hb, eb⟩ := row_cn ih l (k - i) (fun s hs' => hs s (by simp [hs'])) (Nat.pos_of_mul_pos_left hpi)
    refine ⟨max h1 h2, thn a b, ⟨0, a, b, Nat.le_refl _, Nat.le_refl _, dr_le (Nat.le_max_left _ _) ha, ?_, rfl⟩, by show a.n + b.n = k; omega⟩
    have : ∀ {l : List Sym} {i j : Nat} {v : Val}, Row0 (Dr K (clL leafS 0) (clE emS 0) h2) l i j v → Row0 (Dr K (clL leafS 0) (clE emS 0) (max h1 h2)) l i j v := by
      intro l
      induction l with
      | nil => intro i j v h; exact h
      | cons s l ih =>
        intro i j v h
        obtain ⟨m, a, b, q1, q2, q3, q4, q5⟩ := h
        exact ⟨m, a, b, q1, q2, dr_le (Nat.le_max_right _ _) q3, ih q4, q5⟩
    exact this hb
theorem cnt_dr (hK : ∀ r ∈ K, ∀ s ∈ r.right, s.term = false → 0 ≤ s.n) : ∀ (h A k : Nat), 0 < Cs.cnt K h A k → ∃ h' v, Dr K (clL leafS 0) (clE emS 0) h' ⟨false, (A : Int)⟩ 0 0 v ∧ v.n = k := by
  intro h
  induction h with
  | zero => intro A k hp; exact absurd hp (Nat.lt_irrefl _)
  | succ h ih =>
    intro A k hp
    rw [Cs.cnt] at hp
    obtain ⟨r, hr, hl, hc⟩ := (Cs.cR_posI _).1 hp
    obtain ⟨h', v, hv, e⟩ := row_cn (h := h) (fun s k hp hs => by
      unfold Cs.oN at hp
      by_cases ht : s.term = true
      · rw [if_pos ht] at hp
        by_cases e : k = 1
        · exact ⟨0, ⟨0, 1, [s.n]⟩, clL_S.2 ⟨ht, rfl⟩, e.symm⟩
        · rw [if_neg e] at hp; omega
      · rw [if_neg ht] at hp
        have ht' : s.term = false := by simpa using ht
        have := ih _ _ hp
        rw [show ((s.n.toNat : Nat) : Int) = s.n by have := hs ht'; omega] at this
        have es : s = ⟨false, s.n⟩ := by obtain ⟨a, b⟩ := s; simp at ht'; rw [ht']
        rw [es]; exact this) r.right k (hK r hr) hc
    exact ⟨h' + 1, v, by rw [← hl]; exact dr_rule hr hv, e⟩
theorem dr_row {h : Nat} (ih : ∀ (s : Sym) v, Dr K (clL leafS 0) (clE emS 0) h s 0 0 v → (s.term = false → 0 ≤ s.n) → 0 < Cs.oN (Cs.cnt K h) s v.n) : ∀ (l : List Sym) (v : Val), (∀ s ∈ l, s.term = false → 0 ≤ s.n) → Row0 (Dr K (clL leafS 0) (clE emS 0) h) l 0 0 v → 0 < Cs.cN (Cs.oN (Cs.cnt K h)) l v.n
  | [], v, _, hv => by
    obtain ⟨_, rfl⟩ := hv
    rw [Cs.cN]; show 0 < if (0 : Nat) = 0 then 1 else 0; simp
  | s :: l, v, hs, hv => by
    obtain ⟨m, a, b, h1, h2, h3, h4, rfl⟩ := hv
    obtain rfl : m = 0 := by omega
    have q1 := ih s a h3 (hs s (by simp))
    have q2 := dr_row ih l b (fun s hs' => hs s (by simp [hs'])) h4
    rw [Cs.cN]
    refine Cs.sumN_pos_iff.2 ⟨a.n, by show a.n < a.n + b.n + 1; omega, ?_⟩
    rw [show (thn a b).n - a.n = b.n by show a.n + b.n - a.n = b.n; omega]
    exact Nat.mul_pos q1 q2
theorem dr_cnt (hK : ∀ r ∈ K, ∀ s ∈ r.right, s.term = false → 0 ≤ s.n) : ∀ (h A : Nat) (v : Val), Dr K (clL leafS 0) (clE emS 0) h ⟨false, (A : Int)⟩ 0 0 v → 0 < Cs.cnt K h A v.n := by
  intro h
  induction h with
  | zero => intro A v hd; exact absurd (clL_S.1 hd).1 (by simp)
  | succ h ih =>
    intro A v hd
    obtain ⟨r, hr, hl, hv⟩ := dr_inv hd
    rw [Cs.cnt]
    refine (Cs.cR_posI _).2 ⟨r, hr, hl, dr_row (fun s v hd hs => ?_) r.right v (hK r hr) hv⟩
    unfold Cs.oN
    by_cases ht : s.term = true
    · rw [if_pos ht, dr_term ht hd]; show 0 < if (1 : Nat) = 1 then 1 else 0; simp
    · rw [if_neg ht]
      have ht' : s.term = false := by simpa using ht
      refine ih s.n.toNat v ?_
      rw [show ((s.n.toNat : Nat) : Int) = s.n by have := hs ht'; omega]
      have es : s = ⟨false, s.n⟩ := by obtain ⟨a, b⟩ := s; simp at ht'; rw [ht']
      rw [← es]; exact hd
theorem leastX (hK : KG N K (okS N tm)) {X : Nat → Int} (h : Cs.LeastV K N X) : LeastX K N X := by
  have hK' : ∀ r ∈ K, ∀ s ∈ r.right, s.term = false → 0 ≤ s.n := fun r hr s hs _ => ((hK r hr).2.2 s hs).1
  refine ⟨fun A hA => (h A hA).1, fun A hA h0 => ?_, fun A v hA hd => ?_⟩
  · obtain ⟨k, hk⟩ := (h A hA).2.1 h0
    obtain ⟨h', v, hv, e⟩ := cnt_dr hK' _ _ _ hk
    exact ⟨v, ⟨h', hv⟩, by omega⟩
  · obtain ⟨k, hk⟩ := hd
    exact (h A hA).2.2 v.n ⟨k, dr_cnt hK' k A v hk⟩
end
end Hl
end Go.Proofs.Ytjpmebppdcclbaa
namespace Go.Proofs.Ytjpmebppdcclbaa
namespace Hl
open Rp
def updW (Tw : Nat → Option (List Int)) (a : Nat) (w : List Int) : Nat → Option (List Int) := fun b => if b = a then some w else Tw b
section
variable {K : List Rule} {N tm lim : Nat} {X : Nat → Int} {Tw : Nat → Option (List Int)}
/-! what is left at the end -/
def xs (X : Nat → Int) (s : Sym) : Nat := if s.term then 1 else (X s.n.toNat).toNat
theorem sv_len (hL : LeastX K N X) {V : Sym → Nat → Nat → Option Val} (hV : VO leafS emS 0 K (okS N tm) (GS tm) V) (hVc : Closed K (clL leafS 0) (clE emS 0) (clV 0 V)) {A : Nat} (hA : A < N) : (match V ⟨false, (A : Int)⟩ 0 0 with | none => -1 | some v => (v.n : Int)) = X A := by
  cases e : V ⟨false, (A : Int)⟩ 0 0 with
  | none =>
    show (-1 : Int) = X A
    have h1 := hL.ge A hA
    by_cases h0 : 0 ≤ X A
    · obtain ⟨v, ⟨k, hd⟩, _⟩ := hL.ex A hA h0
      obtain ⟨_, u, h2, _⟩ := closed_le (fun y i j v e => hV.1 _ _ _ _ (cl_vp.1 e).2.2) (fun y i j v e => by unfold clL at e; split at e; exact wf_leafS _ e; cases e) (fun i j v e => by unfold clE at e; split at e; (cases e; exact wf_zero); cases e) hVc k _ _ _ _ hd
      have h3 := (cl_vp.1 h2).2.2
      rw [e] at h3; cases h3
    · omega
  | some v =>
    show (v.n : Int) = X A
    have h1 := (hV.2 _ 0 0 v (Nat.le_refl _) (Nat.le_refl _) e).1
    obtain ⟨h2, h3⟩ := hL.le A v hA h1
    obtain ⟨u, ⟨k, hd⟩, eu⟩ := hL.ex A hA h2
    have hu := (dr_wf k _ _ _ _ hd).2
    obtain ⟨_, x, h4, h5, h6⟩ := closed_le (fun y i j v e => hV.1 _ _ _ _ (cl_vp.1 e).2.2) (fun y i j v e => by unfold clL at e; split at e; exact wf_leafS _ e; cases e) (fun i j v e => by unfold clE at e; split at e; (cases e; exact wf_zero); cases e) hVc k _ _ _ _ hd
    have h7 := (cl_vp.1 h4).2.2
    rw [e] at h7
    cases h7
    rcases h6 with h6 | h6
    · rw [h6]; exact eu
    · rw [lt_iff] at h6
      have : v.n ≤ u.n := by
        rcases h6 with h | ⟨_, h | ⟨h, _⟩⟩
        · omega
        · omega
        · omega
      omega
end
end Hl
end Go.Proofs.Ytjpmebppdcclbaa
namespace Go.Proofs.Ytjpmebppdcclbaa
open Go.RowKit
namespace Df
end Df
end Go.Proofs.Ytjpmebppdcclbaa
namespace Go.Proofs.Ytjpmebppdcclbaa
open Go.RowKit
namespace Cs
def cap9 (x : Nat) : Int := min (x : Int) 1000000000
def cp (X Y z : Nat) : Nat := min (z + 1) X + (if X ≤ z ∧ z < X + Y then 1 else 0)
def ps (o : Sym → Nat → Nat) (l : List Sym) (s : Sym) (X Y z : Nat) : Nat := sumN (fun x => cN o l x * o s (z - x)) (cp X Y z)
structure R3 (B p1 p2 p3 m : Nat) (V1 : Nat → Int) (V2 V3 : Nat → Bool) (W : World) : Prop where
  r1 : Vrow 3 p1 m (fun k => .int .i64 (V1 k)) W
  r2 : Ln.Brow p2 m V2 W
  r3 : Ln.Brow p3 m V3 W
  lo : B ≤ p1 ∧ B ≤ p2 ∧ B ≤ p3
  ne : p1 ≠ p2 ∧ p1 ≠ p3 ∧ p2 ≠ p3
section
variable {B p1 p2 p3 m : Nat} {V1 V1' : Nat → Int} {V2 V3 V2' V3' : Nat → Bool} {W W' : World}
theorem R3.keep (h : R3 B p1 p2 p3 m V1 V2 V3 W) (hb : Below W.heap.size W W') : R3 B p1 p2 p3 m V1 V2 V3 W' := ⟨h.r1.keep hb, h.r2.keep hb, h.r3.keep hb, h.lo, h.ne⟩
theorem R3.other (h : R3 B p1 p2 p3 m V1 V2 V3 W) {q : Nat} (h1 : p1 ≠ q) (h2 : p2 ≠ q) (h3 : p3 ≠ q) (j : Nat) (v : Value) : R3 B p1 p2 p3 m V1 V2 V3 (W.setCell ⟨q, j, none⟩ v) := ⟨h.r1.other h1 j v, h.r2.other h2 j v, h.r3.other h3 j v, h.lo, h.ne⟩
theorem R3.eq (h : R3 B p1 p2 p3 m V1 V2 V3 W) (h1 : ∀ k, k < m → V1 k = V1' k) (h2 : ∀ k, k < m → V2 k = V2' k) (h3 : ∀ k, k < m → V3 k = V3' k) : R3 B p1 p2 p3 m V1' V2' V3' W := ⟨h.r1.eq fun k hk => by rw [h1 k hk], h.r2.eq h2, h.r3.eq h3, h.lo, h.ne⟩
end
end Cs
end Go.Proofs.Ytjpmebppdcclbaa
