/- A table in memory: rows of one-cell values, made from the first to the last. The closing of a table of edges in place; the answers written down. Plain: the passes over the table of lengths end; the counter's table written to. Plain: how many trees of at most so many levels there are. The lengths of words: two ways to reckon them, in plain Lean. The contract of RuleFault: it is gram.Check's. The contract of Groups' inner function: what is derived from a nonterminal. The contract of approx.derives. lens.Set: what its rounds keep. Items as keys of a map. A row of the call's own that is also cut at its front: append to it. lengthsOf: its boxes, its two rows of items, and its set. The walk of lengthsOf's inner function. lengthsOf: what a round adds, in plain Lean. The contract of grid, of truth values. lengthsOf: what its rounds keep. parlref5.lister.fits. The contract of grid, of whole numbers. What parlref5.heights.row keeps. A region that draws its order: a head that only loads what was there and calls what makes new memory only, then a tail in one forced order. census.Counter.loops. census.Make. parlref5.heights in memory. copy between slices of elements of several cells, into a block that is known whole. slices.Repeat of one number, few times. -/
import Derived.Test.YtclpmmbclgihbaaJLearnTellsRow8
import Derived.Test.YtclpmmbclgihbaaJLearnTellsRow1
import Derived.Deep.DeepCutAuto
import Derived.StillTailTactics
import Derived.BigQuiet
import Derived.DeepKeys4
import Derived.Test.YtclpmmbclgihbaaJLearnTellsRow2
import Derived.Deep.LoopGhost
import Derived.Test.YtclpmmbclgihbaaJLearnTellsRow4
import Derived.StillTail
import Derived.Laws.CopyRow
import Derived.Lib.Overlaps
namespace Go.Proofs.Ytclpmmbclgihbaa
open Go.RowKit

/-- the table in block bt is to have n rows; rows 0 .. hi - 1 are there: row k in block rb k, of m cells -/
structure Grd (tr te : TypeId) (B bt n m hi : Nat) (rb : Nat → Nat) (val : Nat → Nat → Value) (wr : World) : Prop where
  tb : ∃ cs, wr.heap[bt]? = some (.cells cs tr (0, 0)) ∧ cs.size = n ∧ ∀ k, k < hi → k < n → cs[k]? = some (.slice (some ⟨rb k, 0, none⟩) m m)
  row : ∀ k, k < hi → k < n → ∃ cs, wr.heap[rb k]? = some (.cells cs te (0, 0)) ∧ cs.size = m ∧ ∀ j, j < m → cs[j]? = some (val k j)
  inj : ∀ k k', k < hi → k' < hi → k < n → k' < n → rb k = rb k' → k = k'
  ne : ∀ k, k < hi → k < n → rb k ≠ bt ∧ B ≤ rb k
  bB : B ≤ bt
section
variable {tr te : TypeId} {B bt n m hi : Nat} {rb : Nat → Nat} {val : Nat → Nat → Value} {wr w' : World}
theorem Grd.lt (h : Grd tr te B bt n m hi rb val wr) : bt < wr.heap.size := by
  obtain ⟨cs, h1, _⟩ := h.tb
  exact (Array.getElem?_eq_some_iff.1 h1).1
theorem Grd.rlt (h : Grd tr te B bt n m hi rb val wr) {k : Nat} (hk : k < hi) (hn : k < n) : rb k < wr.heap.size := by
  obtain ⟨cs, h1, _⟩ := h.row k hk hn
  exact (Array.getElem?_eq_some_iff.1 h1).1
theorem Grd.grown {row : Option Nat} (h : Grd tr te B bt n m hi rb val wr) (hg : wr.grownBy w' row) (hr : ∀ k, row = some k → k ≠ bt ∧ ∀ i, i < hi → i < n → rb i ≠ k) : Grd tr te B bt n m hi rb val w' := by
  obtain ⟨⟨cs, h1, h2, h3⟩, h4, h5, h6, h7⟩ := h
  refine ⟨⟨cs, ?_, h2, h3⟩, fun k hk hn => ?_, h5, h6, h7⟩
  · rw [hg.block bt (Array.getElem?_eq_some_iff.1 h1).1 (fun e => (hr bt e.symm).1 rfl)]; exact h1
  · obtain ⟨rs, r1, r2⟩ := h4 k hk hn
    refine ⟨rs, ?_, r2⟩
    rw [hg.block (rb k) (Array.getElem?_eq_some_iff.1 r1).1 (fun e => (hr _ e.symm).2 k hk hn rfl)]; exact r1
theorem Grd.keep (h : Grd tr te B bt n m hi rb val wr) (hb : Below wr.heap.size wr w') : Grd tr te B bt n m hi rb val w' := h.grown (grown_below hb none) (fun k e => by cases e)
theorem Grd.hdr (h : Grd tr te B bt n m hi rb val wr) {k : Nat} (hk : k < hi) (hn : k < n) : wr.cell? ⟨bt, k, none⟩ = some (.slice (some ⟨rb k, 0, none⟩) m m) := by
  obtain ⟨cs, h1, h2, h3⟩ := h.tb
  simp [World.cell?, h1, h3 k hk hn]
theorem Grd.cell (h : Grd tr te B bt n m hi rb val wr) {k j : Nat} (hk : k < hi) (hn : k < n) (hj : j < m) : wr.cell? ⟨rb k, j, none⟩ = some (val k j) := by
  obtain ⟨cs, h1, h2, h3⟩ := h.row k hk hn
  simp [World.cell?, h1, h3 j hj]
theorem Grd.free (h : Grd tr te B bt n m hi rb val wr) {k : Nat} (hk : k < hi) (hn : k < n) (j : Nat) : wr.frozen? ⟨rb k, j, none⟩ = false := by
  obtain ⟨cs, h1, h2, h3⟩ := h.row k hk hn
  simp [World.frozen?, h1]
theorem Grd.hcell (h : Grd tr te B bt n m hi rb val wr) {k : Nat} (hn : k < n) : (∃ v, wr.cell? ⟨bt, k, none⟩ = some v) ∧ wr.frozen? ⟨bt, k, none⟩ = false := by
  obtain ⟨cs, h1, h2, h3⟩ := h.tb
  exact ⟨⟨cs[k]'(by omega), by simp [World.cell?, h1]⟩, by simp [World.frozen?, h1]⟩
/-- a value stored -/
theorem Grd.set (h : Grd tr te B bt n m hi rb val wr) {i j : Nat} (hi' : i < hi) (hin : i < n) (hj : j < m) (x : Value) : Grd tr te B bt n m hi rb (fun k l => if k = i ∧ l = j then x else val k l) (wr.setCell ⟨rb i, j, none⟩ x) := by
  obtain ⟨⟨cs, h1, h2, h3⟩, h4, h5, h6, h7⟩ := h
  refine ⟨⟨cs, bx_other h1 (fun e => (h6 i hi' hin).1 e.symm) _ _, h2, h3⟩, fun k hk hn => ?_, h5, h6, h7⟩
  obtain ⟨rs, r1, r2, r3⟩ := h4 k hk hn
  by_cases e : k = i
  · subst e
    refine ⟨rs.setIfInBounds j x, bx_set r1 _ _, by simpa using r2, fun l hl => ?_⟩
    rw [Array.getElem?_setIfInBounds]
    by_cases e2 : j = l
    · subst e2
      rw [if_pos rfl, if_pos (by omega)]; simp
    · rw [if_neg e2, r3 l hl]
      simp [show ¬ l = j from fun h => e2 h.symm]
  · refine ⟨rs, bx_other r1 (fun e2 => e (h5 k i hk hi' hn hin e2)) _ _, r2, fun l hl => ?_⟩
    rw [r3 l hl]; simp [e]
/-- a new row: laid, and its header stored -/
theorem Grd.add {z : Value} (h : Grd tr te B bt n m hi rb (fun _ _ => z) wr) (hi' : hi < n) (hB : B ≤ wr.heap.size) :
    Grd tr te B bt n m (hi + 1) (fun k => if k = hi then wr.heap.size else rb k) (fun _ _ => z) ((wr.alloc (.cells (madeCells #[z] m) te)).setCell ⟨bt, hi, none⟩ (.slice (some ⟨wr.heap.size, 0, none⟩) m m)) := by
  have hbt := h.lt
  have hrl := fun k hk hn => h.rlt (k := k) hk hn
  obtain ⟨⟨cs, h1, h2, h3⟩, h4, h5, h6, h7⟩ := h
  have hba : Below wr.heap.size wr (wr.alloc (.cells (madeCells #[z] m) te)) := (Below.refl _ _).alloc (Nat.le_refl _) _
  refine ⟨⟨cs.setIfInBounds hi (.slice (some ⟨wr.heap.size, 0, none⟩) m m), bx_set (bx_keep h1 hba) _ _, by simpa using h2, fun k hk hn => ?_⟩, fun k hk hn => ?_, fun k k' hk hk' hn hn' e => ?_, fun k hk hn => ?_, h7⟩
  · rw [Array.getElem?_setIfInBounds]
    by_cases e : hi = k
    · subst e
      rw [if_pos rfl, if_pos (by omega)]; simp
    · rw [if_neg e, h3 k (by omega) hn]
      simp [show ¬ k = hi from fun h => e h.symm]
  · by_cases e : k = hi
    · subst e
      refine ⟨madeCells #[z] m, ?_, size_madeCells _ _, fun j hj => made_at _ _ _ hj⟩
      simp only [if_true]
      exact bx_other (bx_new _ _ _ rfl) (by omega) _ _
    · obtain ⟨rs, r1, r2, r3⟩ := h4 k (by omega) hn
      refine ⟨rs, ?_, r2, r3⟩
      simp only [e, if_false]
      exact bx_other (bx_keep r1 hba) (h6 k (by omega) hn).1 _ _
  · by_cases e1 : k = hi <;> by_cases e2 : k' = hi <;> simp only [e1, e2, if_true, if_false] at e ⊢
    · have := hrl k' (by omega) hn'; omega
    · have := hrl k (by omega) hn; omega
    · exact h5 k k' (by omega) (by omega) hn hn' e
  · by_cases e : k = hi
    · subst e; simp only [if_true]; omega
    · simp only [e, if_false]; exact h6 k (by omega) hn
theorem Grd.eq {val' : Nat → Nat → Value} (h : Grd tr te B bt n m hi rb val wr) (he : ∀ k j, k < hi → k < n → j < m → val k j = val' k j) : Grd tr te B bt n m hi rb val' wr := by
  obtain ⟨h1, h4, h5, h6, h7⟩ := h
  refine ⟨h1, fun k hk hn => ?_, h5, h6, h7⟩
  obtain ⟨rs, r1, r2, r3⟩ := h4 k hk hn
  exact ⟨rs, r1, r2, fun j hj => by rw [r3 j hj, he k j hk hn hj]⟩
end
theorem Grd.start (tr te : TypeId) {B n m : Nat} {rb : Nat → Nat} {val : Nat → Nat → Value} {z : Value} (w : World) {bt : Nat} (hb : bt = w.heap.size) (hB : B ≤ w.heap.size) : Grd tr te B bt n m 0 rb val (w.alloc (.cells (madeCells #[z] n) tr)) := by
  subst hb
  exact ⟨⟨_, bx_new _ _ _ rfl, size_madeCells _ _, fun k hk => by omega⟩, fun k hk => by omega, fun k k' hk => by omega, fun k hk => by omega, hB⟩
end Go.Proofs.Ytclpmmbclgihbaa
namespace Go.Proofs.Ytclpmmbclgihbaa
open Go.RowKit
theorem Grd.other {tr te : TypeId} {B bt n m hi : Nat} {rb : Nat → Nat} {val : Nat → Nat → Value} {wr w' : World} (h : Grd tr te B bt n m hi rb val wr) (hs : ∀ k, B ≤ k → w'.heap[k]? = wr.heap[k]?) : Grd tr te B bt n m hi rb val w' := by
  obtain ⟨⟨cs, h1, h2, h3⟩, h4, h5, h6, h7⟩ := h
  refine ⟨⟨cs, by rw [hs _ h7]; exact h1, h2, h3⟩, fun k hk hn => ?_, h5, h6, h7⟩
  obtain ⟨rs, r1, r2⟩ := h4 k hk hn
  exact ⟨rs, by rw [hs _ (h6 k hk hn).2]; exact r1, r2⟩
namespace Cs

section
variable {E : List (Nat × Nat)} {sz k i j a b : Nat}
end
def mv (T : Nat → Nat → Bool) (sz m i j : Nat) : Nat → Nat → Bool := fun A k => manyK T (if A * m + k < i then sz else if A * m + k = i then j else 0) (A * m + k)
section
variable {T : Nat → Nat → Bool} {sz m i j A k N : Nat}
end
section
variable {g : Gram} {vr : Value} {N n : Nat} {d : Cid} {S M M' : Nat → Nat → Bool} {C : Nat → Nat → Int} {W W' : World}
theorem CI.b2 (h : CI g vr N n d S M C W) : d.b2 ≤ W.heap.size := by
  have := h.lt
  have := h.many.pl
  have := h.cnt.pl
  have := h.le
  omega
theorem CI.eqM (h : CI g vr N n d S M C W) (he : ∀ a k, a < N → k < n + 1 → M a k = M' a k) : CI g vr N n d S M' C W :=
  ⟨h.box, h.some', h.many.eq fun a k ha hk => by rw [he a k ha hk], h.cnt, h.le⟩
theorem CI.setM (h : CI g vr N n d S M C W) {a k : Nat} (ha : a < N) (hk : k < n + 1) : CI g vr N n d S (updB M a k) C (W.setCell ⟨d.rm a, k, none⟩ (.bool true)) := by
  obtain ⟨⟨T, h1⟩, h2, h3, h4, h5⟩ := h
  have hne := h3.ne a ha
  have p2 := h2.pl
  have p3 := h3.pl
  have p4 := h4.pl
  refine ⟨⟨T, bx_other h1 (by omega) _ _⟩, h2.other fun j j1 j2 => Below.heap_setCell _ _ _ _ (by show j ≠ d.rm a; omega), ?_, h4.other fun j j1 j2 => Below.heap_setCell _ _ _ _ (by show j ≠ d.rm a; omega), h5⟩
  refine (h3.set ha hk (.bool true)).eq fun b l _ _ => ?_
  unfold updB
  show (if b = a ∧ l = k then _ else _) = _
  split <;> rfl
end
/-- the table of edges closed, the answers being written -/
structure LM (g : Gram) (vr : Value) (N n : Nat) (d : Cid) (S : Nat → Nat → Bool) (C : Nat → Nat → Int) (wB : World) (bt sz : Nat) (rb : Nat → Nat) (F M : Nat → Nat → Bool) (wr : World) : Prop where
  ci : CI g vr N n d S M C wr
  tab : Grd 65 4 wB.heap.size bt sz sz sz rb (fun a b => .bool (F a b)) wr
  bel : Below d.b2 wB wr
  lt : d.cb < wB.heap.size
section
variable {g : Gram} {vr : Value} {N n : Nat} {d : Cid} {S M M' : Nat → Nat → Bool} {C : Nat → Nat → Int} {W wB wr : World} {bt sz : Nat} {rb : Nat → Nat} {F : Nat → Nat → Bool}
theorem LM.b2 (h : LM g vr N n d S C wB bt sz rb F M wr) : d.b2 ≤ wr.heap.size := h.ci.b2
theorem LM.keep (h : LM g vr N n d S C wB bt sz rb F M wr) (hb : Below wr.heap.size wr W) : LM g vr N n d S C wB bt sz rb F M W := ⟨h.ci.keep hb, h.tab.keep hb, h.bel.trans (hb.mono h.b2), h.lt⟩
theorem LM.eqM (h : LM g vr N n d S C wB bt sz rb F M wr) (he : ∀ a k, a < N → k < n + 1 → M a k = M' a k) : LM g vr N n d S C wB bt sz rb F M' wr := ⟨h.ci.eqM he, h.tab, h.bel, h.lt⟩
theorem LM.set (h : LM g vr N n d S C wB bt sz rb F M wr) {a k : Nat} (ha : a < N) (hk : k < n + 1) : LM g vr N n d S C wB bt sz rb F (updB M a k) (wr.setCell ⟨d.rm a, k, none⟩ (.bool true)) := by
  have hne := h.ci.many.ne a ha
  have p4 := h.ci.cnt.pl
  have h5 := h.ci.le
  have h6 := h.lt
  exact ⟨h.ci.setM ha hk, h.tab.other fun j hj => Below.heap_setCell _ _ _ _ (by show j ≠ d.rm a; omega), h.bel.setCell (p := ⟨d.rm a, k, none⟩) hne.2.1 _, h.lt⟩
end
end Cs
end Go.Proofs.Ytclpmmbclgihbaa
namespace Go.Proofs.Ytclpmmbclgihbaa
open Go.RowKit
namespace Cs

def sumN (f : Nat → Nat) : Nat → Nat
  | 0 => 0
  | n + 1 => sumN f n + f n
theorem sumN_le {f g : Nat → Nat} : ∀ (n : Nat), (∀ i, i < n → f i ≤ g i) → sumN f n ≤ sumN g n
  | 0, _ => Nat.le_refl _
  | n + 1, h => Nat.add_le_add (sumN_le n fun i hi => h i (by omega)) (h n (by omega))
theorem sumN_lt {f g : Nat → Nat} : ∀ (n : Nat), (∀ i, i < n → f i ≤ g i) → (∃ i, i < n ∧ f i < g i) → sumN f n < sumN g n
  | 0, _, ⟨i, hi, _⟩ => absurd hi (Nat.not_lt_zero _)
  | n + 1, h, ⟨i, hi, hlt⟩ => by
    have h1 := sumN_le n fun i hi => h i (Nat.lt_succ_of_lt hi)
    have h2 := h n (Nat.lt_succ_self n)
    by_cases e : i = n
    · subst e
      show sumN f i + f i < sumN g i + g i
      omega
    · have h3 := sumN_lt n (fun i hi => h i (Nat.lt_succ_of_lt hi)) ⟨i, by omega, hlt⟩
      show sumN f n + f n < sumN g n + g n
      omega
/-- how many cells are not set -/
def cf (N m : Nat) (S : Nat → Nat → Bool) : Nat := sumN (fun a => sumN (fun k => if S a k = true then 0 else 1) m) N
end Cs
end Go.Proofs.Ytclpmmbclgihbaa
namespace Go.Proofs.Ytclpmmbclgihbaa
open Go.RowKit
namespace Cs

def cN (o : Sym → Nat → Nat) : List Sym → Nat → Nat
  | [], k => if k = 0 then 1 else 0
  | s :: l, k => sumN (fun i => o s i * cN o l (k - i)) (k + 1)
def oN (c : Nat → Nat → Nat) (s : Sym) (i : Nat) : Nat := if s.term then (if i = 1 then 1 else 0) else c s.n.toNat i
def cR (o : Sym → Nat → Nat) (A : Int) (k : Nat) : List Rule → Nat
  | [] => 0
  | r :: rs => (if r.left = A then cN o r.right k else 0) + cR o A k rs
/-- how many trees of at most so many levels a nonterminal has -/
def cnt (rules : List Rule) : Nat → Nat → Nat → Nat
  | 0, _, _ => 0
  | h + 1, A, k => cR (oN (cnt rules h)) (A : Int) k rules
end Cs
end Go.Proofs.Ytclpmmbclgihbaa
namespace Go.Proofs.Ytclpmmbclgihbaa
open Go.RowKit
namespace Ln

def rt (K : List Rule) (i : Nat) : List Sym := (K[i]?.map Rule.right).getD []
def lft (K : List Rule) (i : Nat) : Int := (K[i]?.map Rule.left).getD 0
/-- the first d symbols of rule i have a word of length l -/
inductive It (K : List Rule) : Nat → Nat → Nat → Prop
  | start {i : Nat} : i < K.length → It K i 0 0
  | term {i d l : Nat} {s : Sym} : It K i d l → (rt K i)[d]? = some s → s.term = true → It K i (d + 1) (l + 1)
  | non {i d l j k : Nat} {s : Sym} : It K i d l → (rt K i)[d]? = some s → s.term = false → It K j (rt K j).length k → lft K j = s.n → It K i (d + 1) (l + k)
theorem It.lt {K : List Rule} {i d l : Nat} (h : It K i d l) : i < K.length := by
  induction h with
  | start h => exact h
  | term _ _ _ ih => exact ih
  | non _ _ _ _ _ ih _ => exact ih
theorem It.dot {K : List Rule} {i d l : Nat} (h : It K i d l) : d ≤ (rt K i).length := by
  induction h with
  | start h => omega
  | term _ hs _ _ => have := (List.getElem?_eq_some_iff.1 hs).1; omega
  | non _ hs _ _ _ _ _ => have := (List.getElem?_eq_some_iff.1 hs).1; omega
/-- the way of lens.Set: one symbol more -/
def stB (H : Nat → Nat → Bool) (s : Sym) (j : Nat) : Bool := if s.term then j == 1 else H s.n.toNat j
def nxt (H : Nat → Nat → Bool) (n : Nat) (s : Sym) (A : Nat → Bool) (m : Nat) : Bool := decide (m ≤ n) && (List.range (m + 1)).any fun i => A i && stB H s (m - i)
variable {K : List Rule} {n : Nat} {H : Nat → Nat → Bool}
/-- the way of lengthsOf: the items that are known, of which the first p are done; C: the lengths that they tell -/
structure Items (K : List Rule) (n : Nat) (L : List (Nat × Nat × Nat)) (p : Nat) (C : Nat → Nat → Bool) : Prop where
  sound : ∀ x ∈ L, It K x.1 x.2.1 x.2.2 ∧ x.2.2 ≤ n
  nodup : L.Nodup
  start : ∀ i, i < K.length → (i, 0, 0) ∈ L
  csound : ∀ a k, C a k = true → ∃ x ∈ L.take p, x.2.1 = (rt K x.1).length ∧ lft K x.1 = (a : Int) ∧ x.2.2 = k
  full : ∀ x ∈ L.take p, x.2.1 = (rt K x.1).length → C (lft K x.1).toNat x.2.2 = true
  term : ∀ x ∈ L.take p, ∀ s, (rt K x.1)[x.2.1]? = some s → s.term = true → x.2.2 + 1 ≤ n → (x.1, x.2.1 + 1, x.2.2 + 1) ∈ L
  non : ∀ x ∈ L.take p, ∀ s, (rt K x.1)[x.2.1]? = some s → s.term = false → ∀ k, C s.n.toNat k = true → x.2.2 + k ≤ n → (x.1, x.2.1 + 1, x.2.2 + k) ∈ L
end Ln
end Go.Proofs.Ytclpmmbclgihbaa
namespace Go.Proofs.Ytclpmmbclgihbaa
open Go.RowKit

abbrev StrSet (b c : Nat) (S : Lit → Bool) (w : World) : Prop := SetM Try.prog 9 4 b c S w
/-- what the rounds keep -/
structure FltI (w0 : World) (mb : Nat) (g : Gram) (K : List Rule) (i : Nat) (wr : World) : Prop where
  set : StrSet mb i (keysOf (K.take i)) wr
  bel : Below w0.heap.size w0 wr
  lo : w0.heap.size ≤ mb
  ok : ∀ r ∈ K.take i, okR r
  flt : faultsFrom g i (K.drop i) = faultsFrom g 0 K

end Go.Proofs.Ytclpmmbclgihbaa
namespace Go.Proofs.Ytclpmmbclgihbaa
open Go.RowKit

end Go.Proofs.Ytclpmmbclgihbaa
namespace Go.Proofs.Ytclpmmbclgihbaa
open Go.RowKit

section
variable {w : World} {bt N : Nat} {G : Array Value} {rb : Nat → Nat} {hi : Nat} {val val' : Nat → Nat → Bool} {wr w' : World}
end
end Go.Proofs.Ytclpmmbclgihbaa
namespace Go.Proofs.Ytclpmmbclgihbaa
open Go.RowKit
namespace Ln

/-- a row of truth values -/
def Brow (g m : Nat) (A : Nat → Bool) (wr : World) : Prop := ∃ cs, wr.heap[g]? = some (.cells cs 4 (0, 0)) ∧ cs.size = m ∧ ∀ k, k < m → cs[k]? = some (.bool (A k))
section
variable {g m : Nat} {A A' : Nat → Bool} {wr w' : World}
theorem Brow.lt (h : Brow g m A wr) : g < wr.heap.size := by obtain ⟨cs, h1, _⟩ := h; exact (Array.getElem?_eq_some_iff.1 h1).1
theorem Brow.keep (h : Brow g m A wr) (hb : Below wr.heap.size wr w') : Brow g m A w' := by obtain ⟨cs, h1, h2⟩ := h; exact ⟨cs, bx_keep h1 hb, h2⟩
theorem Brow.cell (h : Brow g m A wr) {k : Nat} (hk : k < m) : wr.cell? ⟨g, k, none⟩ = some (.bool (A k)) := by obtain ⟨cs, h1, h2, h3⟩ := h; simp [World.cell?, h1, h3 k hk]
theorem Brow.free (h : Brow g m A wr) (k : Nat) : wr.frozen? ⟨g, k, none⟩ = false := by obtain ⟨cs, h1, h2, h3⟩ := h; simp [World.frozen?, h1]
theorem Brow.eq (h : Brow g m A wr) (he : ∀ k, k < m → A k = A' k) : Brow g m A' wr := by obtain ⟨cs, h1, h2, h3⟩ := h; exact ⟨cs, h1, h2, fun k hk => by rw [h3 k hk, he k hk]⟩
theorem Brow.set (h : Brow g m A wr) {j : Nat} (hj : j < m) (he : ∀ k, k < m → A' k = if k = j then true else A k) : Brow g m A' (wr.setCell ⟨g, j, none⟩ (.bool true)) := by
  obtain ⟨cs, h1, h2, h3⟩ := h
  refine ⟨cs.setIfInBounds j (.bool true), bx_set h1 _ _, by simpa using h2, fun k hk => ?_⟩
  rw [Array.getElem?_setIfInBounds, he k hk]
  by_cases e : j = k
  · subst e; rw [if_pos rfl, if_pos (by omega)]; simp
  · rw [if_neg e, h3 k hk, if_neg (fun h => e h.symm)]
theorem Brow.other (h : Brow g m A wr) {b : Nat} (hne : g ≠ b) (j : Nat) (v : Value) : Brow g m A (wr.setCell ⟨b, j, none⟩ v) := by obtain ⟨cs, h1, h2⟩ := h; exact ⟨cs, bx_other h1 hne _ _, h2⟩
end
section
variable {w : World} {bt N m : Nat} {G : Array Value} {rb : Nat → Nat} {hi : Nat} {H H' : Nat → Nat → Bool} {wr w' : World}
end
/-- how many cells of the table are true -/
def cells (N m : Nat) : List (Nat × Nat) := (List.range N).flatMap fun a => (List.range m).map fun b => (a, b)
end Ln
end Go.Proofs.Ytclpmmbclgihbaa
namespace Go.Proofs.Ytclpmmbclgihbaa
open Go.RowKit
namespace Ln

def itL (a b c : Nat) : Lit := .string (keyBytes [.int .i64 a, .int .i64 b, .int .i64 c])
end Ln
end Go.Proofs.Ytclpmmbclgihbaa
namespace Go.Proofs.Ytclpmmbclgihbaa
open Go.RowKit

/-- as World.ownsRow, but the row may begin anywhere in its block -/
def ownsQ (w : World) (B : Nat) (e : TypeId) (size : Nat) (v : Value) (n : Nat) (xs : List Value) : Prop :=
  xs.length = n * size ∧
  ((v = .slice none 0 0 ∧ n = 0) ∨
   ∃ g off cap cur, v = .slice (some ⟨g, off, none⟩) n cap ∧ B ≤ g ∧ w.heap[g]? = some (.cells cur e (0, 0)) ∧ n ≤ cap ∧ cap ≤ maxLen ∧ off + cap * size ≤ cur.size ∧ (cur.toList.drop off).take (n * size) = xs)
section
variable {w w' : World} {B : Nat} {e : TypeId} {size : Nat} {v : Value} {n : Nat} {xs : List Value}
theorem ownsQ.lt (h : ownsQ w B e size v n xs) : ∀ k, v.ownBlock = some k → B ≤ k ∧ k < w.heap.size := by
  intro k hk
  rcases h.2 with ⟨rfl, _⟩ | ⟨g, off, cap, cur, rfl, a, b, _⟩
  · cases hk
  · cases hk; exact ⟨a, (Array.getElem?_eq_some_iff.1 b).1⟩
theorem ownsQ.other {row : Option Nat} (h : ownsQ w B e size v n xs) (hg : w.grownBy w' row) (hne : ∀ k, v.ownBlock = some k → row ≠ some k) : ownsQ w' B e size v n xs := by
  have hlt := h.lt
  obtain ⟨h1, h2⟩ := h
  refine ⟨h1, ?_⟩
  rcases h2 with h2 | ⟨g, off, cap, cur, rfl, a, b, r⟩
  · exact .inl h2
  · exact .inr ⟨g, off, cap, cur, rfl, a, (hg.block g (hlt g rfl).2 (fun e => hne g rfl e.symm)).trans b, r⟩
theorem ownsQ.keep (h : ownsQ w B e size v n xs) (hb : Below w.heap.size w w') : ownsQ w' B e size v n xs := h.other (grown_below hb none) (fun k _ e => by cases e)
theorem ownsQ.form (h : ownsQ w B e size v n xs) : ∃ a cap, v = .slice a n cap ∧ n ≤ cap ∧ cap ≤ maxLen := by
  rcases h.2 with ⟨rfl, rfl⟩ | ⟨g, off, cap, cur, rfl, _, _, h1, h2, _⟩
  · exact ⟨_, _, rfl, by simp, by simp⟩
  · exact ⟨_, _, rfl, h1, h2⟩
theorem ownsQ.cells (h : ownsQ w B e size v n xs) (hn : 0 < n) : ∃ g off cap, v = .slice (some ⟨g, off, none⟩) n cap ∧ ∀ j u, xs[j]? = some u → w.cell? ⟨g, off + j, none⟩ = some u := by
  rcases h.2 with ⟨_, h0⟩ | ⟨g, off, cap, cur, rfl, _, hh, h1, h2, h3, ht⟩
  · omega
  · refine ⟨g, off, cap, rfl, fun j u hj => ?_⟩
    have hl := h.1
    have hj2 := (List.getElem?_eq_some_iff.1 hj).1
    rw [← ht, List.getElem?_take, if_pos (by omega), List.getElem?_drop] at hj
    simp [World.cell?, hh]
    simpa using hj
/-- x[1:] -/
theorem ownsQ.tail {g off cap : Nat} {ys : List Value} (h : ownsQ w B e size (.slice (some ⟨g, off, none⟩) (n + 1) cap) (n + 1) (ys ++ xs)) (hy : ys.length = size) (hs : 0 < size) : ownsQ w B e size (.slice (if cap = 1 then some ⟨g, off, none⟩ else some ⟨g, off + size, none⟩) n (cap - 1)) n xs := by
  obtain ⟨h1, h2⟩ := h
  rw [List.length_append, Nat.add_mul, hy] at h1
  refine ⟨by omega, ?_⟩
  rcases h2 with ⟨h2, _⟩ | ⟨g', off', cap', cur, hv, a, b, c, d, f, t⟩
  · cases h2
  · cases hv
    right
    by_cases e1 : cap = 1
    · subst e1
      obtain rfl : n = 0 := by omega
      have hx : xs = [] := List.eq_nil_of_length_eq_zero (by omega)
      refine ⟨g, off, 0, cur, by simp, a, b, by omega, by unfold maxLen; omega, by omega, by simp [hx]⟩
    · refine ⟨g, off + size, cap - 1, cur, by simp [e1], a, b, by omega, by omega, ?_, ?_⟩
      · have : cap * size = size + (cap - 1) * size := by
          obtain ⟨c', rfl⟩ : ∃ c', cap = c' + 1 := ⟨cap - 1, by omega⟩
          simp [Nat.add_mul]; omega
        omega
      · have h3 : (cur.toList.drop off).take (n * size + size) = ys ++ xs := by rw [← t]; congr 1; simp [Nat.add_mul]
        have h4 := congrArg (List.drop size) h3
        have h5 : List.drop size (ys ++ xs) = xs := by rw [← hy]; simp
        rw [List.drop_take, List.drop_drop, h5, Nat.add_sub_cancel] at h4
        exact h4
end
end Go.Proofs.Ytclpmmbclgihbaa
namespace Go.Proofs.Ytclpmmbclgihbaa
open Go.RowKit
namespace Ln

open Classical in
noncomputable def inSet (L : List (Nat × Nat × Nat)) : Lit → Bool := fun l => decide (∃ x ∈ L, itL x.1 x.2.1 x.2.2 = l)
section
variable {B : Nat} {X : Nat → Prop} {A Q L0 : List (Nat × Nat × Nat)} {g0 off0 : Nat} {va vq : Value} {W W1 : World}
theorem ob {g off n cap k : Nat} (h : (Value.slice (some ⟨g, off, none⟩) n cap).ownBlock = some k) : g = k := by simpa [Value.ownBlock] using h
end
open Classical in
noncomputable def addL (n : Nat) (L : List (Nat × Nat × Nat)) (x : Nat × Nat × Nat) : List (Nat × Nat × Nat) := if x.2.2 ≤ n ∧ x ∉ L then L ++ [x] else L
end Ln
end Go.Proofs.Ytclpmmbclgihbaa
namespace Go.Proofs.Ytclpmmbclgihbaa
open Go.RowKit
namespace Ln

section
variable {w2 w3 : World} {s : Nat} {S : Lit → Bool} {b : Nat} {X : Nat → Prop} {A Q L0 : List (Nat × Nat × Nat)} {g0 off0 : Nat} {va vq : Value} {W W1 : World}
end
open Classical in
theorem addL_no {n : Nat} {L : List (Nat × Nat × Nat)} {x : Nat × Nat × Nat} (h : ¬ x.2.2 ≤ n ∨ x ∈ L) : addL n L x = L := by
  unfold addL
  rw [if_neg]
  rintro ⟨h1, h2⟩
  rcases h with h | h
  · exact h h1
  · exact h2 h
open Classical in
theorem addL_yes {n : Nat} {L : List (Nat × Nat × Nat)} {x : Nat × Nat × Nat} (h : x.2.2 ≤ n) (h2 : x ∉ L) : addL n L x = L ++ [x] := by
  unfold addL; rw [if_pos ⟨h, h2⟩]

end Ln
end Go.Proofs.Ytclpmmbclgihbaa
namespace Go.Proofs.Ytclpmmbclgihbaa
open Go.RowKit
namespace Ln

theorem nodup_le : ∀ (l m : List (Nat × Nat × Nat)), l.Nodup → (∀ x ∈ l, x ∈ m) → l.length ≤ m.length
  | [], m, _, _ => by simp
  | a :: l, m, hn, hs => by
    have ha := hs a List.mem_cons_self
    rw [List.nodup_cons] at hn
    have := nodup_le l (m.erase a) hn.2 fun x hx => by
      have hne : x ≠ a := fun e => hn.1 (e ▸ hx)
      exact (List.mem_erase_of_ne hne).2 (hs x (List.mem_cons_of_mem _ hx))
    rw [List.length_erase_of_mem ha] at this
    have : 0 < m.length := List.length_pos_of_mem ha
    simp; omega
def boxL (a b c : Nat) : List (Nat × Nat × Nat) := (List.range a).flatMap fun i => (List.range b).flatMap fun j => (List.range c).map fun k => (i, j, k)
theorem mem_boxL {a b c i j k : Nat} : (i, j, k) ∈ boxL a b c ↔ i < a ∧ j < b ∧ k < c := by
  unfold boxL
  simp only [List.mem_flatMap, List.mem_map, List.mem_range, Prod.mk.injEq]
  constructor
  · rintro ⟨a1, h1, b1, h2, c1, h3, rfl, rfl, rfl⟩; exact ⟨h1, h2, h3⟩
  · rintro ⟨h1, h2, h3⟩; exact ⟨i, h1, j, h2, k, h3, rfl, rfl, rfl⟩
theorem len_flat {α β : Type} (f : α → List β) (m : Nat) : ∀ (l : List α), (∀ x ∈ l, (f x).length = m) → (l.flatMap f).length = l.length * m
  | [], _ => by simp
  | x :: l, h => by
    rw [List.flatMap_cons, List.length_append, h x List.mem_cons_self, len_flat f m l (fun y hy => h y (List.mem_cons_of_mem _ hy)), List.length_cons, Nat.add_mul]; omega
theorem len_boxL (a b c : Nat) : (boxL a b c).length = a * (b * c) := by
  unfold boxL
  rw [len_flat _ (b * c)]
  · simp
  · intro i _
    rw [len_flat _ c]
    · simp
    · intro j _; simp
variable {K : List Rule} {n : Nat}
/-- the items have grown by sound ones -/
structure Grow (K : List Rule) (n : Nat) (L0 L : List (Nat × Nat × Nat)) : Prop where
  pre : L0 <+: L
  nodup : L.Nodup
  sound : ∀ x ∈ L, It K x.1 x.2.1 x.2.2 ∧ x.2.2 ≤ n
open Classical in
theorem mem_addL_old {L : List (Nat × Nat × Nat)} {x y : Nat × Nat × Nat} (h : y ∈ L) : y ∈ addL n L x := by
  unfold addL; split
  · exact List.mem_append_left _ h
  · exact h
open Classical in
theorem mem_addL {L : List (Nat × Nat × Nat)} {x : Nat × Nat × Nat} (h : x.2.2 ≤ n) : x ∈ addL n L x := by
  unfold addL
  by_cases hx : x ∈ L
  · rw [if_neg (by simp [hx])]; exact hx
  · rw [if_pos ⟨h, hx⟩]; simp
open Classical in
theorem Grow.add {L0 L : List (Nat × Nat × Nat)} {x : Nat × Nat × Nat} (h : Grow K n L0 L) (hx : It K x.1 x.2.1 x.2.2) : Grow K n L0 (addL n L x) := by
  unfold addL; split
  · rename_i hc
    refine ⟨h.pre.trans (List.prefix_append _ _), ?_, ?_⟩
    · rw [List.nodup_append]
      refine ⟨h.nodup, by simp, ?_⟩
      intro a ha b hb e
      simp at hb
      subst hb; subst e
      exact hc.2 ha
    · intro y hy
      rcases List.mem_append.1 hy with hy | hy
      · exact h.sound y hy
      · simp at hy; subst hy; exact ⟨hx, hc.1⟩
  · exact h
theorem Grow.len {L0 L : List (Nat × Nat × Nat)} (h : Grow K n L0 L) (hK : K.length ≤ 32) (hr : ∀ i, (rt K i).length ≤ 4) (hn : n ≤ 400) : L.length ≤ 64160 := by
  have h1 := nodup_le L (boxL 32 5 401) h.nodup (fun x hx => by
    obtain ⟨h1, h2⟩ := h.sound x hx
    have h3 := h1.lt
    have h4 := h1.dot
    have h5 := hr x.1
    obtain ⟨i, j, k⟩ := x
    simp only at h2 h3 h4 h5
    exact mem_boxL.2 ⟨by omega, by omega, by omega⟩)
  rw [len_boxL] at h1
  omega
theorem Grow.refl {L : List (Nat × Nat × Nat)} (h1 : L.Nodup) (h2 : ∀ x ∈ L, It K x.1 x.2.1 x.2.2 ∧ x.2.2 ≤ n) : Grow K n L L := ⟨List.prefix_refl _, h1, h2⟩
/-- one item is done -/
theorem Items.next {L L' : List (Nat × Nat × Nat)} {p : Nat} {C C' : Nat → Nat → Bool} (h : Items K n L p C) (hp : p < L.length) {x : Nat × Nat × Nat} (hx : L[p] = x) (hg : Grow K n L L')
    (hc : ∀ a k, C' a k = true → C a k = true ∨ (x.2.1 = (rt K x.1).length ∧ lft K x.1 = (a : Int) ∧ x.2.2 = k))
    (hf0 : ∀ a k, C a k = true → C' a k = true)
    (hf : x.2.1 = (rt K x.1).length → C' (lft K x.1).toNat x.2.2 = true)
    (ht : ∀ s, (rt K x.1)[x.2.1]? = some s → s.term = true → x.2.2 + 1 ≤ n → (x.1, x.2.1 + 1, x.2.2 + 1) ∈ L')
    (hn : ∀ s, (rt K x.1)[x.2.1]? = some s → s.term = false → ∀ k, C' s.n.toNat k = true → x.2.2 + k ≤ n → (x.1, x.2.1 + 1, x.2.2 + k) ∈ L')
    (hn2 : ∀ y ∈ L, ∀ s, (rt K y.1)[y.2.1]? = some s → s.term = false → ∀ k, C' s.n.toNat k = true → C s.n.toNat k = false → y.2.2 + k ≤ n → (y.1, y.2.1 + 1, y.2.2 + k) ∈ L') : Items K n L' (p + 1) C' := by
  obtain ⟨t, rfl⟩ := hg.pre
  have htk : (L ++ t).take (p + 1) = L.take p ++ [x] := by
    rw [List.take_append_of_le_length (by omega), List.take_succ_eq_append_getElem hp, hx]
  refine ⟨hg.sound, hg.nodup, fun i hi => List.mem_append_left _ (h.start i hi), ?_, ?_, ?_, ?_⟩
  · intro a k hk
    rw [htk]
    rcases hc a k hk with h1 | ⟨h1, h2, h3⟩
    · obtain ⟨y, hy, h2⟩ := h.csound a k h1
      exact ⟨y, List.mem_append_left _ hy, h2⟩
    · exact ⟨x, by simp, h1, h2, h3⟩
  · intro y hy
    rw [htk] at hy
    rcases List.mem_append.1 hy with hy | hy
    · exact fun e => hf0 _ _ (h.full y hy e)
    · simp at hy; subst hy; exact hf
  · intro y hy
    rw [htk] at hy
    rcases List.mem_append.1 hy with hy | hy
    · exact fun s h1 h2 h3 => List.mem_append_left _ (h.term y hy s h1 h2 h3)
    · simp at hy; subst hy; exact ht
  · intro y hy
    rw [htk] at hy
    rcases List.mem_append.1 hy with hy | hy
    · intro s h1 h2 k h3 h4
      cases e : C s.n.toNat k with
      | true => exact List.mem_append_left _ (h.non y hy s h1 h2 k e h4)
      | false => exact hn2 y (List.mem_of_mem_take hy) s h1 h2 k h3 e h4
    · simp at hy; subst hy; exact hn
open Classical in
theorem Items.termN {L : List (Nat × Nat × Nat)} {p i d l : Nat} {C : Nat → Nat → Bool} {s : Sym} (h : Items K n L p C) (hp : p < L.length) (hx : L[p] = (i, d, l)) (hs : (rt K i)[d]? = some s) (ht : s.term = true) : Items K n (addL n L (i, d + 1, l + 1)) (p + 1) C := by
  have hit := (h.sound _ (List.getElem_mem hp)).1
  rw [hx] at hit
  refine h.next hp hx ((Grow.refl h.nodup h.sound).add (.term hit hs ht)) (fun _ _ h => .inl h) (fun _ _ h => h) (fun e => ?_) (fun s' hs' ht' hl => mem_addL hl) (fun s' hs' ht' k _ _ => ?_) (fun y _ s _ _ k h1 h2 _ => by rw [h1] at h2; cases h2)
  · have := (List.getElem?_eq_some_iff.1 hs).1; simp only at e; omega
  · simp only at hs'
    rw [hs] at hs'; cases hs'; rw [ht] at ht'; cases ht'
end Ln
end Go.Proofs.Ytclpmmbclgihbaa
namespace Go.Proofs.Ytclpmmbclgihbaa
open Go.RowKit
namespace Ln

end Ln
end Go.Proofs.Ytclpmmbclgihbaa
namespace Go.Proofs.Ytclpmmbclgihbaa
open Go.RowKit
namespace Ln

theorem Grd.same {tr te : TypeId} {B bt n m hi : Nat} {rb : Nat → Nat} {val : Nat → Nat → Value} {wr w' : World} (h : Grd tr te B bt n m hi rb val wr) (h1 : w'.heap[bt]? = wr.heap[bt]?) (h2 : ∀ i, i < hi → i < n → w'.heap[rb i]? = wr.heap[rb i]?) : Grd tr te B bt n m hi rb val w' := by
  obtain ⟨⟨cs, k1, k2⟩, k3, k4, k5, k6⟩ := h
  refine ⟨⟨cs, h1.trans k1, k2⟩, fun k hk hn => ?_, k4, k5, k6⟩
  obtain ⟨rs, r1, r2⟩ := k3 k hk hn
  exact ⟨rs, (h2 k hk hn).trans r1, r2⟩
theorem Grd.base {tr te : TypeId} {B B' bt n m hi : Nat} {rb : Nat → Nat} {val : Nat → Nat → Value} {wr : World} (h : Grd tr te B bt n m hi rb val wr) (hB : B' ≤ B) : Grd tr te B' bt n m hi rb val wr :=
  ⟨h.tb, h.row, h.inj, fun k hk hn => ⟨(h.ne k hk hn).1, Nat.le_trans hB (h.ne k hk hn).2⟩, Nat.le_trans hB h.bB⟩
section
variable {w2 : World} {nb s n : Nat} {X X' : Nat → Prop} {L L0 : List (Nat × Nat × Nat)} {p g0 off0 : Nat} {wr w' : World}
end
section
variable {w : World} {s n N : Nat} {G : Array Value} {bt : Nat} {rb : Nat → Nat} {X X' : Nat → Prop} {L L' : List (Nat × Nat × Nat)} {p : Nat} {L0 : List (Nat × Nat × Nat)} {g0 off0 : Nat} {C C' : Nat → Nat → Bool} {wr w' : World}
end
end Ln
end Go.Proofs.Ytclpmmbclgihbaa
namespace Go.Proofs.Ytclpmmbclgihbaa
open Go.RowKit
namespace Cs

section
variable {W : World} {sx : Nat} {SB : Array Value} {ga : Nat} {A : Nat → Bool} {gn : Nat} {M M' : Nat → Bool} {m : Nat} {wr w' : World}
end

end Cs
end Go.Proofs.Ytclpmmbclgihbaa
namespace Go.Proofs.Ytclpmmbclgihbaa
open Go.RowKit
namespace Df

def GridIPost (N m : Nat) (w : World) (e : Ending) (w' : World) : Prop :=
  ∃ bt rb, e = .returned (.slice (some ⟨bt, 0, none⟩) N N) ∧ Grd 22 3 w.heap.size bt N m N rb (fun _ _ => .int .i64 0) w' ∧ Below w.heap.size w w'
set_option maxHeartbeats 1000000 in
set_option maxRecDepth 100000 in
theorem gridI (N m : Nat) (w : World) (hN : 1 ≤ N ∧ N ≤ 1000) (hm : 1 ≤ m ∧ m ≤ 1000) : Calls Try.prog 24 #[.int .i64 N, .int .i64 m] w (GridIPost N m w) := by
  obtain ⟨hN1, hN2⟩ := hN
  obtain ⟨hm1, hm2⟩ := hm
  have hmk1 : ∀ W : World, (Instr.makeSlice 23 (.int .i64 (N : Int)) (.int .i64 (N : Int))).run Try.prog W = .ok (.slice (some ⟨W.heap.size, 0, none⟩) N N) (W.alloc (.cells (madeCells #[.slice none 0 0] N) 22)) := fun W => by
    have := run_make_row' (P := Try.prog) 23 22 (.slice none 0 0) 24 Try.underlying23 (by kernel_rfl) rfl .i64 .i64 N (by omega) (by omega) W
    simpa using this
  have hmk2 : ∀ W : World, (Instr.makeSlice 22 (.int .i64 (m : Int)) (.int .i64 (m : Int))).run Try.prog W = .ok (.slice (some ⟨W.heap.size, 0, none⟩) m m) (W.alloc (.cells (madeCells #[.int .i64 0] m) 3)) := fun W => by
    have := run_make_row' (P := Try.prog) 22 3 (.int .i64 0) 8 Try.underlying22 (by kernel_rfl) rfl .i64 .i64 m (by omega) (by omega) W
    simpa using this
  obtain ⟨bt, HBT⟩ := nameIt w.heap.size
  have HI0 : Hid (∃ rb, Grd 22 3 w.heap.size bt N m 0 rb (fun _ _ => .int .i64 0) (w.alloc (.cells (madeCells #[.slice none 0 0] N) 22)) ∧ Below w.heap.size w (w.alloc (.cells (madeCells #[.slice none 0 0] N) 22))) :=
    ⟨fun _ => 0, Grd.start _ _ _ HBT.out.symm (Nat.le_refl _), (Below.refl _ _).alloc (Nat.le_refl _) _⟩
  go_enter Try.func24, Try.ntmps24
  go_wp2_with fail
  rw [HBT.out]
  clear hmk1
  go_loopg [11] N (fun gg v11 wr => ∃ k : Nat, k ≤ N ∧ N - k ≤ gg ∧ v11 = .int .i64 k ∧ Hid (∃ rb, Grd 22 3 w.heap.size bt N m k rb (fun _ _ => .int .i64 0) wr ∧ Below w.heap.size w wr))
  case atStart => exact ⟨0, by omega, by omega, rfl, HI0⟩
  case round =>
    clear HI0
    obtain ⟨k, hk, hg, rfl, HI⟩ := hrel
    by_cases hkN : k < N
    · have hkN' : (k : Int) < (N : Int) := by omega
      obtain ⟨rb, hd, hbel⟩ := HI.out
      have hbt := hd.lt
      have hbB := hd.bB
      have hsz := hbel.size
      obtain ⟨⟨vc, hc8⟩, hf8⟩ := hd.hcell hkN
      have HT1 : Hid (∃ rb, Grd 22 3 w.heap.size bt N m (k + 1) rb (fun _ _ => .int .i64 0) ((wr.alloc (.cells (madeCells #[.int .i64 0] m) 3)).setCell ⟨bt, k, none⟩ (.slice (some ⟨wr.heap.size, 0, none⟩) m m)) ∧ Below w.heap.size w ((wr.alloc (.cells (madeCells #[.int .i64 0] m) 3)).setCell ⟨bt, k, none⟩ (.slice (some ⟨wr.heap.size, 0, none⟩) m m))) :=
        ⟨_, hd.add hkN (by omega), (hbel.alloc (by omega) _).setCell (by show w.heap.size ≤ bt; omega) _⟩
      have hne8 : ¬ bt = wr.heap.size := by omega
      have hne9 : ¬ wr.heap.size = bt := by omega
      obtain ⟨w2, HW2⟩ := nameIt ((wr.alloc (.cells (madeCells #[.int .i64 0] m) 3)).setCell ⟨bt, k, none⟩ (.slice (some ⟨wr.heap.size, 0, none⟩) m m))
      have hcomm : (wr.setCell ⟨bt, k, none⟩ (.slice (some ⟨wr.heap.size, 0, none⟩) m m)).alloc (.cells (madeCells #[.int .i64 0] m) 3) = w2 := by
        rw [← HW2.out]
        simp [go_sem, hbt]
      have HCM := Lib.hid hcomm
      rw [HW2.out] at HT1
      clear hcomm hd hbel
      go_upto_region 6 with fail
      rw [HCM.out]
      clear hc8 hf8 hne8 hne9
      go_wp2_with fail
      go_roundg (N - (k + 1))
      case measure => omega
      case rel => exact ⟨k + 1, by omega, by omega, by go_num, HT1⟩
    · have hkN' : ¬ (k : Int) < (N : Int) := by omega
      have hkk : k = N := by omega
      have HE := HI.out
      rw [hkk] at HE
      have HE1 := Lib.hid HE
      clear HE hkk
      go_wp2_with fail
      go_ret
      obtain ⟨rb, h1, h2⟩ := HE1.out
      exact ⟨bt, rb, rfl, h1, h2⟩
end Df
end Go.Proofs.Ytclpmmbclgihbaa
namespace Go.Proofs.Ytclpmmbclgihbaa
open Go.RowKit
namespace Cs

def cap9 (x : Nat) : Int := min (x : Int) 1000000000
/-- how many first lengths have been reckoned in at place z, the rounds being at X, Y -/
def cp (X Y z : Nat) : Nat := min (z + 1) X + (if X ≤ z ∧ z < X + Y then 1 else 0)
/-- the sum so far -/
def ps (o : Sym → Nat → Nat) (l : List Sym) (s : Sym) (X Y z : Nat) : Nat := sumN (fun x => cN o l x * o s (z - x)) (cp X Y z)
/-- three rows: numbers, whether there are any, and any just so high -/
structure R3 (B p1 p2 p3 m : Nat) (V1 : Nat → Int) (V2 V3 : Nat → Bool) (W : World) : Prop where
  r1 : Vrow 3 p1 m (fun k => .int .i64 (V1 k)) W
  r2 : Ln.Brow p2 m V2 W
  r3 : Ln.Brow p3 m V3 W
  lo : B ≤ p1 ∧ B ≤ p2 ∧ B ≤ p3
  ne : p1 ≠ p2 ∧ p1 ≠ p3 ∧ p2 ≠ p3
section
variable {B p1 p2 p3 m : Nat} {V1 V1' : Nat → Int} {V2 V3 V2' V3' : Nat → Bool} {W W' : World}
theorem R3.keep (h : R3 B p1 p2 p3 m V1 V2 V3 W) (hb : Below W.heap.size W W') : R3 B p1 p2 p3 m V1 V2 V3 W' := ⟨h.r1.keep hb, h.r2.keep hb, h.r3.keep hb, h.lo, h.ne⟩
theorem R3.other (h : R3 B p1 p2 p3 m V1 V2 V3 W) {q : Nat} (h1 : p1 ≠ q) (h2 : p2 ≠ q) (h3 : p3 ≠ q) (j : Nat) (v : Value) : R3 B p1 p2 p3 m V1 V2 V3 (W.setCell ⟨q, j, none⟩ v) := ⟨h.r1.other h1 j v, h.r2.other h2 j v, h.r3.other h3 j v, h.lo, h.ne⟩
theorem R3.eq (h : R3 B p1 p2 p3 m V1 V2 V3 W) (h1 : ∀ k, k < m → V1 k = V1' k) (h2 : ∀ k, k < m → V2 k = V2' k) (h3 : ∀ k, k < m → V3 k = V3' k) : R3 B p1 p2 p3 m V1' V2' V3' W := ⟨h.r1.eq fun k hk => by rw [h1 k hk], h.r2.eq h2, h.r3.eq h3, h.lo, h.ne⟩
end
end Cs
end Go.Proofs.Ytclpmmbclgihbaa
namespace Go.Proofs.Ytclpmmbclgihbaa
open Go.RowKit

section
variable {P : Program} {ops : Array Oper} {md : Region.Mode} {C : World → Prop}
end
end Go.Proofs.Ytclpmmbclgihbaa
namespace Go.Proofs.Ytclpmmbclgihbaa
open Go.RowKit
namespace Cs

/-- the table of edges, beside all that was there -/
structure LI (wB : World) (bt sz : Nat) (rb : Nat → Nat) (B2 : Nat) (F : Nat → Nat → Bool) (wr : World) : Prop where
  tab : Grd 65 4 wB.heap.size bt sz sz sz rb (fun a b => .bool (F a b)) wr
  bel : Below wB.heap.size wB wr
  lo : ∀ a, a < sz → rb a < B2
section
variable {wB : World} {bt sz : Nat} {rb : Nat → Nat} {B2 : Nat} {F : Nat → Nat → Bool} {wr W : World}
theorem LI.keep (h : LI wB bt sz rb B2 F wr) (hb : Below wr.heap.size wr W) : LI wB bt sz rb B2 F W := ⟨h.tab.keep hb, h.bel.trans (hb.mono h.bel.size), h.lo⟩
theorem LI.setv (h : LI wB bt sz rb B2 F wr) {a b : Nat} (ha : a < sz) (hb : b < sz) (x : Bool) : LI wB bt sz rb B2 (fun k l => if k = a ∧ l = b then x else F k l) (wr.setCell ⟨rb a, b, none⟩ (.bool x)) := by
  refine ⟨(h.tab.set ha ha hb (.bool x)).eq (fun k l _ _ _ => ?_), h.bel.setCell (p := ⟨rb a, b, none⟩) (h.tab.ne a ha ha).2 _, h.lo⟩
  show (if k = a ∧ l = b then _ else _) = _
  split <;> rfl
theorem LI.eq {F' : Nat → Nat → Bool} (h : LI wB bt sz rb B2 F wr) (he : ∀ k l, k < sz → l < sz → F k l = F' k l) : LI wB bt sz rb B2 F' wr := ⟨h.tab.eq fun k l hk _ hl => by rw [he k l hk hl], h.bel, h.lo⟩
theorem LI.set (h : LI wB bt sz rb B2 F wr) {a b : Nat} (ha : a < sz) (hb : b < sz) : LI wB bt sz rb B2 (updB F a b) (wr.setCell ⟨rb a, b, none⟩ (.bool true)) := h.setv ha hb true
end
end Cs
end Go.Proofs.Ytclpmmbclgihbaa
namespace Go.Proofs.Ytclpmmbclgihbaa
open Go.RowKit
namespace Cs

end Cs
end Go.Proofs.Ytclpmmbclgihbaa
namespace Go.Proofs.Ytclpmmbclgihbaa
open Go.RowKit
namespace Cs

section
variable {P : Program} {ops : Array Oper} {md : Region.Mode} {Q : Exit → Act → World → Prop} {S : World → Prop} {n : Nat}
end
/-- where the levels lie -/
structure Hs where
  hb : Nat
  tm : Nat
  ta : Nat
  tj : Nat
  rm : Nat → Nat
  ra : Nat → Nat
  rj : Nat → Nat
  lo : Nat
  hi : Nat
section
variable {W : World} {sx : Nat} {SB : Array Value} {p1 p2 p3 g1 g2 g3 m : Nat} {V1 : Nat → Int} {V2 V3 : Nat → Bool} {U1 U1' : Nat → Int} {U2 U3 U2' U3' : Nat → Bool} {wr w' : World}
end
def u1 (c : Nat → Nat → Nat) (l : List Sym) (s : Sym) (X Y z : Nat) : Int := cap9 (ps (oN c) l s X Y z)
def u2 (c : Nat → Nat → Nat) (l : List Sym) (s : Sym) (X Y z : Nat) : Bool := decide (0 < ps (oN c) l s X Y z)
def u3 (c c' : Nat → Nat → Nat) (l : List Sym) (s : Sym) (X Y z : Nat) : Bool := decide (ps (oN c') l s X Y z < ps (oN c) l s X Y z)
def v1 (c : Nat → Nat → Nat) (l : List Sym) (z : Nat) : Int := cap9 (cN (oN c) l z)
def v2 (c : Nat → Nat → Nat) (l : List Sym) (z : Nat) : Bool := decide (0 < cN (oN c) l z)
def v3 (c c' : Nat → Nat → Nat) (l : List Sym) (z : Nat) : Bool := decide (cN (oN c') l z < cN (oN c) l z)
end Cs
end Go.Proofs.Ytclpmmbclgihbaa
namespace Go.Proofs.Ytclpmmbclgihbaa
open Go.RowKit

/-- the operation, where its run is known -/
theorem wp_copyK {P : Program} (w : World) {o : Oper} {a : Act} {K : Act → World → Prop} {Q : Exit → Act → World → Prop} (d s : Operand) (t t' : TypeId)
    (ho : o.op = .call { callee := .builtin .copy, args := #[d, s], argTypes := #[t, t'] }) {v u v' : Value} {w' : World} (hd : a.eval d = v) (hs : a.eval s = u)
    (hr : (Builtin.copy_ #[t, t'] o.type #[v, u]).run P w = .ok v' w') (h : K (a.put o.dst v') w') : o.wp P a w K Q := by
  unfold Oper.wp execOp
  simp only [ho, resolve, invoke, builtin, Sem.run_bind, Sem.run_pure, Result.andThen_ok, List.map_toArray, List.map_cons, List.map_nil, hd, hs, hr]
  exact h
theorem wpl_copyK {P : Program} (w : World) {ops : Array Oper} {rest : List Oper} {o : Oper} {a : Act} {Q : Exit → Act → World → Prop} (hgd : o.guard = none) (d s : Operand) (t t' : TypeId)
    (ho : o.op = .call { callee := .builtin .copy, args := #[d, s], argTypes := #[t, t'] }) {v u v' : Value} {w' : World} (hd : a.eval d = v) (hs : a.eval s = u)
    (hr : (Builtin.copy_ #[t, t'] o.type #[v, u]).run P w = .ok v' w') (h : wpList P ops Q rest (a.put o.dst v') w') : wpList P ops Q (o :: rest) a w :=
  wpList_plain hgd fun _ hK => wp_copyK w d s t t' ho hd hs hr (hK _ _ h)
theorem step_copyK {P : Program} {ops : Array Oper} {o : Oper} {a : Act} {w : World} {K : Act → World → Prop} {Q : Exit → Act → World → Prop} {E : Prop} (hg : o.guard = none) (d x : Operand) (dT sT : TypeId)
    (hop : o.op = .call { callee := .builtin .copy, args := #[d, x], argTypes := #[dT, sT] }) {v u v' : Value} {w' : World} (hd : a.eval d = v) (hx : a.eval x = u)
    (hr : (Builtin.copy_ #[dT, sT] o.type #[v, u]).run P w = .ok v' w') (hK : K (a.put o.dst v') w') : if Region.wanted o (yielded ops a.tmps) = true then Oper.wp P o a w K Q else E := by
  have hw : Region.wanted o (yielded ops a.tmps) = true := by simp [Region.wanted, hg]
  rw [if_pos hw]
  exact wp_copyK w d x dT sT hop hd hx hr hK
end Go.Proofs.Ytclpmmbclgihbaa
namespace Go.Proofs.Ytclpmmbclgihbaa
open Go.RowKit
namespace Cs

set_option maxHeartbeats 4000000 in
theorem mul64E (N : Nat) (h1 : 1 ≤ N) (h2 : N ≤ 16) (W : World) : Calls Try.prog 47 #[.int .u64 1, .int .u64 (N : Int)] W fun e w' => e = .returned (.tuple #[.int .u64 0, .int .u64 (N : Int)]) ∧ W = w' := by
  have h : N = 1 ∨ N = 2 ∨ N = 3 ∨ N = 4 ∨ N = 5 ∨ N = 6 ∨ N = 7 ∨ N = 8 ∨ N = 9 ∨ N = 10 ∨ N = 11 ∨ N = 12 ∨ N = 13 ∨ N = 14 ∨ N = 15 ∨ N = 16 := by omega
  rcases h with rfl | rfl | rfl | rfl | rfl | rfl | rfl | rfl | rfl | rfl | rfl | rfl | rfl | rfl | rfl | rfl <;> (
    go_enter Try.func47, Try.ntmps47
    go_wp2_with fail
    refine bodyPost_ret (results_tmp2 Try.results47 _ _ _) rfl ?_
    exact ⟨rfl, rfl⟩)
set_option maxHeartbeats 4000000 in
theorem mulE (N : Nat) (h1 : 1 ≤ N) (h2 : N ≤ 16) (W : World) : Calls Try.prog 43 #[.int .u64 1, .int .u64 (N : Int)] W fun e w' => e = .returned (.tuple #[.int .u64 0, .int .u64 (N : Int)]) ∧ W = w' := by
  have HM := Lib.hid (mul64E N h1 h2)
  go_enter Try.func43, Try.ntmps43
  go_wp2_with fail
  with_reducible refine (HM.out _).mono ?_
  rintro e w1 ⟨rfl, rfl⟩
  go_wp2_with fail
  refine bodyPost_ret (results_tmp2 Try.results43 _ _ _) rfl ?_
  exact ⟨rfl, rfl⟩
theorem vrow_cells {e : TypeId} {p m : Nat} {x : Value} : ∀ (k o : Nat) (A : Nat → Value) (w : World), o + k ≤ m → Vrow e p m A w → Vrow e p m (fun j => if o ≤ j ∧ j < o + k then x else A j) (w.setCells p o (List.replicate k x))
  | 0, o, A, w, _, h => h.eq (fun j _ => by rw [if_neg (by omega)])
  | k + 1, o, A, w, hk, h => by
    rw [List.replicate_succ]
    show Vrow e p m _ ((w.setCell ⟨p, o, none⟩ x).setCells p (o + 1) (List.replicate k x))
    have h1 := h.set (A' := fun j => if j = o then x else A j) (j := o) (x := x) (by omega) (fun j _ => rfl)
    refine (vrow_cells k (o + 1) _ _ (by omega) h1).eq (fun j _ => ?_)
    by_cases e1 : o + 1 ≤ j ∧ j < o + 1 + k
    · rw [if_pos e1, if_pos (by omega)]
    · rw [if_neg e1]
      by_cases e2 : j = o
      · rw [if_pos e2, if_pos (by omega)]
      · rw [if_neg e2, if_neg (by omega)]
theorem below_cells {B p : Nat} {w0 : World} (hp : B ≤ p) : ∀ (l : List Value) (o : Nat) (w : World), Below B w0 w → Below B w0 (w.setCells p o l)
  | [], _, _, h => h
  | x :: l, o, w, h => below_cells hp l (o + 1) _ (h.setCell (p := ⟨p, o, none⟩) hp x)
set_option maxHeartbeats 4000000 in
set_option maxRecDepth 100000 in
theorem repE (N : Nat) (h1 : 1 ≤ N) (h2 : N ≤ 16) (x : Int) (a : Option Addr) (c : Nat) (W : World) (hs : Sl W (.slice a 1 c) (ints [x])) :
    Calls Try.prog 30 #[.slice a 1 c, .int .i64 (N : Int)] W fun e w' => ∃ p, e = .returned (.slice (some ⟨p, 0, none⟩) N N) ∧ Vrow 3 p N (fun _ => .int .i64 x) w' ∧ W.heap.size ≤ p ∧ Below W.heap.size W w' := by
  obtain ⟨PST, HP⟩ := nameIt (fun (e : Ending) (w' : World) => ∃ p, e = .returned (.slice (some ⟨p, 0, none⟩) N N) ∧ Vrow 3 p N (fun _ => .int .i64 x) w' ∧ W.heap.size ≤ p ∧ Below W.heap.size W w')
  rw [HP.out]
  have HFIN : Hid (∀ p w', Vrow 3 p N (fun _ => .int .i64 x) w' → W.heap.size ≤ p → Below W.heap.size W w' → PST (.returned (.slice (some ⟨p, 0, none⟩) N N)) w') := by
    intro p w' q1 q2 q3; rw [← HP.out]; exact ⟨p, rfl, q1, q2, q3⟩
  have HMU := Lib.hid (mulE N h1 h2)
  obtain ⟨bx, ox, hae, hcx⟩ := hs.at (k := 0) (by simp [ints])
  subst hae
  have hc0 : W.cell? ⟨bx, ox, none⟩ = some (.int .i64 x) := by simpa [ints] using hcx 0 (by simp [ints])
  have hmk : ∀ W : World, (Instr.makeSlice 22 (.int .i64 (N : Int)) (.int .i64 (N : Int))).run Try.prog W = .ok (.slice (some ⟨W.heap.size, 0, none⟩) N N) (W.alloc (.cells (madeCells #[.int .i64 0] N) 3)) := fun W => by
    have := run_make_row' (P := Try.prog) 22 3 (.int .i64 0) 8 Try.underlying22 (by kernel_rfl) rfl .i64 .i64 N (by omega) (by omega) W
    simpa using this
  have hn0 : decide ((N : Int) < 0) = false := by simp
  have hn1 : decide ((9223372036854775807 : Int) < (N : Int)) = false := by simp; omega
  clear hcx hs HP
  go_enter Try.func30, Try.ntmps30
  have hinf : (Try.prog.info? 3).map (·.size) = some 1 := by kernel_rfl
  have HINF := Lib.hid hinf
  clear hinf
  obtain ⟨z, HZ⟩ := nameIt (Value.int .i64 x)
  have HZ1 : Hid (z.oneCell' = true) := by rw [← HZ.out]; rfl
  rw [HZ.out] at hc0
  simp only [HZ.out] at HFIN
  have hg1 : decide (0 < (0 : Int)) = false := rfl
  have hg2 : decide ((9223372036854775807 : Int) < (N : Int)) = false := hn1
  go_wp2_with fail
  with_reducible refine (HMU.out _).mono ?_
  rintro e w1 ⟨rfl, rfl⟩
  go_upto_region 6 with fail
  obtain ⟨w2, HW2⟩ := nameIt (W.alloc (.cells (madeCells #[.int .i64 0] N) 3))
  obtain ⟨p, HPN⟩ := nameIt W.heap.size
  have hv2 : Vrow 3 p N (fun _ => .int .i64 0) w2 := by rw [← HW2.out]; exact vrow_new W _ _ N HPN.out.symm
  have hb2 : Below W.heap.size W w2 := by rw [← HW2.out]; exact (Below.refl _ _).alloc (Nat.le_refl _) _
  have hbxl : bx < W.heap.size := lt_of_cell hc0
  have hc2 := (hb2.cell (p := ⟨bx, ox, none⟩) hbxl).trans hc0
  have hpp : W.heap.size ≤ p := by have := HPN.out; omega
  have hcp1 : ∀ ty, (Builtin.copy_ #[22, 22] ty #[.slice (some ⟨p, 0, none⟩) N N, .slice (some ⟨bx, ox, none⟩) 1 c]).run Try.prog w2 = .ok (goInt 1) (w2.setCells p 0 [z]) := by
    intro ty
    have h := run_copy_cells (P := Try.prog) w2 22 22 ty 3 p 0 N N ⟨bx, ox, none⟩ 1 c [z] Try.underlying22 HINF.out (by show 1 = min 1 N; omega)
      (fun j v hj => by
        obtain rfl : j = 0 := by
          have := (List.getElem?_eq_some_iff.1 hj).1
          simp at this; exact this
        simp at hj; subst hj
        simpa [Addr.add] using hc2)
      (fun j hj => by rw [hv2.cell (k := 0 + j) (by simp at hj; omega)]; rfl) (fun j _ => hv2.free _) (fun v hv => by simp at hv; subst hv; exact HZ1.out)
    simpa using h
  have hv3 := vrow_cells (x := z) 1 0 _ w2 (by omega) hv2
  have hb3 := below_cells (B := W.heap.size) hpp (List.replicate 1 z) 0 w2 hb2
  rw [show List.replicate 1 z = [z] from rfl] at hv3 hb3
  obtain ⟨w3, HW3⟩ := nameIt (w2.setCells p 0 [z])
  rw [HW3.out] at hcp1 hv3 hb3
  have HV3 : Hid (Vrow 3 p N (fun j => if j < 1 then z else .int .i64 0) w3) := hv3.eq (fun k _ => by
    by_cases h : k < 1
    · rw [if_pos (by omega), if_pos h]
    · rw [if_neg (by omega), if_neg h])
  have HB3 := Lib.hid hb3
  have HPW := Lib.hid hpp
  clear hv2 hv3 hb3 hb2 hc2 hbxl
  go_upto_region 7 with fail
  rw [HW2.out, HPN.out]
  go_wp2_with (at_builtin; refine wpl_copyK _ rfl _ _ 22 22 rfl rfl rfl (hcp1 _) ?_)
  clear hcp1 hc0
  go_loopg [8] N (fun gg v8 wr => ∃ k : Nat, 1 ≤ k ∧ k ≤ N ∧ N - k ≤ gg ∧ v8 = .int .i64 k ∧ Hid (Vrow 3 p N (fun j => if j < k then z else .int .i64 0) wr) ∧ Hid (Below W.heap.size W wr))
  case atStart => exact ⟨1, by omega, by omega, by omega, rfl, HV3, HB3⟩
  case round =>
    clear HV3 HB3
    obtain ⟨k, hk1, hkN, hgk, rfl, HV, HB⟩ := hrel
    obtain ⟨w5, rfl⟩ : ∃ ww : World, ww = wr := ⟨_, rfl⟩
    by_cases hlt : k < N
    · have hlt' : (k : Int) < (N : Int) := by omega
      obtain ⟨m, HM⟩ := nameIt (min k (N - k))
      have hm1 : 1 ≤ m ∧ m ≤ k ∧ k + m ≤ N := by have := HM.out; omega
      have hcp2 : ∀ ty dc sc, (Builtin.copy_ #[22, 22] ty #[.slice (some ⟨p, k, none⟩) (N - k) dc, .slice (some ⟨p, 0, none⟩) k sc]).run Try.prog w5.drew = .ok (goInt (m : Int)) (w5.drew.setCells p k (List.replicate m z)) := by
        intro ty dc sc
        have hv5 := HV.out.keep ((Below.refl _ _).drew)
        have h := run_copy_cells (P := Try.prog) w5.drew 22 22 ty 3 p k (N - k) dc ⟨p, 0, none⟩ k sc (List.replicate m z) Try.underlying22 HINF.out (by rw [List.length_replicate]; exact HM.out.symm)
          (fun j v hj => by
            have hjm : j < m := by have := (List.getElem?_eq_some_iff.1 hj).1; simpa using this
            have hvz : v = z := by rw [List.getElem?_replicate, if_pos hjm] at hj; exact (Option.some.inj hj).symm
            have := hv5.cell (k := j) (by omega)
            rw [if_pos (by omega)] at this
            rw [hvz]
            have e : (⟨p, 0, none⟩ : Addr).add j = ⟨p, j, none⟩ := by unfold Addr.add; by_cases e : j = 0 <;> simp [e]
            rw [e]; exact this)
          (fun j hj => by rw [hv5.cell (k := k + j) (by simp at hj; omega)]; rfl) (fun j _ => hv5.free _) (fun v hv => by rw [List.eq_of_mem_replicate hv]; exact HZ1.out)
        simpa using h
      have hv6 := vrow_cells (x := z) m k _ w5.drew (by omega) (HV.out.keep ((Below.refl _ _).drew))
      have hb6 := below_cells (B := W.heap.size) HPW.out (List.replicate m z) k w5.drew HB.out.drew
      obtain ⟨w6, HW6⟩ := nameIt (w5.drew.setCells p k (List.replicate m z))
      rw [HW6.out] at hcp2 hv6 hb6
      have HV6 : Hid (Vrow 3 p N (fun j => if j < k + m then z else .int .i64 0) w6) := hv6.eq (fun j _ => by
        by_cases h : k ≤ j ∧ j < k + m
        · rw [if_pos h, if_pos h.2]
        · rw [if_neg h]
          by_cases h2 : j < k
          · rw [if_pos h2, if_pos (by omega)]
          · rw [if_neg h2, if_neg (by omega)])
      have HB6 := Lib.hid hb6
      have hk0 : (0 : Int) ≤ (k : Int) := by omega
      have hkN' : (k : Int) ≤ (N : Int) := by omega
      obtain ⟨km, HKM⟩ := nameIt (k + m)
      have hw : IntKind.i64.wrap ((k : Int) + (m : Int)) = (km : Int) := by rw [IntWalk.i64_in _ (by omega), ← HKM.out]; omega
      have hne : ¬ N = k := by omega
      rw [HKM.out] at HV6
      have hkm : 1 ≤ km ∧ km ≤ N ∧ k < km := by have := HKM.out; omega
      clear hv6 hb6 HV HB HM HKM
      go_upto_region 9 with fail
      go_region_law (refine step_copyK rfl _ _ 22 22 rfl (by simp [Act.eval, Act.put]; try rfl) (by simp [Act.eval, Act.put]; try rfl) (hcp2 _ _ _) ?_)
      all_goals first | (go_wp2_with fail
                         go_roundg (N - km)
                         case measure => omega
                         case rel => exact ⟨km, by omega, by omega, by omega, by go_num, HV6, HB6⟩) | fail
    · have hlt' : ¬ (k : Int) < (N : Int) := by omega
      have hke : k = N := by omega
      subst hke
      have HE := Lib.hid (HFIN.out p w5 (HV.out.eq (fun j hj => by rw [if_pos hj])) HPW.out HB.out)
      go_wp2_with fail
      exact HE.out
end Cs
end Go.Proofs.Ytclpmmbclgihbaa
