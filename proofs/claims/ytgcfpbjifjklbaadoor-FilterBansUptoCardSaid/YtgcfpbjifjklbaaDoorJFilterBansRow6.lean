/- A census counter in memory; its readers: has, can, split. census.Counter.Of and List. census.Counter.Of. A table in memory: rows of one-cell values, made from the first to the last. The closing of a table of edges in place; the answers written down. Plain: the passes over the table of lengths end; the counter's table written to. Plain: how many trees of at most so many levels there are. The lengths of words: two ways to reckon them, in plain Lean. Maps that are sets: only 'true' is stored. Keys of rules, as RuleFault makes them: plain law. The contract of RuleFault: it is gram.Check's. The contract of Groups' inner function: what is derived from a nonterminal. The contract of approx.derives. lens.Set: what its rounds keep. Items as keys of a map. A row of the call's own that is also cut at its front: append to it. lengthsOf: its boxes, its two rows of items, and its set. The walk of lengthsOf's inner function. lengthsOf: what a round adds, in plain Lean. The contract of grid, of truth values. lengthsOf: what its rounds keep. parlref5.lister.fits. A row of one-cell values in memory, written in place. The contract of grid, of whole numbers. What parlref5.heights.row keeps. census.Counter.loops. census.Make. parlref5.heights in memory. slices.Repeat of one number, at most 40 times (RepN turned). filter.levels. -/
import Derived.Test.YtgcfpbjifjklbaaDoorJFilterBansRow5
import Derived.Test.YtgcfpbjifjklbaaDoorJFilterBansRow2
import Derived.Test.YtgcfpbjifjklbaaDoorJFilterBansRow1
import Derived.BigQuiet
import Derived.Deep.RegionHeld3
import Derived.StillTailTactics
import Derived.Lib.MinMax
import Derived.Maps.OwnSet
import Derived.Maps.Views
import Derived.Deep.DeepCutAuto
import Derived.DeepKeys4
import Derived.Deep.OwnRows
import Derived.Deep.LoopGhost
import Derived.Test.YtgcfpbjifjklbaaDoorJFilterBansRow4
namespace Go.Proofs.YtgcfpbjifjklbaaDoor
open Go.RowKit
namespace Cs
structure Cid where
  cb : Nat
  b1 : Nat
  b2 : Nat
  b3 : Nat
  b4 : Nat
  ts : Nat
  tm : Nat
  tc : Nat
  ks : Nat
  km : Nat
  kc : Nat
  rs : Nat → Nat
  rm : Nat → Nat
  rc : Nat → Nat
structure CI (g : Gram) (vr : Value) (N n : Nat) (d : Cid) (S M : Nat → Nat → Bool) (C : Nat → Nat → Int) (W : World) : Prop where
  box : ∃ T, W.heap[d.cb]? = some (.cells #[.int .i64 g.terms, .int .i64 g.nons, .int .i64 g.start, vr, .int .i64 (n : Int), .slice (some ⟨d.ts, 0, none⟩) N d.ks, .slice (some ⟨d.tm, 0, none⟩) N d.km, .slice (some ⟨d.tc, 0, none⟩) N d.kc] T (0, 0))
  some' : Tb 4 d.b1 d.b2 d.ts N (n + 1) d.rs (fun a k => .bool (S a k)) W
  many : Tb 4 d.b2 d.b3 d.tm N (n + 1) d.rm (fun a k => .bool (M a k)) W
  cnt : Tb 3 d.b3 d.b4 d.tc N (n + 1) d.rc (fun a k => .int .i64 (C a k)) W
  le : d.b4 ≤ d.cb
section
variable {g : Gram} {vr : Value} {N n : Nat} {d : Cid} {S M : Nat → Nat → Bool} {C : Nat → Nat → Int} {W W' : World}
theorem CI.lt (h : CI g vr N n d S M C W) : d.cb < W.heap.size := by obtain ⟨T, h⟩ := h.box; exact (Array.getElem?_eq_some_iff.1 h).1
theorem CI.keep (h : CI g vr N n d S M C W) (hb : Below W.heap.size W W') : CI g vr N n d S M C W' := by
  have hlt := h.lt
  obtain ⟨⟨T, h1⟩, h2, h3, h4, h5⟩ := h
  have p2 := h2.pl
  have p3 := h3.pl
  have p4 := h4.pl
  exact ⟨⟨T, bx_keep h1 hb⟩, h2.keep (by omega) hb, h3.keep (by omega) hb, h4.keep (by omega) hb, h5⟩
end
def okS (N : Nat) (s : Sym) : Prop := s.term = false → 0 ≤ s.n ∧ s.n.toNat < N
end Cs
end Go.Proofs.YtgcfpbjifjklbaaDoor
namespace Go.Proofs.YtgcfpbjifjklbaaDoor
open Go.RowKit
namespace Cs
structure Fr (N : Nat) (d : Cid) (W W' : World) : Prop where
  os : W'.os = W.os
  tape : W'.tape = W.tape
  output : W'.output = W.output
  size : W.heap.size ≤ W'.heap.size
  block : ∀ k, k < W.heap.size → (∀ a, a < N → d.rc a ≠ k) → W'.heap[k]? = W.heap[k]?
theorem Fr.refl (N : Nat) (d : Cid) (W : World) : Fr N d W W := ⟨rfl, rfl, rfl, Nat.le_refl _, fun _ _ _ => rfl⟩
theorem Fr.trans {N : Nat} {d : Cid} {a b c : World} (h : Fr N d a b) (k : Fr N d b c) : Fr N d a c :=
  ⟨k.os.trans h.os, k.tape.trans h.tape, k.output.trans h.output, Nat.le_trans h.size k.size, fun i hi hn => (k.block i (Nat.lt_of_lt_of_le hi h.size) hn).trans (h.block i hi hn)⟩
theorem Fr.set {N : Nat} {d : Cid} {a k : Nat} (W : World) (ha : a < N) (v : Value) : Fr N d W (W.setCell ⟨d.rc a, k, none⟩ v) :=
  ⟨rfl, rfl, rfl, by simp [World.setCell], fun j _ hn => Below.heap_setCell _ _ _ _ (fun e => hn a ha (by rw [e]))⟩
theorem Fr.below {N : Nat} {d : Cid} {W W' : World} {B : Nat} (h : Fr N d W W') (hB : B ≤ W.heap.size) (hr : ∀ a, a < N → B ≤ d.rc a) : Below B W W' :=
  ⟨h.os, h.tape, h.output, h.size, fun k hk => h.block k (Nat.lt_of_lt_of_le hk hB) (fun a ha e => by have := hr a ha; omega)⟩
structure CS (g : Gram) (vr : Value) (N n : Nat) (d : Cid) (S M : Nat → Nat → Bool) (V : Nat → Nat → Int) (w0 : World) (C : Nat → Nat → Int) (W : World) : Prop where
  ci : CI g vr N n d S M C W
  cv : ∀ a k, a < N → k ≤ n → C a k = -1 ∨ C a k = V a k
  bel : Below w0.heap.size w0 W
  lo : w0.heap.size ≤ d.b1
section
variable {g : Gram} {vr : Value} {N n : Nat} {d : Cid} {S M : Nat → Nat → Bool} {V : Nat → Nat → Int} {w0 : World} {C : Nat → Nat → Int} {W W' : World}
theorem CS.keep (h : CS g vr N n d S M V w0 C W) (hb : Below W.heap.size W W') : CS g vr N n d S M V w0 C W' := ⟨h.ci.keep hb, h.cv, h.bel.trans (hb.mono h.bel.size), h.lo⟩
theorem CS.rc (h : CS g vr N n d S M V w0 C W) : ∀ a, a < N → w0.heap.size ≤ d.rc a ∧ d.rc a < d.cb := fun a ha => by
  have h1 := h.ci.cnt.ne a ha
  have h2 := h.ci.some'.pl
  have h3 := h.ci.many.pl
  have h4 := h.ci.le
  have h5 := h.lo
  omega
theorem CS.store (h : CS g vr N n d S M V w0 C W) {a k : Nat} (ha : a < N) (hk : k ≤ n) : ∃ C', CS g vr N n d S M V w0 C' (W.setCell ⟨d.rc a, k, none⟩ (.int .i64 (V a k))) := by
  refine ⟨fun b l => if b = a ∧ l = k then V a k else C b l, ?_, fun b l hb hl => ?_, ?_, h.lo⟩
  · obtain ⟨⟨T, h1⟩, h2, h3, h4, h5⟩ := h.ci
    have hr := h.rc a ha
    have hne := h4.ne a ha
    have p2 := h2.pl
    have p3 := h3.pl
    refine ⟨⟨T, bx_other h1 (by omega) _ _⟩, h2.other fun j j1 j2 => Below.heap_setCell _ _ _ _ (by show j ≠ d.rc a; omega), h3.other fun j j1 j2 => Below.heap_setCell _ _ _ _ (by show j ≠ d.rc a; omega), ?_, h5⟩
    refine (h4.set ha (show k < n + 1 by omega) (.int .i64 (V a k))).eq fun b l _ _ => ?_
    show (if b = a ∧ l = k then _ else _) = _
    split <;> rfl
  · by_cases e : b = a ∧ l = k
    · rw [if_pos e, e.1, e.2]; exact .inr rfl
    · rw [if_neg e]; exact h.cv b l hb hl
  · exact h.bel.setCell (p := ⟨d.rc a, k, none⟩) (h.rc a ha).1 _
end
end Cs
end Go.Proofs.YtgcfpbjifjklbaaDoor
namespace Go.Proofs.YtgcfpbjifjklbaaDoor
open Go.RowKit
namespace Cs
def okR (N : Nat) (g : Gram) : Prop := ∀ r ∈ g.rules, (∀ s ∈ r.right, okS N s)
end Cs
end Go.Proofs.YtgcfpbjifjklbaaDoor
namespace Go.Proofs.YtgcfpbjifjklbaaDoor
open Go.RowKit
structure Grd (tr te : TypeId) (B bt n m hi : Nat) (rb : Nat → Nat) (val : Nat → Nat → Value) (wr : World) : Prop where
  tb : ∃ cs, wr.heap[bt]? = some (.cells cs tr (0, 0)) ∧ cs.size = n ∧ ∀ k, k < hi → k < n → cs[k]? = some (.slice (some ⟨rb k, 0, none⟩) m m)
  row : ∀ k, k < hi → k < n → ∃ cs, wr.heap[rb k]? = some (.cells cs te (0, 0)) ∧ cs.size = m ∧ ∀ j, j < m → cs[j]? = some (val k j)
  inj : ∀ k k', k < hi → k' < hi → k < n → k' < n → rb k = rb k' → k = k'
  ne : ∀ k, k < hi → k < n → rb k ≠ bt ∧ B ≤ rb k
  bB : B ≤ bt
section
variable {tr te : TypeId} {B bt n m hi : Nat} {rb : Nat → Nat} {val : Nat → Nat → Value} {wr w' : World}
theorem Grd.lt (h : Grd tr te B bt n m hi rb val wr) : bt < wr.heap.size := by
  obtain ⟨cs, h1, _⟩ := h.tb
  exact (Array.getElem?_eq_some_iff.1 h1).1
theorem Grd.rlt (h : Grd tr te B bt n m hi rb val wr) {k : Nat} (hk : k < hi) (hn : k < n) : rb k < wr.heap.size := by
  obtain ⟨cs, h1, _⟩ := h.row k hk hn
  exact (Array.getElem?_eq_some_iff.1 h1).1
theorem Grd.grown {row : Option Nat} (h : Grd tr te B bt n m hi rb val wr) (hg : wr.grownBy w' row) (hr : ∀ k, row = some k → k ≠ bt ∧ ∀ i, i < hi → i < n → rb i ≠ k) : Grd tr te B bt n m hi rb val w' := by
  obtain ⟨⟨cs, h1, h2, h3⟩, h4, h5, h6, h7⟩ := h
  refine ⟨⟨cs, ?_, h2, h3⟩, fun k hk hn => ?_, h5, h6, h7⟩
  · rw [hg.block bt (Array.getElem?_eq_some_iff.1 h1).1 (fun e => (hr bt e.symm).1 rfl)]; exact h1
  · obtain ⟨rs, r1, r2⟩ := h4 k hk hn
    refine ⟨rs, ?_, r2⟩
    rw [hg.block (rb k) (Array.getElem?_eq_some_iff.1 r1).1 (fun e => (hr _ e.symm).2 k hk hn rfl)]; exact r1
theorem Grd.keep (h : Grd tr te B bt n m hi rb val wr) (hb : Below wr.heap.size wr w') : Grd tr te B bt n m hi rb val w' := h.grown (grown_below hb none) (fun k e => by cases e)
theorem Grd.hdr (h : Grd tr te B bt n m hi rb val wr) {k : Nat} (hk : k < hi) (hn : k < n) : wr.cell? ⟨bt, k, none⟩ = some (.slice (some ⟨rb k, 0, none⟩) m m) := by
  obtain ⟨cs, h1, h2, h3⟩ := h.tb
  simp [World.cell?, h1, h3 k hk hn]
theorem Grd.cell (h : Grd tr te B bt n m hi rb val wr) {k j : Nat} (hk : k < hi) (hn : k < n) (hj : j < m) : wr.cell? ⟨rb k, j, none⟩ = some (val k j) := by
  obtain ⟨cs, h1, h2, h3⟩ := h.row k hk hn
  simp [World.cell?, h1, h3 j hj]
theorem Grd.free (h : Grd tr te B bt n m hi rb val wr) {k : Nat} (hk : k < hi) (hn : k < n) (j : Nat) : wr.frozen? ⟨rb k, j, none⟩ = false := by
  obtain ⟨cs, h1, h2, h3⟩ := h.row k hk hn
  simp [World.frozen?, h1]
theorem Grd.hcell (h : Grd tr te B bt n m hi rb val wr) {k : Nat} (hn : k < n) : (∃ v, wr.cell? ⟨bt, k, none⟩ = some v) ∧ wr.frozen? ⟨bt, k, none⟩ = false := by
  obtain ⟨cs, h1, h2, h3⟩ := h.tb
  exact ⟨⟨cs[k]'(by omega), by simp [World.cell?, h1]⟩, by simp [World.frozen?, h1]⟩
theorem Grd.set (h : Grd tr te B bt n m hi rb val wr) {i j : Nat} (hi' : i < hi) (hin : i < n) (hj : j < m) (x : Value) : Grd tr te B bt n m hi rb (fun k l => if k = i ∧ l = j then x else val k l) (wr.setCell ⟨rb i, j, none⟩ x) := by
  obtain ⟨⟨cs, h1, h2, h3⟩, h4, h5, h6, h7⟩ := h
  refine ⟨⟨cs, bx_other h1 (fun e => (h6 i hi' hin).1 e.symm) _ _, h2, h3⟩, fun k hk hn => ?_, h5, h6, h7⟩
  obtain ⟨rs, r1, r2, r3⟩ := h4 k hk hn
  by_cases e : k = i
  · subst e
    refine ⟨rs.setIfInBounds j x, bx_set r1 _ _, by simpa using r2, fun l hl => ?_⟩
    rw [Array.getElem?_setIfInBounds]
    by_cases e2 : j = l
    · subst e2
      rw [if_pos rfl, if_pos (by omega)]; simp
    · rw [if_neg e2, r3 l hl]
      simp [show ¬ l = j from fun h => e2 h.symm]
  · refine ⟨rs, bx_other r1 (fun e2 => e (h5 k i hk hi' hn hin e2)) _ _, r2, fun l hl => ?_⟩
    rw [r3 l hl]; simp [e]
theorem Grd.add {z : Value} (h : Grd tr te B bt n m hi rb (fun _ _ => z) wr) (hi' : hi < n) (hB : B ≤ wr.heap.size) :
    Grd tr te B bt n m (hi + 1) (fun k => if k = hi then wr.heap.size else rb k) (fun _ _ => z) ((wr.alloc (.cells (madeCells #[z] m) te)).setCell ⟨bt, hi, none⟩ (.slice (some ⟨wr.heap.size, 0, none⟩) m m)) := by
  have hbt := h.lt
  have hrl := fun k hk hn => h.rlt (k := k) hk hn
  obtain ⟨⟨cs, h1, h2, h3⟩, h4, h5, h6, h7⟩ := h
  have hba : Below wr.heap.size wr (wr.alloc (.cells (madeCells #[z] m) te)) := (Below.refl _ _).alloc (Nat.le_refl _) _
  refine ⟨⟨cs.setIfInBounds hi (.slice (some ⟨wr.heap.size, 0, none⟩) m m), bx_set (bx_keep h1 hba) _ _, by simpa using h2, fun k hk hn => ?_⟩, fun k hk hn => ?_, fun k k' hk hk' hn hn' e => ?_, fun k hk hn => ?_, h7⟩
  · rw [Array.getElem?_setIfInBounds]
    by_cases e : hi = k
    · subst e
      rw [if_pos rfl, if_pos (by omega)]; simp
    · rw [if_neg e, h3 k (by omega) hn]
      simp [show ¬ k = hi from fun h => e h.symm]
  · by_cases e : k = hi
    · subst e
      refine ⟨madeCells #[z] m, ?_, size_madeCells _ _, fun j hj => made_at _ _ _ hj⟩
      simp only [if_true]
      exact bx_other (bx_new _ _ _ rfl) (by omega) _ _
    · obtain ⟨rs, r1, r2, r3⟩ := h4 k (by omega) hn
      refine ⟨rs, ?_, r2, r3⟩
      simp only [e, if_false]
      exact bx_other (bx_keep r1 hba) (h6 k (by omega) hn).1 _ _
  · by_cases e1 : k = hi <;> by_cases e2 : k' = hi <;> simp only [e1, e2, if_true, if_false] at e ⊢
    · have := hrl k' (by omega) hn'; omega
    · have := hrl k (by omega) hn; omega
    · exact h5 k k' (by omega) (by omega) hn hn' e
  · by_cases e : k = hi
    · subst e; simp only [if_true]; omega
    · simp only [e, if_false]; exact h6 k (by omega) hn
theorem Grd.eq {val' : Nat → Nat → Value} (h : Grd tr te B bt n m hi rb val wr) (he : ∀ k j, k < hi → k < n → j < m → val k j = val' k j) : Grd tr te B bt n m hi rb val' wr := by
  obtain ⟨h1, h4, h5, h6, h7⟩ := h
  refine ⟨h1, fun k hk hn => ?_, h5, h6, h7⟩
  obtain ⟨rs, r1, r2, r3⟩ := h4 k hk hn
  exact ⟨rs, r1, r2, fun j hj => by rw [r3 j hj, he k j hk hn hj]⟩
end
theorem Grd.start (tr te : TypeId) {B n m : Nat} {rb : Nat → Nat} {val : Nat → Nat → Value} {z : Value} (w : World) {bt : Nat} (hb : bt = w.heap.size) (hB : B ≤ w.heap.size) : Grd tr te B bt n m 0 rb val (w.alloc (.cells (madeCells #[z] n) tr)) := by
  subst hb
  exact ⟨⟨_, bx_new _ _ _ rfl, size_madeCells _ _, fun k hk => by omega⟩, fun k hk => by omega, fun k k' hk => by omega, fun k hk => by omega, hB⟩
end Go.Proofs.YtgcfpbjifjklbaaDoor
namespace Go.Proofs.YtgcfpbjifjklbaaDoor
open Go.RowKit
theorem Grd.other {tr te : TypeId} {B bt n m hi : Nat} {rb : Nat → Nat} {val : Nat → Nat → Value} {wr w' : World} (h : Grd tr te B bt n m hi rb val wr) (hs : ∀ k, B ≤ k → w'.heap[k]? = wr.heap[k]?) : Grd tr te B bt n m hi rb val w' := by
  obtain ⟨⟨cs, h1, h2, h3⟩, h4, h5, h6, h7⟩ := h
  refine ⟨⟨cs, by rw [hs _ h7]; exact h1, h2, h3⟩, fun k hk hn => ?_, h5, h6, h7⟩
  obtain ⟨rs, r1, r2⟩ := h4 k hk hn
  exact ⟨rs, by rw [hs _ (h6 k hk hn).2]; exact r1, r2⟩
namespace Cs
section
variable {E : List (Nat × Nat)} {sz k i j a b : Nat}
end
def mc (T : Nat → Nat → Bool) (i j : Nat) : Bool := (i == j || T i j) && T j j
section
variable {T : Nat → Nat → Bool} {sz m i j A k N : Nat}
end
section
variable {g : Gram} {vr : Value} {N n : Nat} {d : Cid} {S M M' : Nat → Nat → Bool} {C : Nat → Nat → Int} {W W' : World}
theorem CI.b2 (h : CI g vr N n d S M C W) : d.b2 ≤ W.heap.size := by
  have := h.lt
  have := h.many.pl
  have := h.cnt.pl
  have := h.le
  omega
end
section
variable {g : Gram} {vr : Value} {N n : Nat} {d : Cid} {S M M' : Nat → Nat → Bool} {C : Nat → Nat → Int} {W wB wr : World} {bt sz : Nat} {rb : Nat → Nat} {F : Nat → Nat → Bool}
end
end Cs
end Go.Proofs.YtgcfpbjifjklbaaDoor
namespace Go.Proofs.YtgcfpbjifjklbaaDoor
open Go.RowKit
namespace Cs
def sumN (f : Nat → Nat) : Nat → Nat
  | 0 => 0
  | n + 1 => sumN f n + f n
end Cs
end Go.Proofs.YtgcfpbjifjklbaaDoor
namespace Go.Proofs.YtgcfpbjifjklbaaDoor
open Go.RowKit
namespace Cs
def cN (o : Sym → Nat → Nat) : List Sym → Nat → Nat
  | [], k => if k = 0 then 1 else 0
  | s :: l, k => sumN (fun i => o s i * cN o l (k - i)) (k + 1)
def oN (c : Nat → Nat → Nat) (s : Sym) (i : Nat) : Nat := if s.term then (if i = 1 then 1 else 0) else c s.n.toNat i
def cR (o : Sym → Nat → Nat) (A : Int) (k : Nat) : List Rule → Nat
  | [] => 0
  | r :: rs => (if r.left = A then cN o r.right k else 0) + cR o A k rs
def cnt (rules : List Rule) : Nat → Nat → Nat → Nat
  | 0, _, _ => 0
  | h + 1, A, k => cR (oN (cnt rules h)) (A : Int) k rules
end Cs
end Go.Proofs.YtgcfpbjifjklbaaDoor
namespace Go.Proofs.YtgcfpbjifjklbaaDoor
open Go.RowKit
namespace Ln
def rt (K : List Rule) (i : Nat) : List Sym := (K[i]?.map Rule.right).getD []
def lft (K : List Rule) (i : Nat) : Int := (K[i]?.map Rule.left).getD 0
inductive It (K : List Rule) : Nat → Nat → Nat → Prop
  | start {i : Nat} : i < K.length → It K i 0 0
  | term {i d l : Nat} {s : Sym} : It K i d l → (rt K i)[d]? = some s → s.term = true → It K i (d + 1) (l + 1)
  | non {i d l j k : Nat} {s : Sym} : It K i d l → (rt K i)[d]? = some s → s.term = false → It K j (rt K j).length k → lft K j = s.n → It K i (d + 1) (l + k)
theorem It.lt {K : List Rule} {i d l : Nat} (h : It K i d l) : i < K.length := by
  induction h with
  | start h => exact h
  | term _ _ _ ih => exact ih
  | non _ _ _ _ _ ih _ => exact ih
theorem It.dot {K : List Rule} {i d l : Nat} (h : It K i d l) : d ≤ (rt K i).length := by
  induction h with
  | start h => omega
  | term _ hs _ _ => have := (List.getElem?_eq_some_iff.1 hs).1; omega
  | non _ hs _ _ _ _ _ => have := (List.getElem?_eq_some_iff.1 hs).1; omega
variable {K : List Rule} {n : Nat} {H : Nat → Nat → Bool}
structure Items (K : List Rule) (n : Nat) (L : List (Nat × Nat × Nat)) (p : Nat) (C : Nat → Nat → Bool) : Prop where
  sound : ∀ x ∈ L, It K x.1 x.2.1 x.2.2 ∧ x.2.2 ≤ n
  nodup : L.Nodup
  start : ∀ i, i < K.length → (i, 0, 0) ∈ L
  csound : ∀ a k, C a k = true → ∃ x ∈ L.take p, x.2.1 = (rt K x.1).length ∧ lft K x.1 = (a : Int) ∧ x.2.2 = k
  full : ∀ x ∈ L.take p, x.2.1 = (rt K x.1).length → C (lft K x.1).toNat x.2.2 = true
  term : ∀ x ∈ L.take p, ∀ s, (rt K x.1)[x.2.1]? = some s → s.term = true → x.2.2 + 1 ≤ n → (x.1, x.2.1 + 1, x.2.2 + 1) ∈ L
  non : ∀ x ∈ L.take p, ∀ s, (rt K x.1)[x.2.1]? = some s → s.term = false → ∀ k, C s.n.toNat k = true → x.2.2 + k ≤ n → (x.1, x.2.1 + 1, x.2.2 + k) ∈ L
end Ln
end Go.Proofs.YtgcfpbjifjklbaaDoor
namespace Go.Proofs.YtgcfpbjifjklbaaDoor
open Go.RowKit
def SetM (P : Program) (k e : TypeId) (b c : Nat) (S : Lit → Bool) (w : World) : Prop :=
  ∃ D : DataW Unit, w.ownsMap P k (plainElem P e) b c D ∧ ∀ (key : Value) (l : Lit), keyOf P k key = some l → D.atKey l (.lit (.bool false)) = .lit (.bool (S l))
section
variable {P : Program} {k e t : TypeId} {b c : Nat} {S : Lit → Bool} {w w' : World}
theorem SetM.kept {row : Option Nat} (h : SetM P k e b c S w) (hg : w.grownBy w' row) (hne : some b ≠ row) : SetM P k e b c S w' := by
  obtain ⟨D, h1, h2⟩ := h
  exact ⟨D, h1.kept hg hne, h2⟩
theorem SetM.keep (h : SetM P k e b c S w) (hb : Below w.heap.size w w') : SetM P k e b c S w' := h.kept (grown_below hb none) (by simp)
theorem SetM.lt (h : SetM P k e b c S w) : b < w.heap.size := by obtain ⟨D, h1, h2⟩ := h; exact h1.lt
theorem SetM.start (P : Program) (k e : TypeId) (w : World) {b : Nat} (hb : b = w.heap.size) {S : Lit → Bool} (hS : ∀ l, S l = false) : SetM P k e b 0 S (w.alloc (.map #[] 0)) := by
  subst hb
  exact ⟨.map [], World.ownsMap_made w _ _ _, fun _ l _ => by simp [DataW.atKey, hS l]⟩
theorem plainElem_bool_inv (he : P.underlying e = some .bool) {v : Value} {z : DataW Unit × List MemPlace} (h : plainElem P e v = some z) : ∃ x, v = .bool x ∧ z = (.lit (.bool x), []) := by
  unfold plainElem at h
  rw [he] at h
  split at h
  · rename_i x _
    cases h
    exact ⟨_, rfl, rfl⟩
  · rename_i h1; cases h1
  · rename_i h1; cases h1
  · cases h
theorem SetM.look (h : SetM P k e b c S w) (hK : Maps.Keyed P k) (ht : P.underlying t = some (.map k e)) (he : P.underlying e = some .bool) (hz : (zeroValue e).run P w = .ok (.bool false) w) {key : Value} {l : Lit} (hkey : keyOf P k key = some l) :
    (Instr.lookup t (.map (some b)) key false).run P w = .ok (.bool (S l)) w := by
  obtain ⟨D, h1, h2⟩ := h
  obtain ⟨v, ps, hrun, hv⟩ := h1.lookup hK ht hz (plainElem_bool he false) hkey
  rw [h2 key l hkey] at hv
  obtain ⟨x, rfl, hx⟩ := plainElem_bool_inv he hv
  simp at hx
  rw [hrun, ← hx.1]
theorem SetM.add (h : SetM P k e b c S w) (hK : Maps.Keyed P k) (ht : P.underlying t = some (.map k e)) (he : P.underlying e = some .bool) (hc : c < maxLen) {key : Value} {l : Lit} (hkey : keyOf P k key = some l) {S' : Lit → Bool} (hS : S' l = true) (hO : ∀ l', l' ≠ l → S' l' = S l') :
    ∃ w', (Instr.mapUpdate t (.map (some b)) key (.bool true)).run P w = .ok () w' ∧ SetM P k e b (c + 1) S' w' ∧ w.grownBy w' (some b) := by
  obtain ⟨D, h1, h2⟩ := h
  obtain ⟨w', hrun, ho, ht'⟩ := h1.store hK ht hc hkey (plainElem_bool he true)
  refine ⟨w', hrun, ⟨_, ho, fun key' l' hk' => ?_⟩, ht'.grown⟩
  by_cases el : l' = l
  · subst el
    rw [Go.Maps.atKey_put_same h1.isMap (hK.key hkey), hS]
  · rw [Go.Maps.atKey_put_other el, h2 key' l' hk', hO l' el]
end
end Go.Proofs.YtgcfpbjifjklbaaDoor
namespace Go.Proofs.YtgcfpbjifjklbaaDoor
open Go.RowKit
def symB (s : Sym) : List UInt8 := [if s.term then 116 else 110, UInt8.ofNat s.n.toNat]
def keyB (l : Int) (ss : List Sym) : List UInt8 := UInt8.ofNat l.toNat :: ss.flatMap symB
def small (n : Int) : Prop := 0 ≤ n ∧ n < 10
def okR (r : Rule) : Prop := small r.left ∧ ∀ s ∈ r.right, small s.n
def keysOf (l : List Rule) : Lit → Bool
  | .string b => l.any fun r => keyB r.left r.right == b
  | _ => false
def Bts (s : ByteArray) (l : List UInt8) : Prop := s.data.toList = l
theorem Bts.app {s t : ByteArray} {l m : List UInt8} (h : Bts s l) (k : Bts t m) : Bts (s ++ t) (l ++ m) := by
  unfold Bts at *
  rw [ByteArray.data_append, Array.toList_append, h, k]
theorem Bts.size {s : ByteArray} {l : List UInt8} (h : Bts s l) : s.size = l.length := by
  unfold Bts at h
  rw [← h]; rfl
end Go.Proofs.YtgcfpbjifjklbaaDoor
namespace Go.Proofs.YtgcfpbjifjklbaaDoor
open Go.RowKit
abbrev StrSet (b c : Nat) (S : Lit → Bool) (w : World) : Prop := SetM Tryd.prog 9 4 b c S w
structure FltI (w0 : World) (mb : Nat) (g : Gram) (K : List Rule) (i : Nat) (wr : World) : Prop where
  set : StrSet mb i (keysOf (K.take i)) wr
  bel : Below w0.heap.size w0 wr
  lo : w0.heap.size ≤ mb
  ok : ∀ r ∈ K.take i, okR r
  flt : faultsFrom g i (K.drop i) = faultsFrom g 0 K
end Go.Proofs.YtgcfpbjifjklbaaDoor
namespace Go.Proofs.YtgcfpbjifjklbaaDoor
open Go.RowKit
end Go.Proofs.YtgcfpbjifjklbaaDoor
namespace Go.Proofs.YtgcfpbjifjklbaaDoor
open Go.RowKit
section
variable {w : World} {bt N : Nat} {G : Array Value} {rb : Nat → Nat} {hi : Nat} {val val' : Nat → Nat → Bool} {wr w' : World}
end
end Go.Proofs.YtgcfpbjifjklbaaDoor
namespace Go.Proofs.YtgcfpbjifjklbaaDoor
open Go.RowKit
namespace Ln
def Brow (g m : Nat) (A : Nat → Bool) (wr : World) : Prop := ∃ cs, wr.heap[g]? = some (.cells cs 4 (0, 0)) ∧ cs.size = m ∧ ∀ k, k < m → cs[k]? = some (.bool (A k))
section
variable {g m : Nat} {A A' : Nat → Bool} {wr w' : World}
theorem Brow.lt (h : Brow g m A wr) : g < wr.heap.size := by obtain ⟨cs, h1, _⟩ := h; exact (Array.getElem?_eq_some_iff.1 h1).1
theorem Brow.keep (h : Brow g m A wr) (hb : Below wr.heap.size wr w') : Brow g m A w' := by obtain ⟨cs, h1, h2⟩ := h; exact ⟨cs, bx_keep h1 hb, h2⟩
theorem Brow.cell (h : Brow g m A wr) {k : Nat} (hk : k < m) : wr.cell? ⟨g, k, none⟩ = some (.bool (A k)) := by obtain ⟨cs, h1, h2, h3⟩ := h; simp [World.cell?, h1, h3 k hk]
theorem Brow.free (h : Brow g m A wr) (k : Nat) : wr.frozen? ⟨g, k, none⟩ = false := by obtain ⟨cs, h1, h2, h3⟩ := h; simp [World.frozen?, h1]
theorem Brow.eq (h : Brow g m A wr) (he : ∀ k, k < m → A k = A' k) : Brow g m A' wr := by obtain ⟨cs, h1, h2, h3⟩ := h; exact ⟨cs, h1, h2, fun k hk => by rw [h3 k hk, he k hk]⟩
theorem Brow.set (h : Brow g m A wr) {j : Nat} (hj : j < m) (he : ∀ k, k < m → A' k = if k = j then true else A k) : Brow g m A' (wr.setCell ⟨g, j, none⟩ (.bool true)) := by
  obtain ⟨cs, h1, h2, h3⟩ := h
  refine ⟨cs.setIfInBounds j (.bool true), bx_set h1 _ _, by simpa using h2, fun k hk => ?_⟩
  rw [Array.getElem?_setIfInBounds, he k hk]
  by_cases e : j = k
  · subst e; rw [if_pos rfl, if_pos (by omega)]; simp
  · rw [if_neg e, h3 k hk, if_neg (fun h => e h.symm)]
theorem Brow.other (h : Brow g m A wr) {b : Nat} (hne : g ≠ b) (j : Nat) (v : Value) : Brow g m A (wr.setCell ⟨b, j, none⟩ v) := by obtain ⟨cs, h1, h2⟩ := h; exact ⟨cs, bx_other h1 hne _ _, h2⟩
end
section
variable {w : World} {bt N m : Nat} {G : Array Value} {rb : Nat → Nat} {hi : Nat} {H H' : Nat → Nat → Bool} {wr w' : World}
end
def cells (N m : Nat) : List (Nat × Nat) := (List.range N).flatMap fun a => (List.range m).map fun b => (a, b)
end Ln
end Go.Proofs.YtgcfpbjifjklbaaDoor
namespace Go.Proofs.YtgcfpbjifjklbaaDoor
open Go.RowKit
namespace Ln
def itL (a b c : Nat) : Lit := .string (keyBytes [.int .i64 a, .int .i64 b, .int .i64 c])
end Ln
end Go.Proofs.YtgcfpbjifjklbaaDoor
namespace Go.Proofs.YtgcfpbjifjklbaaDoor
open Go.RowKit
def ownsQ (w : World) (B : Nat) (e : TypeId) (size : Nat) (v : Value) (n : Nat) (xs : List Value) : Prop :=
  xs.length = n * size ∧
  ((v = .slice none 0 0 ∧ n = 0) ∨
   ∃ g off cap cur, v = .slice (some ⟨g, off, none⟩) n cap ∧ B ≤ g ∧ w.heap[g]? = some (.cells cur e (0, 0)) ∧ n ≤ cap ∧ cap ≤ maxLen ∧ off + cap * size ≤ cur.size ∧ (cur.toList.drop off).take (n * size) = xs)
section
variable {w w' : World} {B : Nat} {e : TypeId} {size : Nat} {v : Value} {n : Nat} {xs : List Value}
theorem ownsQ.lt (h : ownsQ w B e size v n xs) : ∀ k, v.ownBlock = some k → B ≤ k ∧ k < w.heap.size := by
  intro k hk
  rcases h.2 with ⟨rfl, _⟩ | ⟨g, off, cap, cur, rfl, a, b, _⟩
  · cases hk
  · cases hk; exact ⟨a, (Array.getElem?_eq_some_iff.1 b).1⟩
theorem ownsQ.other {row : Option Nat} (h : ownsQ w B e size v n xs) (hg : w.grownBy w' row) (hne : ∀ k, v.ownBlock = some k → row ≠ some k) : ownsQ w' B e size v n xs := by
  have hlt := h.lt
  obtain ⟨h1, h2⟩ := h
  refine ⟨h1, ?_⟩
  rcases h2 with h2 | ⟨g, off, cap, cur, rfl, a, b, r⟩
  · exact .inl h2
  · exact .inr ⟨g, off, cap, cur, rfl, a, (hg.block g (hlt g rfl).2 (fun e => hne g rfl e.symm)).trans b, r⟩
theorem ownsQ.keep (h : ownsQ w B e size v n xs) (hb : Below w.heap.size w w') : ownsQ w' B e size v n xs := h.other (grown_below hb none) (fun k _ e => by cases e)
theorem ownsQ.form (h : ownsQ w B e size v n xs) : ∃ a cap, v = .slice a n cap ∧ n ≤ cap ∧ cap ≤ maxLen := by
  rcases h.2 with ⟨rfl, rfl⟩ | ⟨g, off, cap, cur, rfl, _, _, h1, h2, _⟩
  · exact ⟨_, _, rfl, by simp, by simp⟩
  · exact ⟨_, _, rfl, h1, h2⟩
theorem ownsQ.cells (h : ownsQ w B e size v n xs) (hn : 0 < n) : ∃ g off cap, v = .slice (some ⟨g, off, none⟩) n cap ∧ ∀ j u, xs[j]? = some u → w.cell? ⟨g, off + j, none⟩ = some u := by
  rcases h.2 with ⟨_, h0⟩ | ⟨g, off, cap, cur, rfl, _, hh, h1, h2, h3, ht⟩
  · omega
  · refine ⟨g, off, cap, rfl, fun j u hj => ?_⟩
    have hl := h.1
    have hj2 := (List.getElem?_eq_some_iff.1 hj).1
    rw [← ht, List.getElem?_take, if_pos (by omega), List.getElem?_drop] at hj
    simp [World.cell?, hh]
    simpa using hj
theorem ownsQ.tail {g off cap : Nat} {ys : List Value} (h : ownsQ w B e size (.slice (some ⟨g, off, none⟩) (n + 1) cap) (n + 1) (ys ++ xs)) (hy : ys.length = size) (hs : 0 < size) : ownsQ w B e size (.slice (if cap = 1 then some ⟨g, off, none⟩ else some ⟨g, off + size, none⟩) n (cap - 1)) n xs := by
  obtain ⟨h1, h2⟩ := h
  rw [List.length_append, Nat.add_mul, hy] at h1
  refine ⟨by omega, ?_⟩
  rcases h2 with ⟨h2, _⟩ | ⟨g', off', cap', cur, hv, a, b, c, d, f, t⟩
  · cases h2
  · cases hv
    right
    by_cases e1 : cap = 1
    · subst e1
      obtain rfl : n = 0 := by omega
      have hx : xs = [] := List.eq_nil_of_length_eq_zero (by omega)
      refine ⟨g, off, 0, cur, by simp, a, b, by omega, by unfold maxLen; omega, by omega, by simp [hx]⟩
    · refine ⟨g, off + size, cap - 1, cur, by simp [e1], a, b, by omega, by omega, ?_, ?_⟩
      · have : cap * size = size + (cap - 1) * size := by
          obtain ⟨c', rfl⟩ : ∃ c', cap = c' + 1 := ⟨cap - 1, by omega⟩
          simp [Nat.add_mul]; omega
        omega
      · have h3 : (cur.toList.drop off).take (n * size + size) = ys ++ xs := by rw [← t]; congr 1; simp [Nat.add_mul]
        have h4 := congrArg (List.drop size) h3
        have h5 : List.drop size (ys ++ xs) = xs := by rw [← hy]; simp
        rw [List.drop_take, List.drop_drop, h5, Nat.add_sub_cancel] at h4
        exact h4
end
end Go.Proofs.YtgcfpbjifjklbaaDoor
namespace Go.Proofs.YtgcfpbjifjklbaaDoor
open Go.RowKit
namespace Ln
open Classical in
noncomputable def inSet (L : List (Nat × Nat × Nat)) : Lit → Bool := fun l => decide (∃ x ∈ L, itL x.1 x.2.1 x.2.2 = l)
section
variable {B : Nat} {X : Nat → Prop} {A Q L0 : List (Nat × Nat × Nat)} {g0 off0 : Nat} {va vq : Value} {W W1 : World}
theorem ob {g off n cap k : Nat} (h : (Value.slice (some ⟨g, off, none⟩) n cap).ownBlock = some k) : g = k := by simpa [Value.ownBlock] using h
end
open Classical in
noncomputable def addL (n : Nat) (L : List (Nat × Nat × Nat)) (x : Nat × Nat × Nat) : List (Nat × Nat × Nat) := if x.2.2 ≤ n ∧ x ∉ L then L ++ [x] else L
end Ln
end Go.Proofs.YtgcfpbjifjklbaaDoor
namespace Go.Proofs.YtgcfpbjifjklbaaDoor
open Go.RowKit
namespace Ln
section
variable {w2 w3 : World} {s : Nat} {S : Lit → Bool} {b : Nat} {X : Nat → Prop} {A Q L0 : List (Nat × Nat × Nat)} {g0 off0 : Nat} {va vq : Value} {W W1 : World}
end
open Classical in
theorem addL_no {n : Nat} {L : List (Nat × Nat × Nat)} {x : Nat × Nat × Nat} (h : ¬ x.2.2 ≤ n ∨ x ∈ L) : addL n L x = L := by
  unfold addL
  rw [if_neg]
  rintro ⟨h1, h2⟩
  rcases h with h | h
  · exact h h1
  · exact h2 h
open Classical in
theorem addL_yes {n : Nat} {L : List (Nat × Nat × Nat)} {x : Nat × Nat × Nat} (h : x.2.2 ≤ n) (h2 : x ∉ L) : addL n L x = L ++ [x] := by
  unfold addL; rw [if_pos ⟨h, h2⟩]
end Ln
end Go.Proofs.YtgcfpbjifjklbaaDoor
namespace Go.Proofs.YtgcfpbjifjklbaaDoor
open Go.RowKit
namespace Ln
theorem nodup_le : ∀ (l m : List (Nat × Nat × Nat)), l.Nodup → (∀ x ∈ l, x ∈ m) → l.length ≤ m.length
  | [], m, _, _ => by simp
  | a :: l, m, hn, hs => by
    have ha := hs a List.mem_cons_self
    rw [List.nodup_cons] at hn
    have := nodup_le l (m.erase a) hn.2 fun x hx => by
      have hne : x ≠ a := fun e => hn.1 (e ▸ hx)
      exact (List.mem_erase_of_ne hne).2 (hs x (List.mem_cons_of_mem _ hx))
    rw [List.length_erase_of_mem ha] at this
    have : 0 < m.length := List.length_pos_of_mem ha
    simp; omega
def boxL (a b c : Nat) : List (Nat × Nat × Nat) := (List.range a).flatMap fun i => (List.range b).flatMap fun j => (List.range c).map fun k => (i, j, k)
theorem mem_boxL {a b c i j k : Nat} : (i, j, k) ∈ boxL a b c ↔ i < a ∧ j < b ∧ k < c := by
  unfold boxL
  simp only [List.mem_flatMap, List.mem_map, List.mem_range, Prod.mk.injEq]
  constructor
  · rintro ⟨a1, h1, b1, h2, c1, h3, rfl, rfl, rfl⟩; exact ⟨h1, h2, h3⟩
  · rintro ⟨h1, h2, h3⟩; exact ⟨i, h1, j, h2, k, h3, rfl, rfl, rfl⟩
theorem len_flat {α β : Type} (f : α → List β) (m : Nat) : ∀ (l : List α), (∀ x ∈ l, (f x).length = m) → (l.flatMap f).length = l.length * m
  | [], _ => by simp
  | x :: l, h => by
    rw [List.flatMap_cons, List.length_append, h x List.mem_cons_self, len_flat f m l (fun y hy => h y (List.mem_cons_of_mem _ hy)), List.length_cons, Nat.add_mul]; omega
theorem len_boxL (a b c : Nat) : (boxL a b c).length = a * (b * c) := by
  unfold boxL
  rw [len_flat _ (b * c)]
  · simp
  · intro i _
    rw [len_flat _ c]
    · simp
    · intro j _; simp
variable {K : List Rule} {n : Nat}
structure Grow (K : List Rule) (n : Nat) (L0 L : List (Nat × Nat × Nat)) : Prop where
  pre : L0 <+: L
  nodup : L.Nodup
  sound : ∀ x ∈ L, It K x.1 x.2.1 x.2.2 ∧ x.2.2 ≤ n
open Classical in
theorem mem_addL_old {L : List (Nat × Nat × Nat)} {x y : Nat × Nat × Nat} (h : y ∈ L) : y ∈ addL n L x := by
  unfold addL; split
  · exact List.mem_append_left _ h
  · exact h
open Classical in
theorem mem_addL {L : List (Nat × Nat × Nat)} {x : Nat × Nat × Nat} (h : x.2.2 ≤ n) : x ∈ addL n L x := by
  unfold addL
  by_cases hx : x ∈ L
  · rw [if_neg (by simp [hx])]; exact hx
  · rw [if_pos ⟨h, hx⟩]; simp
open Classical in
theorem Grow.add {L0 L : List (Nat × Nat × Nat)} {x : Nat × Nat × Nat} (h : Grow K n L0 L) (hx : It K x.1 x.2.1 x.2.2) : Grow K n L0 (addL n L x) := by
  unfold addL; split
  · rename_i hc
    refine ⟨h.pre.trans (List.prefix_append _ _), ?_, ?_⟩
    · rw [List.nodup_append]
      refine ⟨h.nodup, by simp, ?_⟩
      intro a ha b hb e
      simp at hb
      subst hb; subst e
      exact hc.2 ha
    · intro y hy
      rcases List.mem_append.1 hy with hy | hy
      · exact h.sound y hy
      · simp at hy; subst hy; exact ⟨hx, hc.1⟩
  · exact h
theorem Grow.len {L0 L : List (Nat × Nat × Nat)} (h : Grow K n L0 L) (hK : K.length ≤ 32) (hr : ∀ i, (rt K i).length ≤ 4) (hn : n ≤ 400) : L.length ≤ 64160 := by
  have h1 := nodup_le L (boxL 32 5 401) h.nodup (fun x hx => by
    obtain ⟨h1, h2⟩ := h.sound x hx
    have h3 := h1.lt
    have h4 := h1.dot
    have h5 := hr x.1
    obtain ⟨i, j, k⟩ := x
    simp only at h2 h3 h4 h5
    exact mem_boxL.2 ⟨by omega, by omega, by omega⟩)
  rw [len_boxL] at h1
  omega
theorem Grow.refl {L : List (Nat × Nat × Nat)} (h1 : L.Nodup) (h2 : ∀ x ∈ L, It K x.1 x.2.1 x.2.2 ∧ x.2.2 ≤ n) : Grow K n L L := ⟨List.prefix_refl _, h1, h2⟩
theorem Items.next {L L' : List (Nat × Nat × Nat)} {p : Nat} {C C' : Nat → Nat → Bool} (h : Items K n L p C) (hp : p < L.length) {x : Nat × Nat × Nat} (hx : L[p] = x) (hg : Grow K n L L')
    (hc : ∀ a k, C' a k = true → C a k = true ∨ (x.2.1 = (rt K x.1).length ∧ lft K x.1 = (a : Int) ∧ x.2.2 = k))
    (hf0 : ∀ a k, C a k = true → C' a k = true)
    (hf : x.2.1 = (rt K x.1).length → C' (lft K x.1).toNat x.2.2 = true)
    (ht : ∀ s, (rt K x.1)[x.2.1]? = some s → s.term = true → x.2.2 + 1 ≤ n → (x.1, x.2.1 + 1, x.2.2 + 1) ∈ L')
    (hn : ∀ s, (rt K x.1)[x.2.1]? = some s → s.term = false → ∀ k, C' s.n.toNat k = true → x.2.2 + k ≤ n → (x.1, x.2.1 + 1, x.2.2 + k) ∈ L')
    (hn2 : ∀ y ∈ L, ∀ s, (rt K y.1)[y.2.1]? = some s → s.term = false → ∀ k, C' s.n.toNat k = true → C s.n.toNat k = false → y.2.2 + k ≤ n → (y.1, y.2.1 + 1, y.2.2 + k) ∈ L') : Items K n L' (p + 1) C' := by
  obtain ⟨t, rfl⟩ := hg.pre
  have htk : (L ++ t).take (p + 1) = L.take p ++ [x] := by
    rw [List.take_append_of_le_length (by omega), List.take_succ_eq_append_getElem hp, hx]
  refine ⟨hg.sound, hg.nodup, fun i hi => List.mem_append_left _ (h.start i hi), ?_, ?_, ?_, ?_⟩
  · intro a k hk
    rw [htk]
    rcases hc a k hk with h1 | ⟨h1, h2, h3⟩
    · obtain ⟨y, hy, h2⟩ := h.csound a k h1
      exact ⟨y, List.mem_append_left _ hy, h2⟩
    · exact ⟨x, by simp, h1, h2, h3⟩
  · intro y hy
    rw [htk] at hy
    rcases List.mem_append.1 hy with hy | hy
    · exact fun e => hf0 _ _ (h.full y hy e)
    · simp at hy; subst hy; exact hf
  · intro y hy
    rw [htk] at hy
    rcases List.mem_append.1 hy with hy | hy
    · exact fun s h1 h2 h3 => List.mem_append_left _ (h.term y hy s h1 h2 h3)
    · simp at hy; subst hy; exact ht
  · intro y hy
    rw [htk] at hy
    rcases List.mem_append.1 hy with hy | hy
    · intro s h1 h2 k h3 h4
      cases e : C s.n.toNat k with
      | true => exact List.mem_append_left _ (h.non y hy s h1 h2 k e h4)
      | false => exact hn2 y (List.mem_of_mem_take hy) s h1 h2 k h3 e h4
    · simp at hy; subst hy; exact hn
open Classical in
theorem Items.termN {L : List (Nat × Nat × Nat)} {p i d l : Nat} {C : Nat → Nat → Bool} {s : Sym} (h : Items K n L p C) (hp : p < L.length) (hx : L[p] = (i, d, l)) (hs : (rt K i)[d]? = some s) (ht : s.term = true) : Items K n (addL n L (i, d + 1, l + 1)) (p + 1) C := by
  have hit := (h.sound _ (List.getElem_mem hp)).1
  rw [hx] at hit
  refine h.next hp hx ((Grow.refl h.nodup h.sound).add (.term hit hs ht)) (fun _ _ h => .inl h) (fun _ _ h => h) (fun e => ?_) (fun s' hs' ht' hl => mem_addL hl) (fun s' hs' ht' k _ _ => ?_) (fun y _ s _ _ k h1 h2 _ => by rw [h1] at h2; cases h2)
  · have := (List.getElem?_eq_some_iff.1 hs).1; simp only at e; omega
  · simp only at hs'
    rw [hs] at hs'; cases hs'; rw [ht] at ht'; cases ht'
end Ln
end Go.Proofs.YtgcfpbjifjklbaaDoor
namespace Go.Proofs.YtgcfpbjifjklbaaDoor
open Go.RowKit
namespace Ln
end Ln
end Go.Proofs.YtgcfpbjifjklbaaDoor
namespace Go.Proofs.YtgcfpbjifjklbaaDoor
open Go.RowKit
namespace Ln
theorem Grd.same {tr te : TypeId} {B bt n m hi : Nat} {rb : Nat → Nat} {val : Nat → Nat → Value} {wr w' : World} (h : Grd tr te B bt n m hi rb val wr) (h1 : w'.heap[bt]? = wr.heap[bt]?) (h2 : ∀ i, i < hi → i < n → w'.heap[rb i]? = wr.heap[rb i]?) : Grd tr te B bt n m hi rb val w' := by
  obtain ⟨⟨cs, k1, k2⟩, k3, k4, k5, k6⟩ := h
  refine ⟨⟨cs, h1.trans k1, k2⟩, fun k hk hn => ?_, k4, k5, k6⟩
  obtain ⟨rs, r1, r2⟩ := k3 k hk hn
  exact ⟨rs, (h2 k hk hn).trans r1, r2⟩
section
variable {w2 : World} {nb s n : Nat} {X X' : Nat → Prop} {L L0 : List (Nat × Nat × Nat)} {p g0 off0 : Nat} {wr w' : World}
end
section
variable {w : World} {s n N : Nat} {G : Array Value} {bt : Nat} {rb : Nat → Nat} {X X' : Nat → Prop} {L L' : List (Nat × Nat × Nat)} {p : Nat} {L0 : List (Nat × Nat × Nat)} {g0 off0 : Nat} {C C' : Nat → Nat → Bool} {wr w' : World}
end
end Ln
end Go.Proofs.YtgcfpbjifjklbaaDoor
namespace Go.Proofs.YtgcfpbjifjklbaaDoor
open Go.RowKit
namespace Cs
structure FI (W : World) (sx : Nat) (SB : Array Value) (ga : Nat) (A : Nat → Bool) (gn : Nat) (M : Nat → Bool) (m : Nat) (wr : World) : Prop where
  bel : Below W.heap.size W wr
  sbox : wr.heap[sx]? = some (.cells SB 60 (0, 0))
  arow : Ln.Brow ga m A wr
  nrow : Ln.Brow gn m M wr
  ne : W.heap.size ≤ gn ∧ gn ≠ sx ∧ gn ≠ ga
section
variable {W : World} {sx : Nat} {SB : Array Value} {ga : Nat} {A : Nat → Bool} {gn : Nat} {M M' : Nat → Bool} {m : Nat} {wr w' : World}
theorem FI.eq (h : FI W sx SB ga A gn M m wr) (he : ∀ k, k < m → M k = M' k) : FI W sx SB ga A gn M' m wr := ⟨h.bel, h.sbox, h.arow, h.nrow.eq he, h.ne⟩
theorem FI.keep (h : FI W sx SB ga A gn M m wr) (hb : Below wr.heap.size wr w') : FI W sx SB ga A gn M m w' := ⟨h.bel.trans (hb.mono h.bel.size), bx_keep h.sbox hb, h.arow.keep hb, h.nrow.keep hb, h.ne⟩
theorem Brow.setV (h : Ln.Brow gn m M wr) {j : Nat} {x : Bool} (hj : j < m) (he : ∀ k, k < m → M' k = if k = j then x else M k) : Ln.Brow gn m M' (wr.setCell ⟨gn, j, none⟩ (.bool x)) := by
  obtain ⟨cs, h1, h2, h3⟩ := h
  refine ⟨cs.setIfInBounds j (.bool x), bx_set h1 _ _, by simpa using h2, fun k hk => ?_⟩
  rw [Array.getElem?_setIfInBounds, he k hk]
  by_cases e : j = k
  · subst e; rw [if_pos rfl, if_pos (by omega)]; simp
  · rw [if_neg e, h3 k hk, if_neg (fun h => e h.symm)]
theorem FI.set (h : FI W sx SB ga A gn M m wr) {j : Nat} {x : Bool} (hj : j < m) (he : ∀ k, k < m → M' k = if k = j then x else M k) : FI W sx SB ga A gn M' m (wr.setCell ⟨gn, j, none⟩ (.bool x)) := by
  obtain ⟨h1, h2, h3, h4, e1, e2, e3⟩ := h
  exact ⟨h1.setCell (p := ⟨gn, j, none⟩) e1 _, bx_other h2 (fun e => e2 e.symm) _ _, h3.other (fun e => e3 e.symm) _ _, Brow.setV h4 hj he, e1, e2, e3⟩
end
end Cs
end Go.Proofs.YtgcfpbjifjklbaaDoor
namespace Go.Proofs.YtgcfpbjifjklbaaDoor
open Go.RowKit
theorem made_atV (z : Value) (n j : Nat) (h : j < n) : (madeCells #[z] n)[j]? = some z := by
  simp [madeCells, h, Nat.mod_one]
def Vrow (e : TypeId) (g m : Nat) (A : Nat → Value) (wr : World) : Prop := ∃ cs, wr.heap[g]? = some (.cells cs e (0, 0)) ∧ cs.size = m ∧ ∀ k, k < m → cs[k]? = some (A k)
section
variable {e : TypeId} {g m : Nat} {A A' : Nat → Value} {wr w' : World}
theorem Vrow.lt (h : Vrow e g m A wr) : g < wr.heap.size := by obtain ⟨cs, h1, _⟩ := h; exact (Array.getElem?_eq_some_iff.1 h1).1
theorem Vrow.keep (h : Vrow e g m A wr) (hb : Below wr.heap.size wr w') : Vrow e g m A w' := by obtain ⟨cs, h1, h2⟩ := h; exact ⟨cs, bx_keep h1 hb, h2⟩
theorem Vrow.grown {row : Option Nat} (h : Vrow e g m A wr) (hg : wr.grownBy w' row) (hr : row ≠ some g) : Vrow e g m A w' := by obtain ⟨cs, h1, h2⟩ := h; exact ⟨cs, (hg.block g (Array.getElem?_eq_some_iff.1 h1).1 (fun e => hr e.symm)).trans h1, h2⟩
theorem Vrow.cell (h : Vrow e g m A wr) {k : Nat} (hk : k < m) : wr.cell? ⟨g, k, none⟩ = some (A k) := by obtain ⟨cs, h1, h2, h3⟩ := h; simp [World.cell?, h1, h3 k hk]
theorem Vrow.free (h : Vrow e g m A wr) (k : Nat) : wr.frozen? ⟨g, k, none⟩ = false := by obtain ⟨cs, h1, h2, h3⟩ := h; simp [World.frozen?, h1]
theorem Vrow.eq (h : Vrow e g m A wr) (he : ∀ k, k < m → A k = A' k) : Vrow e g m A' wr := by obtain ⟨cs, h1, h2, h3⟩ := h; exact ⟨cs, h1, h2, fun k hk => by rw [h3 k hk, he k hk]⟩
theorem Vrow.set (h : Vrow e g m A wr) {j : Nat} {x : Value} (hj : j < m) (he : ∀ k, k < m → A' k = if k = j then x else A k) : Vrow e g m A' (wr.setCell ⟨g, j, none⟩ x) := by
  obtain ⟨cs, h1, h2, h3⟩ := h
  refine ⟨cs.setIfInBounds j x, bx_set h1 _ _, by simpa using h2, fun k hk => ?_⟩
  rw [Array.getElem?_setIfInBounds, he k hk]
  by_cases e : j = k
  · subst e; rw [if_pos rfl, if_pos (by omega)]; simp
  · rw [if_neg e, h3 k hk, if_neg (fun h => e h.symm)]
theorem Vrow.other (h : Vrow e g m A wr) {b : Nat} (hne : g ≠ b) (j : Nat) (v : Value) : Vrow e g m A (wr.setCell ⟨b, j, none⟩ v) := by obtain ⟨cs, h1, h2⟩ := h; exact ⟨cs, bx_other h1 hne _ _, h2⟩
theorem vrow_new (w : World) (e : TypeId) (z : Value) (m : Nat) {g : Nat} (hg : g = w.heap.size) : Vrow e g m (fun _ => z) (w.alloc (.cells (madeCells #[z] m) e)) := by
  subst hg
  exact ⟨_, bx_new _ _ _ rfl, size_madeCells _ _, fun k hk => made_atV _ _ _ hk⟩
end
end Go.Proofs.YtgcfpbjifjklbaaDoor
namespace Go.Proofs.YtgcfpbjifjklbaaDoor
open Go.RowKit
namespace Df
end Df
end Go.Proofs.YtgcfpbjifjklbaaDoor
namespace Go.Proofs.YtgcfpbjifjklbaaDoor
open Go.RowKit
namespace Cs
def cap9 (x : Nat) : Int := min (x : Int) 1000000000
def cp (X Y z : Nat) : Nat := min (z + 1) X + (if X ≤ z ∧ z < X + Y then 1 else 0)
def ps (o : Sym → Nat → Nat) (l : List Sym) (s : Sym) (X Y z : Nat) : Nat := sumN (fun x => cN o l x * o s (z - x)) (cp X Y z)
structure R3 (B p1 p2 p3 m : Nat) (V1 : Nat → Int) (V2 V3 : Nat → Bool) (W : World) : Prop where
  r1 : Vrow 3 p1 m (fun k => .int .i64 (V1 k)) W
  r2 : Ln.Brow p2 m V2 W
  r3 : Ln.Brow p3 m V3 W
  lo : B ≤ p1 ∧ B ≤ p2 ∧ B ≤ p3
  ne : p1 ≠ p2 ∧ p1 ≠ p3 ∧ p2 ≠ p3
section
variable {B p1 p2 p3 m : Nat} {V1 V1' : Nat → Int} {V2 V3 V2' V3' : Nat → Bool} {W W' : World}
theorem R3.keep (h : R3 B p1 p2 p3 m V1 V2 V3 W) (hb : Below W.heap.size W W') : R3 B p1 p2 p3 m V1 V2 V3 W' := ⟨h.r1.keep hb, h.r2.keep hb, h.r3.keep hb, h.lo, h.ne⟩
theorem R3.other (h : R3 B p1 p2 p3 m V1 V2 V3 W) {q : Nat} (h1 : p1 ≠ q) (h2 : p2 ≠ q) (h3 : p3 ≠ q) (j : Nat) (v : Value) : R3 B p1 p2 p3 m V1 V2 V3 (W.setCell ⟨q, j, none⟩ v) := ⟨h.r1.other h1 j v, h.r2.other h2 j v, h.r3.other h3 j v, h.lo, h.ne⟩
theorem R3.eq (h : R3 B p1 p2 p3 m V1 V2 V3 W) (h1 : ∀ k, k < m → V1 k = V1' k) (h2 : ∀ k, k < m → V2 k = V2' k) (h3 : ∀ k, k < m → V3 k = V3' k) : R3 B p1 p2 p3 m V1' V2' V3' W := ⟨h.r1.eq fun k hk => by rw [h1 k hk], h.r2.eq h2, h.r3.eq h3, h.lo, h.ne⟩
end
end Cs
end Go.Proofs.YtgcfpbjifjklbaaDoor
namespace Go.Proofs.YtgcfpbjifjklbaaDoor
open Go.RowKit
namespace Cs
section
variable {wB : World} {bt sz : Nat} {rb : Nat → Nat} {B2 : Nat} {F : Nat → Nat → Bool} {wr W : World}
end
end Cs
end Go.Proofs.YtgcfpbjifjklbaaDoor
namespace Go.Proofs.YtgcfpbjifjklbaaDoor
open Go.RowKit
namespace Cs
theorem inv_setc {md : Region.Mode} {ops : Array Oper} {n i : Nat} {listed : Array Bool} (inv : HeadInv md ops n listed) (hr : (Region.ready md ops listed).contains i = true) (hin : i < n) : HeadInv md ops n (listed.setIfInBounds i true) := inv.set (by simpa using hr) hin
end Cs
end Go.Proofs.YtgcfpbjifjklbaaDoor
namespace Go.Proofs.YtgcfpbjifjklbaaDoor
open Go.RowKit
namespace Cs
section
variable {P : Program} {ops : Array Oper} {md : Region.Mode} {Q : Exit → Act → World → Prop} {S : World → Prop} {n : Nat}
end
structure Hs where
  hb : Nat
  tm : Nat
  ta : Nat
  tj : Nat
  rm : Nat → Nat
  ra : Nat → Nat
  rj : Nat → Nat
  lo : Nat
  hi : Nat
structure RX (W : World) (sx : Nat) (SB : Array Value) (p1 p2 p3 g1 g2 g3 m : Nat) (V1 : Nat → Int) (V2 V3 : Nat → Bool) (U1 : Nat → Int) (U2 U3 : Nat → Bool) (wr : World) : Prop where
  bel : Below W.heap.size W wr
  sbox : wr.heap[sx]? = some (.cells SB 60 (0, 0))
  pr : R3 W.heap.size p1 p2 p3 m V1 V2 V3 wr
  gr : R3 (sx + 1) g1 g2 g3 m U1 U2 U3 wr
  ps : p1 < sx ∧ p2 < sx ∧ p3 < sx ∧ W.heap.size ≤ sx
section
variable {W : World} {sx : Nat} {SB : Array Value} {p1 p2 p3 g1 g2 g3 m : Nat} {V1 : Nat → Int} {V2 V3 : Nat → Bool} {U1 U1' : Nat → Int} {U2 U3 U2' U3' : Nat → Bool} {wr w' : World}
theorem RX.eq (h : RX W sx SB p1 p2 p3 g1 g2 g3 m V1 V2 V3 U1 U2 U3 wr) (h1 : ∀ k, k < m → U1 k = U1' k) (h2 : ∀ k, k < m → U2 k = U2' k) (h3 : ∀ k, k < m → U3 k = U3' k) : RX W sx SB p1 p2 p3 g1 g2 g3 m V1 V2 V3 U1' U2' U3' wr := ⟨h.bel, h.sbox, h.pr, h.gr.eq h1 h2 h3, h.ps⟩
theorem RX.keep (h : RX W sx SB p1 p2 p3 g1 g2 g3 m V1 V2 V3 U1 U2 U3 wr) (hb : Below wr.heap.size wr w') : RX W sx SB p1 p2 p3 g1 g2 g3 m V1 V2 V3 U1 U2 U3 w' := ⟨h.bel.trans (hb.mono h.bel.size), bx_keep h.sbox hb, h.pr.keep hb, h.gr.keep hb, h.ps⟩
end
def u1 (c : Nat → Nat → Nat) (l : List Sym) (s : Sym) (X Y z : Nat) : Int := cap9 (ps (oN c) l s X Y z)
def u2 (c : Nat → Nat → Nat) (l : List Sym) (s : Sym) (X Y z : Nat) : Bool := decide (0 < ps (oN c) l s X Y z)
def u3 (c c' : Nat → Nat → Nat) (l : List Sym) (s : Sym) (X Y z : Nat) : Bool := decide (ps (oN c') l s X Y z < ps (oN c) l s X Y z)
def v1 (c : Nat → Nat → Nat) (l : List Sym) (z : Nat) : Int := cap9 (cN (oN c) l z)
def v2 (c : Nat → Nat → Nat) (l : List Sym) (z : Nat) : Bool := decide (0 < cN (oN c) l z)
def v3 (c c' : Nat → Nat → Nat) (l : List Sym) (z : Nat) : Bool := decide (cN (oN c') l z < cN (oN c) l z)
end Cs
end Go.Proofs.YtgcfpbjifjklbaaDoor
namespace Go.Proofs.YtgcfpbjifjklbaaDoor
open Go.RowKit
namespace Fb
set_option maxHeartbeats 4000000 in
theorem mul64E (N : Nat) (h2 : N ≤ 40) (W : World) : Calls Tryd.prog 86 #[.int .u64 1, .int .u64 (N : Int)] W fun e w' => e = .returned (.tuple #[.int .u64 0, .int .u64 (N : Int)]) ∧ W = w' := by
  have h : N = 0 ∨ N = 1 ∨ N = 2 ∨ N = 3 ∨ N = 4 ∨ N = 5 ∨ N = 6 ∨ N = 7 ∨ N = 8 ∨ N = 9 ∨ N = 10 ∨ N = 11 ∨ N = 12 ∨ N = 13 ∨ N = 14 ∨ N = 15 ∨ N = 16 ∨ N = 17 ∨ N = 18 ∨ N = 19 ∨ N = 20 ∨ N = 21 ∨ N = 22 ∨ N = 23 ∨ N = 24 ∨ N = 25 ∨ N = 26 ∨ N = 27 ∨ N = 28 ∨ N = 29 ∨ N = 30 ∨ N = 31 ∨ N = 32 ∨ N = 33 ∨ N = 34 ∨ N = 35 ∨ N = 36 ∨ N = 37 ∨ N = 38 ∨ N = 39 ∨ N = 40 := by omega
  rcases h with rfl | rfl | rfl | rfl | rfl | rfl | rfl | rfl | rfl | rfl | rfl | rfl | rfl | rfl | rfl | rfl | rfl | rfl | rfl | rfl | rfl | rfl | rfl | rfl | rfl | rfl | rfl | rfl | rfl | rfl | rfl | rfl | rfl | rfl | rfl | rfl | rfl | rfl | rfl | rfl | rfl <;> (
    go_enter Tryd.func86, Tryd.ntmps86
    go_wp2_with fail
    refine bodyPost_ret (results_tmp2 Tryd.results86 _ _ _) rfl ?_
    exact ⟨rfl, rfl⟩)
set_option maxHeartbeats 4000000 in
theorem mulE (N : Nat) (h2 : N ≤ 40) (W : World) : Calls Tryd.prog 65 #[.int .u64 1, .int .u64 (N : Int)] W fun e w' => e = .returned (.tuple #[.int .u64 0, .int .u64 (N : Int)]) ∧ W = w' := by
  have HM := Lib.hid (mul64E N h2)
  go_enter Tryd.func65, Tryd.ntmps65
  go_wp2_with fail
  with_reducible refine (HM.out _).mono ?_
  rintro e w1 ⟨rfl, rfl⟩
  go_wp2_with fail
  refine bodyPost_ret (results_tmp2 Tryd.results65 _ _ _) rfl ?_
  exact ⟨rfl, rfl⟩
theorem vrow_cells {e : TypeId} {p m : Nat} {x : Value} : ∀ (k o : Nat) (A : Nat → Value) (w : World), o + k ≤ m → Vrow e p m A w → Vrow e p m (fun j => if o ≤ j ∧ j < o + k then x else A j) (w.setCells p o (List.replicate k x))
  | 0, o, A, w, _, h => h.eq (fun j _ => by rw [if_neg (by omega)])
  | k + 1, o, A, w, hk, h => by
    rw [List.replicate_succ]
    show Vrow e p m _ ((w.setCell ⟨p, o, none⟩ x).setCells p (o + 1) (List.replicate k x))
    have h1 := h.set (A' := fun j => if j = o then x else A j) (j := o) (x := x) (by omega) (fun j _ => rfl)
    refine (vrow_cells k (o + 1) _ _ (by omega) h1).eq (fun j _ => ?_)
    by_cases e1 : o + 1 ≤ j ∧ j < o + 1 + k
    · rw [if_pos e1, if_pos (by omega)]
    · rw [if_neg e1]
      by_cases e2 : j = o
      · rw [if_pos e2, if_pos (by omega)]
      · rw [if_neg e2, if_neg (by omega)]
theorem below_cells {B p : Nat} {w0 : World} (hp : B ≤ p) : ∀ (l : List Value) (o : Nat) (w : World), Below B w0 w → Below B w0 (w.setCells p o l)
  | [], _, _, h => h
  | x :: l, o, w, h => below_cells hp l (o + 1) _ (h.setCell (p := ⟨p, o, none⟩) hp x)
set_option maxHeartbeats 4000000 in
set_option maxRecDepth 100000 in
theorem repE (N : Nat) (h1 : 1 ≤ N) (h2 : N ≤ 40) (x : Int) (a : Option Addr) (c : Nat) (W : World) (hs : Sl W (.slice a 1 c) (ints [x])) :
    Calls Tryd.prog 47 #[.slice a 1 c, .int .i64 (N : Int)] W fun e w' => ∃ p, e = .returned (.slice (some ⟨p, 0, none⟩) N N) ∧ Vrow 3 p N (fun _ => .int .i64 x) w' ∧ W.heap.size ≤ p ∧ Below W.heap.size W w' := by
  obtain ⟨PST, HP⟩ := nameIt (fun (e : Ending) (w' : World) => ∃ p, e = .returned (.slice (some ⟨p, 0, none⟩) N N) ∧ Vrow 3 p N (fun _ => .int .i64 x) w' ∧ W.heap.size ≤ p ∧ Below W.heap.size W w')
  rw [HP.out]
  have HFIN : Hid (∀ p w', Vrow 3 p N (fun _ => .int .i64 x) w' → W.heap.size ≤ p → Below W.heap.size W w' → PST (.returned (.slice (some ⟨p, 0, none⟩) N N)) w') := by
    intro p w' q1 q2 q3; rw [← HP.out]; exact ⟨p, rfl, q1, q2, q3⟩
  have HMU := Lib.hid (mulE N h2)
  obtain ⟨bx, ox, hae, hcx⟩ := hs.at (k := 0) (by simp [ints])
  subst hae
  have hc0 : W.cell? ⟨bx, ox, none⟩ = some (.int .i64 x) := by simpa [ints] using hcx 0 (by simp [ints])
  have hmk : ∀ W : World, (Instr.makeSlice 37 (.int .i64 (N : Int)) (.int .i64 (N : Int))).run Tryd.prog W = .ok (.slice (some ⟨W.heap.size, 0, none⟩) N N) (W.alloc (.cells (madeCells #[.int .i64 0] N) 3)) := fun W => by
    have := run_make_row' (P := Tryd.prog) 37 3 (.int .i64 0) 8 Tryd.underlying37 (by kernel_rfl) rfl .i64 .i64 N (by omega) (by omega) W
    simpa using this
  have hn0 : decide ((N : Int) < 0) = false := by simp
  have hn1 : decide ((9223372036854775807 : Int) < (N : Int)) = false := by simp; omega
  clear hcx hs HP
  go_enter Tryd.func47, Tryd.ntmps47
  have hinf : (Tryd.prog.info? 3).map (·.size) = some 1 := by kernel_rfl
  have HINF := Lib.hid hinf
  clear hinf
  obtain ⟨z, HZ⟩ := nameIt (Value.int .i64 x)
  have HZ1 : Hid (z.oneCell' = true) := by rw [← HZ.out]; rfl
  rw [HZ.out] at hc0
  simp only [HZ.out] at HFIN
  have hg1 : decide (0 < (0 : Int)) = false := rfl
  have hg2 : decide ((9223372036854775807 : Int) < (N : Int)) = false := hn1
  go_wp2_with fail
  with_reducible refine (HMU.out _).mono ?_
  rintro e w1 ⟨rfl, rfl⟩
  go_upto_region 6 with fail
  obtain ⟨w2, HW2⟩ := nameIt (W.alloc (.cells (madeCells #[.int .i64 0] N) 3))
  obtain ⟨p, HPN⟩ := nameIt W.heap.size
  have hv2 : Vrow 3 p N (fun _ => .int .i64 0) w2 := by rw [← HW2.out]; exact vrow_new W _ _ N HPN.out.symm
  have hb2 : Below W.heap.size W w2 := by rw [← HW2.out]; exact (Below.refl _ _).alloc (Nat.le_refl _) _
  have hbxl : bx < W.heap.size := lt_of_cell hc0
  have hc2 := (hb2.cell (p := ⟨bx, ox, none⟩) hbxl).trans hc0
  have hpp : W.heap.size ≤ p := by have := HPN.out; omega
  have hcp1 : ∀ ty, (Builtin.copy_ #[37, 37] ty #[.slice (some ⟨p, 0, none⟩) N N, .slice (some ⟨bx, ox, none⟩) 1 c]).run Tryd.prog w2 = .ok (goInt 1) (w2.setCells p 0 [z]) := by
    intro ty
    have h := run_copy_cells (P := Tryd.prog) w2 37 37 ty 3 p 0 N N ⟨bx, ox, none⟩ 1 c [z] Tryd.underlying37 HINF.out (by show 1 = min 1 N; omega)
      (fun j v hj => by
        obtain rfl : j = 0 := by
          have := (List.getElem?_eq_some_iff.1 hj).1
          simp at this; exact this
        simp at hj; subst hj
        simpa [Addr.add] using hc2)
      (fun j hj => by rw [hv2.cell (k := 0 + j) (by simp at hj; omega)]; rfl) (fun j _ => hv2.free _) (fun v hv => by simp at hv; subst hv; exact HZ1.out)
    simpa using h
  have hv3 := vrow_cells (x := z) 1 0 _ w2 (by omega) hv2
  have hb3 := below_cells (B := W.heap.size) hpp (List.replicate 1 z) 0 w2 hb2
  rw [show List.replicate 1 z = [z] from rfl] at hv3 hb3
  obtain ⟨w3, HW3⟩ := nameIt (w2.setCells p 0 [z])
  rw [HW3.out] at hcp1 hv3 hb3
  have HV3 : Hid (Vrow 3 p N (fun j => if j < 1 then z else .int .i64 0) w3) := hv3.eq (fun k _ => by
    by_cases h : k < 1
    · rw [if_pos (by omega), if_pos h]
    · rw [if_neg (by omega), if_neg h])
  have HB3 := Lib.hid hb3
  have HPW := Lib.hid hpp
  clear hv2 hv3 hb3 hb2 hc2 hbxl
  go_upto_region 7 with fail
  rw [HW2.out, HPN.out]
  go_wp2_with (at_builtin; refine wpl_copyK _ rfl _ _ 37 37 rfl rfl rfl (hcp1 _) ?_)
  clear hcp1 hc0
  go_loopg [8] N (fun gg v8 wr => ∃ k : Nat, 1 ≤ k ∧ k ≤ N ∧ N - k ≤ gg ∧ v8 = .int .i64 k ∧ Hid (Vrow 3 p N (fun j => if j < k then z else .int .i64 0) wr) ∧ Hid (Below W.heap.size W wr))
  case atStart => exact ⟨1, by omega, by omega, by omega, rfl, HV3, HB3⟩
  case round =>
    clear HV3 HB3
    obtain ⟨k, hk1, hkN, hgk, rfl, HV, HB⟩ := hrel
    obtain ⟨w5, rfl⟩ : ∃ ww : World, ww = wr := ⟨_, rfl⟩
    by_cases hlt : k < N
    · have hlt' : (k : Int) < (N : Int) := by omega
      obtain ⟨m, HM⟩ := nameIt (min k (N - k))
      have hm1 : 1 ≤ m ∧ m ≤ k ∧ k + m ≤ N := by have := HM.out; omega
      have hcp2 : ∀ ty dc sc, (Builtin.copy_ #[37, 37] ty #[.slice (some ⟨p, k, none⟩) (N - k) dc, .slice (some ⟨p, 0, none⟩) k sc]).run Tryd.prog w5.drew = .ok (goInt (m : Int)) (w5.drew.setCells p k (List.replicate m z)) := by
        intro ty dc sc
        have hv5 := HV.out.keep ((Below.refl _ _).drew)
        have h := run_copy_cells (P := Tryd.prog) w5.drew 37 37 ty 3 p k (N - k) dc ⟨p, 0, none⟩ k sc (List.replicate m z) Tryd.underlying37 HINF.out (by rw [List.length_replicate]; exact HM.out.symm)
          (fun j v hj => by
            have hjm : j < m := by have := (List.getElem?_eq_some_iff.1 hj).1; simpa using this
            have hvz : v = z := by rw [List.getElem?_replicate, if_pos hjm] at hj; exact (Option.some.inj hj).symm
            have := hv5.cell (k := j) (by omega)
            rw [if_pos (by omega)] at this
            rw [hvz]
            have e : (⟨p, 0, none⟩ : Addr).add j = ⟨p, j, none⟩ := by unfold Addr.add; by_cases e : j = 0 <;> simp [e]
            rw [e]; exact this)
          (fun j hj => by rw [hv5.cell (k := k + j) (by simp at hj; omega)]; rfl) (fun j _ => hv5.free _) (fun v hv => by rw [List.eq_of_mem_replicate hv]; exact HZ1.out)
        simpa using h
      have hv6 := vrow_cells (x := z) m k _ w5.drew (by omega) (HV.out.keep ((Below.refl _ _).drew))
      have hb6 := below_cells (B := W.heap.size) HPW.out (List.replicate m z) k w5.drew HB.out.drew
      obtain ⟨w6, HW6⟩ := nameIt (w5.drew.setCells p k (List.replicate m z))
      rw [HW6.out] at hcp2 hv6 hb6
      have HV6 : Hid (Vrow 3 p N (fun j => if j < k + m then z else .int .i64 0) w6) := hv6.eq (fun j _ => by
        by_cases h : k ≤ j ∧ j < k + m
        · rw [if_pos h, if_pos h.2]
        · rw [if_neg h]
          by_cases h2 : j < k
          · rw [if_pos h2, if_pos (by omega)]
          · rw [if_neg h2, if_neg (by omega)])
      have HB6 := Lib.hid hb6
      have hk0 : (0 : Int) ≤ (k : Int) := by omega
      have hkN' : (k : Int) ≤ (N : Int) := by omega
      obtain ⟨km, HKM⟩ := nameIt (k + m)
      have hw : IntKind.i64.wrap ((k : Int) + (m : Int)) = (km : Int) := by rw [IntWalk.i64_in _ (by omega), ← HKM.out]; omega
      have hne : ¬ N = k := by omega
      rw [HKM.out] at HV6
      have hkm : 1 ≤ km ∧ km ≤ N ∧ k < km := by have := HKM.out; omega
      clear hv6 hb6 HV HB HM HKM
      go_upto_region 9 with fail
      go_region_law (refine step_copyK rfl _ _ 37 37 rfl (by simp [Act.eval, Act.put]; try rfl) (by simp [Act.eval, Act.put]; try rfl) (hcp2 _ _ _) ?_)
      all_goals first | (go_wp2_with fail
                         go_roundg (N - km)
                         case measure => omega
                         case rel => exact ⟨km, by omega, by omega, by omega, by go_num, HV6, HB6⟩) | fail
    · have hlt' : ¬ (k : Int) < (N : Int) := by omega
      have hke : k = N := by omega
      subst hke
      have HE := Lib.hid (HFIN.out p w5 (HV.out.eq (fun j hj => by rw [if_pos hj])) HPW.out HB.out)
      go_wp2_with fail
      exact HE.out
set_option maxHeartbeats 4000000 in
set_option maxRecDepth 100000 in
theorem repE0 (x : Int) (a : Option Addr) (c : Nat) (W : World) (hs : Sl W (.slice a 1 c) (ints [x])) :
    Calls Tryd.prog 47 #[.slice a 1 c, .int .i64 (0 : Int)] W fun e w' => ∃ p, e = .returned (.slice (some ⟨p, 0, none⟩) 0 0) ∧ Vrow 3 p 0 (fun _ => .int .i64 x) w' ∧ W.heap.size ≤ p ∧ Below W.heap.size W w' := by
  obtain ⟨PST, HP⟩ := nameIt (fun (e : Ending) (w' : World) => ∃ p, e = .returned (.slice (some ⟨p, 0, none⟩) 0 0) ∧ Vrow 3 p 0 (fun _ => .int .i64 x) w' ∧ W.heap.size ≤ p ∧ Below W.heap.size W w')
  rw [HP.out]
  have HFIN : Hid (∀ p w', Vrow 3 p 0 (fun _ => .int .i64 x) w' → W.heap.size ≤ p → Below W.heap.size W w' → PST (.returned (.slice (some ⟨p, 0, none⟩) 0 0)) w') := by
    intro p w' q1 q2 q3; rw [← HP.out]; exact ⟨p, rfl, q1, q2, q3⟩
  have HMU : Hid (∀ W, Calls Tryd.prog 65 #[.int .u64 1, .int .u64 0] W fun e w' => e = .returned (.tuple #[.int .u64 0, .int .u64 0]) ∧ W = w') := fun W => mulE 0 (by omega) W
  obtain ⟨bx, ox, hae, hcx⟩ := hs.at (k := 0) (by simp [ints])
  subst hae
  have hc0 : W.cell? ⟨bx, ox, none⟩ = some (.int .i64 x) := by simpa [ints] using hcx 0 (by simp [ints])
  have hmk : ∀ W : World, (Instr.makeSlice 37 (.int .i64 (0 : Int)) (.int .i64 (0 : Int))).run Tryd.prog W = .ok (.slice (some ⟨W.heap.size, 0, none⟩) 0 0) (W.alloc (.cells (madeCells #[.int .i64 0] 0) 3)) := fun W => by
    have := run_make_row' (P := Tryd.prog) 37 3 (.int .i64 0) 8 Tryd.underlying37 (by kernel_rfl) rfl .i64 .i64 0 (by omega) (by omega) W
    simpa using this
  have hn0 : decide ((0 : Int) < 0) = false := by simp
  have hn1 : decide ((9223372036854775807 : Int) < (0 : Int)) = false := by simp
  clear hcx hs HP
  go_enter Tryd.func47, Tryd.ntmps47
  have hinf : (Tryd.prog.info? 3).map (·.size) = some 1 := by kernel_rfl
  have HINF := Lib.hid hinf
  clear hinf
  obtain ⟨z, HZ⟩ := nameIt (Value.int .i64 x)
  have HZ1 : Hid (z.oneCell' = true) := by rw [← HZ.out]; rfl
  rw [HZ.out] at hc0
  simp only [HZ.out] at HFIN
  have hg1 : decide (0 < (0 : Int)) = false := rfl
  have hg2 : decide ((9223372036854775807 : Int) < (0 : Int)) = false := hn1
  go_wp2_with fail
  with_reducible refine (HMU.out _).mono ?_
  rintro e w1 ⟨rfl, rfl⟩
  go_upto_region 6 with fail
  obtain ⟨w2, HW2⟩ := nameIt (W.alloc (.cells (madeCells #[.int .i64 0] 0) 3))
  obtain ⟨p, HPN⟩ := nameIt W.heap.size
  have hv2 : Vrow 3 p 0 (fun _ => .int .i64 0) w2 := by rw [← HW2.out]; exact vrow_new W _ _ 0 HPN.out.symm
  have hb2 : Below W.heap.size W w2 := by rw [← HW2.out]; exact (Below.refl _ _).alloc (Nat.le_refl _) _
  have hbxl : bx < W.heap.size := lt_of_cell hc0
  have hc2 := (hb2.cell (p := ⟨bx, ox, none⟩) hbxl).trans hc0
  have hpp : W.heap.size ≤ p := by have := HPN.out; omega
  have hcp1 : ∀ ty, (Builtin.copy_ #[37, 37] ty #[.slice (some ⟨p, 0, none⟩) 0 0, .slice (some ⟨bx, ox, none⟩) 1 c]).run Tryd.prog w2 = .ok (goInt 0) w2 := by
    intro ty
    have h := run_copy_cells (P := Tryd.prog) w2 37 37 ty 3 p 0 0 0 ⟨bx, ox, none⟩ 1 c [] Tryd.underlying37 HINF.out (by show 0 = min 1 0; omega)
      (fun j v hj => by simp at hj) (fun j hj => by simp at hj) (fun j _ => hv2.free _) (fun v hv => by simp at hv)
    simpa [World.setCells] using h
  have HV3 : Hid (Vrow 3 p 0 (fun _ => z) w2) := hv2.eq (fun k hk => by omega)
  have HB3 := Lib.hid hb2
  have HPW := Lib.hid hpp
  clear hv2 hb2 hc2 hbxl
  go_upto_region 7 with fail
  rw [HW2.out, HPN.out]
  go_wp2_with (at_builtin; refine wpl_copyK _ rfl _ _ 37 37 rfl rfl rfl (hcp1 _) ?_)
  clear hcp1 hc0
  go_loopg [8] 0 (fun gg v8 wr => v8 = .int .i64 0 ∧ wr = w2)
  case atStart => exact ⟨rfl, rfl⟩
  case round =>
    obtain ⟨rfl, rfl⟩ := hrel
    have HE := Lib.hid (HFIN.out p wr HV3.out HPW.out HB3.out)
    go_wp2_with fail
    exact HE.out
theorem repA (N : Nat) (h2 : N ≤ 40) (x : Int) (a : Option Addr) (c : Nat) (W : World) (hs : Sl W (.slice a 1 c) (ints [x])) :
    Calls Tryd.prog 47 #[.slice a 1 c, .int .i64 (N : Int)] W fun e w' => ∃ p, e = .returned (.slice (some ⟨p, 0, none⟩) N N) ∧ Vrow 3 p N (fun _ => .int .i64 x) w' ∧ W.heap.size ≤ p ∧ Below W.heap.size W w' := by
  by_cases h : 1 ≤ N
  · exact repE N h h2 x a c W hs
  · obtain rfl : N = 0 := by omega
    exact repE0 x a c W hs
end Fb
end Go.Proofs.YtgcfpbjifjklbaaDoor
namespace Go.Proofs.YtgcfpbjifjklbaaDoor
open Go.RowKit
namespace Fb
structure LvJ (w : World) (p K : Nat) (F : Nat → Int) (wr : World) : Prop where
  row : Vrow 3 p K (fun k => .int .i64 (F k)) wr
  bel : Below w.heap.size w wr
theorem LvJ.keep {w : World} {p K : Nat} {F : Nat → Int} {wr w' : World} (h : LvJ w p K F wr) (hb : Below wr.heap.size wr w') : LvJ w p K F w' := ⟨h.row.keep hb, h.bel.trans (hb.mono h.bel.size)⟩
theorem LvJ.set {w : World} {p K : Nat} {F : Nat → Int} {wr : World} (h : LvJ w p K F wr) (hp : w.heap.size ≤ p) {r : Nat} (hr : r < K) (x : Int) : LvJ w p K (fun k => if k = r then x else F k) (wr.setCell ⟨p, r, none⟩ (.int .i64 x)) := by
  refine ⟨h.row.set hr (fun k hk => ?_), ?_⟩
  · by_cases e : k = r
    · rw [if_pos e, if_pos e]
    · rw [if_neg e, if_neg e]
  · have := below_cells (B := w.heap.size) hp [.int .i64 x] r wr h.bel
    simpa [World.setCells] using this
def OkF (l : List Level) (K i : Nat) (xs s : List Int) (j : Nat) (F : Nat → Int) : Prop :=
  ∀ k, k < K → (0 ≤ F k ↔ (k : Int) ∈ s) ∧ F k = (if (k : Int) ∈ xs.take j then (i : Int) else lvOf (l.take i) k) ∧ ((k : Int) ∈ xs.take j → lvOf (l.take i) k < 0)
def OkG (l : List Level) (K i : Nat) (s : List Int) (F : Nat → Int) : Prop := ∀ k, k < K → (0 ≤ F k ↔ (k : Int) ∈ s) ∧ F k = lvOf (l.take i) k
theorem OkG.start {l : List Level} {K i : Nat} {xs s : List Int} {F : Nat → Int} (h : OkG l K i s F) : OkF l K i xs s 0 F := fun k hk => ⟨(h k hk).1, by simp [(h k hk).2], fun h => by simp at h⟩
theorem OkF.step {l : List Level} {K i : Nat} {xs s : List Int} {j : Nat} {F : Nat → Int} (h : OkF l K i xs s j F) (hj : j < xs.length) {r : Nat} (hr : r < K) (e : xs[j] = (r : Int)) (hn : ¬ 0 ≤ F r) : OkF l K i xs (s ++ [(r : Int)]) (j + 1) (fun k => if k = r then (i : Int) else F k) := by
  intro k hk
  obtain ⟨h1, h2, h3⟩ := h k hk
  dsimp only
  rw [List.take_succ_eq_append_getElem hj, e]
  by_cases ek : k = r
  · subst ek
    rw [if_pos rfl]
    refine ⟨⟨fun _ => by simp, fun _ => by omega⟩, by rw [if_pos (by simp)], fun _ => ?_⟩
    rw [h2] at hn
    by_cases hm : (k : Int) ∈ xs.take j
    · rw [if_pos hm] at hn; omega
    · rw [if_neg hm] at hn; omega
  · rw [if_neg ek]
    have ek' : ¬ (k : Int) = (r : Int) := by omega
    refine ⟨?_, ?_, fun hm => h3 ?_⟩
    · rw [h1]; simp [ek']
    · rw [h2]; simp [ek']
    · simpa [ek'] using hm
theorem OkF.fin {l : List Level} {K i : Nat} {s : List Int} {j : Nat} {F : Nat → Int} (hi : i < l.length) {xs : List Int} (hx : l[i].rules = xs) (h : OkF l K i xs s j F) (hj : xs.length ≤ j) : OkG l K (i + 1) s F := by
  intro k hk
  obtain ⟨h1, h2, h3⟩ := h k hk
  rw [List.take_of_length_le hj] at h2 h3
  refine ⟨h1, ?_⟩
  rw [lvOf_take hi, h2, hx]
  by_cases hm : (k : Int) ∈ xs
  · have := h3 hm
    rw [if_pos hm, if_neg (by omega), if_pos hm]
  · rw [if_neg hm, if_neg hm]
    rcases @lvFrom_ge (l.take i) 0 (k : Int) with h4 | h4
    · unfold lvOf; rw [h4, if_neg (by decide)]
    · unfold lvOf; rw [if_pos (by omega)]
def LevPost (g : Gram) (l : List Level) (W : World) (e : Ending) (w' : World) : Prop :=
  Below W.heap.size W w' ∧ ((levF g l ≠ 0 ∧ e = .returned (.tuple #[.slice none 0 0, .int .i64 (levF g l)])) ∨
    (levF g l = 0 ∧ ∃ p, e = .returned (.tuple #[.slice (some ⟨p, 0, none⟩) g.rules.length g.rules.length, .int .i64 0]) ∧ Vrow 3 p g.rules.length (fun k => .int .i64 (lvOf l k)) w'))
set_option maxHeartbeats 4000000 in
set_option maxRecDepth 100000 in
theorem levelsE (g : Gram) (l : List Level) (ar : Option Addr) (cr : Nat) (la : Option Addr) (lc : Nat) (W : World) (hK : g.rules.length ≤ 32) (hr : Rd AnyB W (.sl (g.rules.map Rule.d)) [.slice ar g.rules.length cr])
    (hl : Rd AnyB W (.sl (l.map Level.d)) [.slice la l.length lc]) :
    Calls Tryd.prog 16 #[.agg #[.int .i64 g.terms, .int .i64 g.nons, .int .i64 g.start, .slice ar g.rules.length cr], .slice la l.length lc] W (LevPost g l W) := by
  obtain ⟨hc1, hc2⟩ := hr.bounds.2
  obtain ⟨hc3, hc4⟩ := hl.bounds.2
  unfold maxLen at hc2 hc4
  obtain ⟨gt, HGT⟩ := nameIt g.terms
  obtain ⟨gn, HGN⟩ := nameIt g.nons
  obtain ⟨gs, HGS⟩ := nameIt g.start
  have HLV : Hid (lvL g.rules.length [] (l.drop 0) = levF g l) := rfl
  obtain ⟨PST, HP⟩ := nameIt (LevPost g l W)
  have HBAD : Hid (∀ e' w', e' = Ending.returned (.tuple #[.slice none 0 0, .int .i64 (levF g l)]) → levF g l ≠ 0 → Below W.heap.size W w' → PST e' w') := by
    intro e' w' h1 h2 h3; rw [← HP.out]; exact ⟨h3, .inl ⟨h2, h1⟩⟩
  have HGOOD : Hid (∀ e' w' p, e' = Ending.returned (.tuple #[.slice (some ⟨p, 0, none⟩) g.rules.length g.rules.length, .int .i64 0]) → levF g l = 0 → Below W.heap.size W w' → Vrow 3 p g.rules.length (fun k => .int .i64 (lvOf l k)) w' → PST e' w') := by
    intro e' w' p h1 h2 h3 h4; rw [← HP.out]; exact ⟨h3, .inr ⟨h2, p, h1, h4⟩⟩
  obtain ⟨q, HQn⟩ := nameIt (levF g l)
  obtain ⟨K, HKn⟩ := nameIt g.rules.length
  obtain ⟨ln, HLNn⟩ := nameIt l.length
  rw [HKn.out, HQn.out] at HLV HGOOD
  rw [HQn.out] at HBAD
  obtain ⟨w0, HW0⟩ := nameIt (W.alloc (.cells #[.int .i64 gt, .int .i64 gn, .int .i64 gs, .slice ar K cr] 24))
  have HB0 : Hid (Below W.heap.size W w0) := by rw [← HW0.out]; exact (Below.refl _ _).alloc (Nat.le_refl _) _
  have X1 : Hid (w0.heap[W.heap.size]? = some (.cells #[.int .i64 gt, .int .i64 gn, .int .i64 gs, .slice ar K cr] 24 (0, 0))) := by rw [← HW0.out]; exact bx_new _ _ _ rfl
  have HLR := Lib.hid (hl.below HB0.out)
  rw [HLNn.out] at HLR hc3
  rw [HKn.out] at hc1 hK
  rw [HGT.out, HGN.out, HGS.out, HKn.out, HLNn.out, HP.out]
  have HS0 : Hid (okSn K []) := ⟨by simp, fun x hx => by cases hx⟩
  have hl1 : W.heap.size < w0.heap.size := (Array.getElem?_eq_some_iff.1 X1.out).1
  obtain ⟨x0, x1, x2, x3⟩ := bx_cells4 X1.out
  obtain ⟨w1, HW1⟩ := nameIt (w0.alloc (.cells #[.int .i64 (-1)] 3))
  have HB1 : Hid (Below w0.heap.size w0 w1) := by rw [← HW1.out]; exact (Below.refl _ _).alloc (Nat.le_refl _) _
  have HREP := Lib.hid (repA K (by omega) (-1) (some ⟨w0.heap.size, 0, none⟩) 1 w1 (by rw [← HW1.out]; exact sl_lit (w := w0) (v := #[.int .i64 (-1)]) rfl (by simp [maxLen])))
  clear hr hl HP
  go_enter Tryd.func16, Tryd.ntmps16
  go_upto_region 1 with fail
  rw [HW0.out]
  clear HW0
  go_wp2_with fail
  rw [HW1.out]
  refine HREP.out.mono ?_
  rintro e w2 ⟨p, rfl, hv2, hp2, hb2⟩
  have hpw : w0.heap.size ≤ p := Nat.le_trans HB1.out.size hp2
  have HI0 : Hid (LvJ w0 p K (fun _ => -1) w2) := ⟨hv2, HB1.out.trans (hb2.mono HB1.out.size)⟩
  have HG0 : Hid (OkG l K 0 [] (fun _ => -1)) := fun k hk => ⟨by simp, by simp [lvOf, lvFrom]⟩
  clear hv2 hb2 HB1 HW1 HREP hp2 x0 x1 x2 x3
  go_wp2_with fail
  go_loopg [18] ln (fun gg v18 wr => ∃ (i : Nat) (s : List Int) (F : Nat → Int), i ≤ ln ∧ ln - i ≤ gg ∧ v18 = .int .i64 i ∧ Hid (okSn K s) ∧ Hid (OkG l K i s F) ∧ Hid (LvJ w0 p K F wr) ∧ Hid (lvL K s (l.drop i) = q))
  case atStart => exact ⟨0, [], _, by omega, by omega, rfl, HS0, HG0, HI0, HLV⟩
  case round =>
    clear HS0 HI0 HLV HG0
    obtain ⟨i, s, F, hi, hg, rfl, HS, HG, HI, HF⟩ := hrel
    by_cases hlt : i < ln
    · have hlt' : (i : Int) < (ln : Int) := by omega
      have hlc : (i : Int) ≤ (lc : Int) := by omega
      obtain ⟨bb, bo, vx, hae, -, hbl, c0, c1, hrx⟩ := Rd.level_at HLR.out (show i < l.length by rw [HLNn.out]; exact hlt)
      replace c0 := (HI.out.bel.cell (lt_of_cell c0)).trans c0
      replace c1 := (HI.out.bel.cell (lt_of_cell c1)).trans c1
      have HF1 := HF.out
      rw [List.drop_eq_getElem_cons (show i < l.length by rw [HLNn.out]; exact hlt), lvL_cons] at HF1
      have HFN := Lib.hid (fun (xs s : List Int) (j : Nat) (F : Nat → Int) (hx : (l[i]'(by rw [HLNn.out]; exact hlt)).rules = xs) (h : OkF l K i xs s j F) (hj : xs.length ≤ j) => OkF.fin (by rw [HLNn.out]; exact hlt) hx h hj)
      obtain ⟨x, HX⟩ := nameIt (l[i]'(by rw [HLNn.out]; exact hlt))
      rw [HX.out] at c1 hrx HF1 HFN
      obtain ⟨xs, xa⟩ := x
      simp only at c1 hrx HF1
      have HFN2 := Lib.hid (HFN.out xs · · · rfl)
      obtain ⟨ax, cx, rfl, hcx1, hcx2⟩ := hrx.form
      rw [List.length_map] at hcx1 hrx c0
      unfold maxLen at hcx2
      obtain ⟨xn, HXN⟩ := nameIt xs.length
      rw [HXN.out] at hcx1 hrx c0
      obtain ⟨w4, HW4⟩ := nameIt (wr.alloc (.cells #[.slice ax xn cx, .int .i64 xa] 39))
      have hb4 : Below wr.heap.size wr w4 := by rw [← HW4.out]; exact (Below.refl _ _).alloc (Nat.le_refl _) _
      have X4 : Hid (w4.heap[wr.heap.size]? = some (.cells #[.slice ax xn cx, .int .i64 xa] 39 (0, 0))) := by rw [← HW4.out]; exact bx_new _ _ _ rfl
      have HI4 := Lib.hid (HI.out.keep hb4)
      have HXR := Lib.hid hrx
      obtain ⟨z0, z1⟩ := bx_cells2 X4.out
      have HE4 := Lib.hid (HB0.out.trans (HI4.out.bel.mono HB0.out.size))
      subst hae
      go_upto_region 5 with fail
      rw [HW4.out]
      clear c0 c1 hrx hbl hb4 HFN
      by_cases hA : xa < 0 ∨ 2 < xa
      · have HQ1 : Hid (q = 1) := by rw [if_pos hA] at HF1; exact HF1.symm
        have hA' : (decide (xa < 0) = true) ∨ (decide (xa < 0) = false ∧ decide (2 < xa) = true) := by simp; omega
        clear hA HF1
        rcases hA' with k1 | ⟨k1, k2⟩
        all_goals
          go_wp2_with fail
          exact HBAD.out _ _ (by first | (rw [HQ1.out]; done) | (rw [HQ1.out]; rfl)) (by rw [HQ1.out]; decide) HE4.out
      · rw [if_neg hA] at HF1
        have k1 : decide (xa < 0) = false := by simp; omega
        have k2 : decide (2 < xa) = false := by simp; omega
        have HF4 : Hid (lvC K s (xs.drop 0) (l.drop (i + 1)) = q) := HF1
        have HG4 : Hid (OkF l K i xs s 0 F) := HG.out.start
        clear hA HF1
        go_wp2_with fail
        clear z0 z1 k1 k2
        obtain ⟨wo, rfl⟩ : ∃ wo : World, wo = wr := ⟨_, rfl⟩
        go_loopg [34] xn (fun gg v34 wr => ∃ (j : Nat) (s : List Int) (F : Nat → Int), j ≤ xn ∧ xn - j ≤ gg ∧ v34 = .int .i64 j ∧ Hid (okSn K s) ∧ Hid (OkF l K i xs s j F) ∧ Hid (LvJ w0 p K F wr) ∧ Hid (lvC K s (xs.drop j) (l.drop (i + 1)) = q))
        case atStart => exact ⟨0, s, F, by omega, by omega, rfl, HS, HG4, HI4, HF4⟩
        case round =>
          clear HS HI HI4 HF4 HF HE4 X4 HG HG4
          obtain ⟨j, s', F', hj, hg2, rfl, HS, HG, HI, HF⟩ := hrel
          have X1' := Lib.hid (bx_keep X1.out HI.out.bel)
          obtain ⟨x0, x1, x2, x3⟩ := bx_cells4 X1'.out
          have HE := Lib.hid (HB0.out.trans (HI.out.bel.mono HB0.out.size))
          by_cases hlt2 : j < xn
          · have hlt2' : (j : Int) < (xn : Int) := by omega
            have hjc : (j : Int) ≤ (cx : Int) := by omega
            have hjl : j < xs.length := by rw [HXN.out]; exact hlt2
            have hsl := sl_rd (HXR.out.below HI.out.bel)
            obtain ⟨ba, oa, hae, hca⟩ := hsl.at (show j < xn from hlt2)
            have e1 := hca j (by rw [ints_len]; exact hjl)
            rw [ints_get] at e1
            have HF1 := HF.out
            rw [List.drop_eq_getElem_cons hjl, lvC_cons] at HF1
            obtain ⟨r, HRn⟩ := nameIt (xs[j]'hjl)
            rw [HRn.out] at e1 HF1
            subst hae
            clear hca hsl
            by_cases hA2 : r < 0 ∨ (K : Int) ≤ r
            · have HQ1 : Hid (q = 1) := by rw [if_pos hA2] at HF1; exact HF1.symm
              have hA' : (decide (r < 0) = true) ∨ (decide (r < 0) = false ∧ decide ((K : Int) ≤ r) = true) := by simp; omega
              clear hA2 HF1
              rcases hA' with k1 | ⟨k1, k2⟩
              all_goals
                go_wp2_with fail
                exact HBAD.out _ _ (by first | (rw [HQ1.out]; done) | (rw [HQ1.out]; rfl)) (by rw [HQ1.out]; decide) HE.out
            · rw [if_neg hA2] at HF1
              have HA2 := Lib.hid hA2
              obtain ⟨rk, rfl⟩ : ∃ rk : Nat, r = (rk : Int) := ⟨r.toNat, by omega⟩
              have hrk : rk < K := by omega
              have hrk' : (rk : Int) < (K : Int) := by omega
              have k1 : decide ((rk : Int) < 0) = false := by simp
              have k2 : ¬ K ≤ rk := by omega
              have v0 := HI.out.row.cell hrk
              have v1 := HI.out.row.free rk
              have HM := Lib.hid (HG.out rk hrk).1
              have HST := Lib.hid (fun hn => HG.out.step hjl hrk HRn.out hn)
              have HSE := Lib.hid (HI.out.set hpw hrk (i : Int))
              obtain ⟨fr, HFR⟩ := nameIt (F' rk)
              rw [HFR.out] at v0 HM HST
              have HF2 := Lib.hid HF1
              clear hA2 HF1
              by_cases hf : 0 ≤ fr
              · have HQ1 : Hid (q = 6) := by have h := HF2.out; rw [if_pos (HM.out.1 hf)] at h; exact h.symm
                have k3 : decide (0 ≤ fr) = true := by simpa using hf
                go_wp2_with fail
                exact HBAD.out _ _ (by first | (rw [HQ1.out]; done) | (rw [HQ1.out]; rfl)) (by rw [HQ1.out]; decide) HE.out
              · have hni : (rk : Int) ∉ s' := fun h => hf (HM.out.2 h)
                have k3 : decide (0 ≤ fr) = false := by simpa using hf
                have HF3 : Hid (lvC K (s' ++ [(rk : Int)]) (xs.drop (j + 1)) (l.drop (i + 1)) = q) := by have h := HF2.out; rw [if_neg hni] at h; exact h
                have HS3 := Lib.hid (HS.out.snoc HA2.out hni)
                have HST2 := Lib.hid (HST.out hf)
                clear HF2 hni HST hf
                go_wp2_with fail
                go_roundg (xn - (j + 1))
                case measure => omega
                case rel => exact ⟨j + 1, _, _, by omega, by omega, by go_num, HS3.out, HST2.out, HSE.out, HF3.out⟩
          · have hend : j = xn := by omega
            have hlt2' : ¬ (j : Int) < (xn : Int) := by omega
            have HF3 : Hid (lvL K s' (l.drop (i + 1)) = q) := by have h := HF.out; rw [List.drop_eq_nil_of_le (by rw [HXN.out]; omega), lvC_nil] at h; exact h
            have HG3 := Lib.hid (HFN2.out s' j F' HG.out (by rw [HXN.out]; omega))
            go_wp2_with fail
            go_roundg (ln - (i + 1))
            case measure => omega
            case rel => exact ⟨i + 1, s', F', by omega, by omega, by go_num, HS.out, HG3.out, HI.out, HF3.out⟩
    · have hend : i = ln := by omega
      have hlt' : ¬ (i : Int) < (ln : Int) := by omega
      have HQ0 : Hid (q = 0) := by have h := HF.out; rw [List.drop_eq_nil_of_le (by rw [HLNn.out]; omega), lvL] at h; exact h.symm
      have HE := Lib.hid (HB0.out.trans (HI.out.bel.mono HB0.out.size))
      have HVR : Hid (Vrow 3 p K (fun k => .int .i64 (lvOf l k)) wr) := HI.out.row.eq (fun k hk => by rw [(HG.out k hk).2, List.take_of_length_le (by rw [HLNn.out]; omega)])
      go_wp2_with fail
      exact HGOOD.out _ _ p rfl HQ0.out HE.out HVR.out
end Fb
end Go.Proofs.YtgcfpbjifjklbaaDoor
