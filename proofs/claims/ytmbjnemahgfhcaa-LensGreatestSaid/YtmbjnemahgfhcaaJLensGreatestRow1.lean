/- Own small laws: a slice value that reads as a list of one-cell values. Own small laws, more: rows of the call's own, written in place; what calls leave. Contracts of the library's generic functions over slices of ints: Equal, Delete. Nested data in memory: whole numbers, truth values, strings, slices and structs, read out of cells. Trees, in plain Lean, and how they read. Symbols and rules of grammars, in plain Lean, and how they read. Contracts of the library's generic functions over slices of ints: Clone, Grow of nil, Concat. The contracts of cmp.Compare, cmp.Or, slices.Compare of whole numbers. Grammars, in plain Lean: which are valid. Which nonterminals derive others: two ways to reckon it, in plain Lean. Plain: what a census asks: which lengths lists of symbols can have; why counting ends. Plain: the edges of a census, the passes of its tables; why counting ends. Plain: all trees of a symbol with a length, in order; how many, and which has a number. Plain: which tree has a number: first the rule, then the lengths. A table of numbers in memory, that is being filled. Rows of nested data of the call's own: append of one datum, of a slice of data. Tables in memory whose rows were appended; the contracts of census.table. The contracts of tree.kids and tree.walk. The contracts of gram.CopyTree and tree.Clone. The contracts of Below and tree.At. The contract of tree.At. Trees with one subtree put in another's place: the words. Which trees are valid, in plain Lean: two ways to say it. -/
import Derived.WalkKit
import Derived.ProofKit
import Derived.Below
import Derived.Deep.Slices
import Derived.Lib.Hide
import Derived.Deep.RegionLaw
import Derived.Laws.IdiomCopy
import Derived.Deep.QuietTactic
import Derived.BigQuiet
import Derived.Outline
import Derived.Lib.SlicesDelete
import Derived.Lib.SliceRun
import Derived.Laws.AppendOwnNone
import Derived.Lib.AppendZerosOnto
import Derived.Test.YtmbjnemahgfhcaaRows
import Derived.Maps.AppendAt
import Derived.Deep.AppendLies
import Derived.Deep.LoopGhost
import Derived.Deep.Cut
import Derived.Shelf.Abstract
import Derived.Deep.Onto
import Derived.Deep.OwnRows
import Derived.Deep.DeepCutAuto
import Derived.Deep.RegionHeld3
import Derived.StillTailTactics
namespace Go.Proofs.Ytmbjnemahgfhcaa
open Go.RowKit

/-- the slice value v reads, in w, as the list L of values of one cell each -/
def Sl (w : World) (v : Value) (L : List Value) : Prop :=
  ∃ a cap, v = .slice a L.length cap ∧ L.length ≤ cap ∧ cap ≤ maxLen ∧ (a = none → cap = 0) ∧ ∀ i (h : i < L.length), ∃ x, a = some x ∧ w.cell? (x.add i) = some L[i]

theorem Sl.cases {w : World} {v : Value} {L : List Value} (h : Sl w v L) :
    (L = [] ∧ ∃ a cap, v = .slice a 0 cap ∧ cap ≤ maxLen ∧ (a = none → cap = 0)) ∨
    ∃ b off cap, v = .slice (some ⟨b, off, none⟩) L.length cap ∧ 0 < L.length ∧ L.length ≤ cap ∧ cap ≤ maxLen ∧ ∀ i (h : i < L.length), w.cell? ⟨b, off + i, none⟩ = some L[i] := by
  obtain ⟨a, cap, rfl, hl, hc, hn, hx⟩ := h
  rcases Nat.eq_zero_or_pos L.length with h0 | h0
  · left
    obtain rfl := List.eq_nil_of_length_eq_zero h0
    exact ⟨rfl, a, cap, rfl, hc, hn⟩
  · right
    obtain ⟨⟨b, off, spot⟩, rfl, h1⟩ := hx 0 h0
    have hs : spot = none := by simpa [Addr.add] using World.cell?_spot h1
    subst hs
    refine ⟨b, off, cap, rfl, h0, hl, hc, fun i hi => ?_⟩
    obtain ⟨y, hy, h2⟩ := hx i hi
    cases hy
    rw [← h2]
    congr 1
    unfold Addr.add
    by_cases e : i = 0 <;> simp [e]

theorem nameIt {α : Type} (a : α) : ∃ x, Hid (a = x) := ⟨a, rfl⟩

theorem lt_of_cell {w : World} {x : Addr} {v : Value} (h : w.cell? x = some v) : x.block < w.heap.size := by
  unfold World.cell? at h
  split at h
  · rename_i e
    exact (Array.getElem?_eq_some_iff.1 e).1
  · cases h

theorem add_block (x : Addr) (i : Nat) : (x.add i).block = x.block := by
  unfold Addr.add
  by_cases e : i = 0 <;> simp [e]

/-- what was there when a call began reads behind it as before -/
theorem Sl.keep {w w' : World} {v : Value} {L : List Value} (h : Sl w v L) (hb : Below w.heap.size w w') : Sl w' v L := by
  obtain ⟨a, cap, rfl, hl, hc, hn, hx⟩ := h
  refine ⟨a, cap, rfl, hl, hc, hn, fun i hi => ?_⟩
  obtain ⟨x, rfl, h1⟩ := hx i hi
  exact ⟨x, rfl, by rw [← h1]; exact hb.cell (lt_of_cell h1)⟩

/-- at an index inside, the address is known -/
theorem Sl.at {w : World} {a : Option Addr} {n cap : Nat} {L : List Value} (h : Sl w (.slice a n cap) L) {k : Nat} (hk : k < n) :
    ∃ b off, a = some ⟨b, off, none⟩ ∧ ∀ i (h : i < L.length), w.cell? ⟨b, off + i, none⟩ = some L[i] := by
  rcases h.cases with ⟨_, a', c', e, _⟩ | ⟨b, off, c', e, _, _, _, hx⟩
  · cases e; omega
  · cases e; exact ⟨b, off, rfl, hx⟩

theorem Sl.len {w : World} {a : Option Addr} {n cap : Nat} {L : List Value} (h : Sl w (.slice a n cap) L) : n = L.length ∧ n ≤ cap ∧ cap ≤ maxLen := by
  obtain ⟨a', c', e, hl, hc, _, _⟩ := h
  cases e; exact ⟨rfl, hl, hc⟩

theorem Sl.form {w : World} {v : Value} {L : List Value} (h : Sl w v L) : ∃ a cap, v = .slice a L.length cap := by
  obtain ⟨a', c', e, _⟩ := h; exact ⟨a', c', e⟩

/-- a row of the call's own, of one cell an element, reads as a slice -/
theorem sl_of_own {w : World} {B : Nat} {e : TypeId} {v : Value} {n : Nat} {xs : List Value} (h : w.ownsRow B e 1 v n xs) : Sl w v xs := by
  obtain ⟨hl, h⟩ := h
  rw [Nat.mul_one] at hl
  rcases h with ⟨rfl, rfl⟩ | ⟨g, cap, cur, rfl, hg, hh, hn, hc, hs, ht⟩
  · obtain rfl := List.eq_nil_of_length_eq_zero hl
    exact ⟨none, 0, rfl, by simp, by simp, fun _ => rfl, fun i hi => by simp at hi⟩
  · subst hl
    refine ⟨_, cap, rfl, hn, hc, (fun h => by cases h), fun i hi => ⟨_, rfl, ?_⟩⟩
    have : (⟨g, 0, none⟩ : Addr).add i = ⟨g, i, none⟩ := by unfold Addr.add; by_cases e : i = 0 <;> simp [e]
    rw [this]
    simp only [World.cell?, hh]
    rw [Nat.mul_one] at ht
    have h2 : xs[i]? = cur[i]? := by
      conv => lhs; rw [← ht]
      rw [List.getElem?_take, if_pos hi]; simp
    rw [List.getElem?_eq_getElem hi] at h2
    simpa using h2.symm

/-- what a program's table says of a slice type and its elements' type -/
structure ElemT (P : Program) (t e : TypeId) (size bytes : Nat) : Prop where
  und : P.underlying t = some (.slice e)
  info : ∃ (i : TypeInfo) (z : Value), P.info? e = some i ∧ i.zero = some z ∧ i.size = size ∧ i.bytes = bytes ∧ z.cells.size = size
  pos : 0 < size

theorem ElemT.mk' {P : Program} {t e : TypeId} {size bytes : Nat} {z : Value} (h : P.underlying t = some (.slice e)) (hi : (P.info? e).map (fun i => (i.zero, i.size, i.bytes)) = some (some z, size, bytes)) (hz : z.cells.size = size) (hp : 0 < size) : ElemT P t e size bytes := by
  obtain ⟨i, h1, h2, h3, h4⟩ := info_parts hi
  exact ⟨h, ⟨i, z, h1, h2, h3, h4, hz⟩, hp⟩

section
open Go.ChangeShapes Go.WideShapes Go.Deep
variable {H : Type} {enc : TypeId × Value → H} {P : Program} {w : World}

end

end Go.Proofs.Ytmbjnemahgfhcaa
namespace Go.Proofs.Ytmbjnemahgfhcaa
open Go.RowKit

/-- a row that was there stays the call's own over whatever makes new memory only -/
theorem own_keep {w w' : World} {B : Nat} {e : TypeId} {s : Nat} {v : Value} {n : Nat} {xs : List Value} (h : w.ownsRow B e s v n xs) (hb : Below w.heap.size w w') : w'.ownsRow B e s v n xs := by
  obtain ⟨h1, h2⟩ := h
  refine ⟨h1, ?_⟩
  rcases h2 with h2 | ⟨g, cap, cur, rfl, hg, hh, r⟩
  · exact .inl h2
  · refine .inr ⟨g, cap, cur, rfl, hg, ?_, r⟩
    rw [hb.block g (Array.getElem?_eq_some_iff.1 hh).1]; exact hh

theorem grown_below {w w' : World} (hb : Below w.heap.size w w') (row : Option Nat) : w.grownBy w' row := ⟨hb.os, hb.tape, hb.output, hb.size, fun k hk _ => hb.block k hk⟩

theorem grown_trans {a b c : World} {row : Option Nat} (h : a.grownBy b row) (k : b.grownBy c row) : a.grownBy c row :=
  ⟨k.os.trans h.os, k.tape.trans h.tape, k.output.trans h.output, Nat.le_trans h.size k.size, fun i hi hn => (k.block i (Nat.lt_of_lt_of_le hi h.size) hn).trans (h.block i hi hn)⟩

theorem below_drewN (w : World) (n : Nat) : Below w.heap.size w (w.drewN n) := ⟨rfl, rfl, rfl, Nat.le_refl _, fun _ _ => rfl⟩

theorem grown_cell (w : World) (a : Addr) (v : Value) : w.grownBy (w.setCell a v) (some a.block) := ⟨rfl, rfl, rfl, by simp [World.setCell], fun k _ hn => Below.heap_setCell _ _ _ _ (fun e => hn (by rw [e]))⟩

/-- the rest of a slice, cut inside its capacity -/
theorem Sl.rest {w : World} {a : Option Addr} {n cap k : Nat} {L : List Value} (h : Sl w (.slice a n cap) L) (hk : k ≤ n) (hc : cap ≠ k) : Sl w (.slice (a.map fun x => x.add k) (n - k) (cap - k)) (L.drop k) := by
  obtain ⟨a', cap', e, hl, hcm, hn, hx⟩ := h
  cases e
  refine ⟨a.map (fun x => x.add k), cap - k, by simp, by simp; omega, by omega, fun h => ?_, fun i hi => ?_⟩
  · have := hn (by simpa using h); omega
  simp at hi
  obtain ⟨x, rfl, h1⟩ := hx (k + i) (by omega)
  exact ⟨x.add k, rfl, by rw [Deep.add_add, h1]; simp⟩

theorem Sl.start {w : World} {a : Option Addr} {n cap : Nat} {L : List Value} (h : Sl w (.slice a n cap) L) {j : Nat} (hj : j ≤ n) : Sl w (.slice a j cap) (L.take j) := by
  obtain ⟨a', cap', e, hl, hcm, hn, hx⟩ := h
  cases e
  refine ⟨a, cap, by simp [Nat.min_eq_left hj], by simp; omega, hcm, hn, fun k hk => ?_⟩
  simp at hk
  obtain ⟨x, rfl, h1⟩ := hx k (by omega)
  exact ⟨x, rfl, by rw [h1]; simp⟩

theorem own_len {w : World} {B : Nat} {e : TypeId} {s : Nat} {v : Value} {n : Nat} {xs : List Value} (h : w.ownsRow B e s v n xs) : ∃ a cap, v = .slice a n cap ∧ n ≤ cap ∧ cap ≤ maxLen := by
  rcases h.2 with ⟨rfl, rfl⟩ | ⟨g, cap, cur, rfl, _, _, h1, h2, _⟩
  · exact ⟨_, _, rfl, by simp, by simp⟩
  · exact ⟨_, _, rfl, h1, h2⟩

theorem bx_keep {w w' : World} {b : Nat} {o : Obj} (h : w.heap[b]? = some o) (hb : Below w.heap.size w w') : w'.heap[b]? = some o := by
  rw [hb.block b (Array.getElem?_eq_some_iff.1 h).1]; exact h

theorem bx_cells3 {w : World} {b : Nat} {x0 x1 x2 : Value} {T : TypeId} (h : w.heap[b]? = some (.cells #[x0, x1, x2] T (0, 0))) :
    w.cell? ⟨b, 0, none⟩ = some x0 ∧ w.cell? ⟨b, 0 + 1, none⟩ = some x1 ∧ w.cell? ⟨b, 0 + 2, none⟩ = some x2 := by
  refine ⟨?_, ?_, ?_⟩ <;> simp [World.cell?, h]

theorem bx_cells2 {w : World} {b : Nat} {x0 x1 : Value} {T : TypeId} (h : w.heap[b]? = some (.cells #[x0, x1] T (0, 0))) :
    w.cell? ⟨b, 0, none⟩ = some x0 ∧ w.cell? ⟨b, 0 + 1, none⟩ = some x1 := by
  refine ⟨?_, ?_⟩ <;> simp [World.cell?, h]
theorem bx_free2 {w : World} {b : Nat} {x0 x1 : Value} {T : TypeId} (h : w.heap[b]? = some (.cells #[x0, x1] T (0, 0))) :
    w.frozen? ⟨b, 0, none⟩ = false ∧ w.frozen? ⟨b, 0 + 1, none⟩ = false := by
  refine ⟨?_, ?_⟩ <;> simp [World.frozen?, h]
theorem bx_cells1 {w : World} {b : Nat} {x0 : Value} {T : TypeId} (h : w.heap[b]? = some (.cells #[x0] T (0, 0))) : w.cell? ⟨b, 0, none⟩ = some x0 := by
  simp [World.cell?, h]
theorem bx_free1 {w : World} {b : Nat} {x0 : Value} {T : TypeId} (h : w.heap[b]? = some (.cells #[x0] T (0, 0))) : w.frozen? ⟨b, 0, none⟩ = false := by
  simp [World.frozen?, h]
theorem bx_cells4 {w : World} {b : Nat} {x0 x1 x2 x3 : Value} {T : TypeId} (h : w.heap[b]? = some (.cells #[x0, x1, x2, x3] T (0, 0))) :
    w.cell? ⟨b, 0, none⟩ = some x0 ∧ w.cell? ⟨b, 0 + 1, none⟩ = some x1 ∧ w.cell? ⟨b, 0 + 2, none⟩ = some x2 ∧ w.cell? ⟨b, 0 + 3, none⟩ = some x3 := by
  refine ⟨?_, ?_, ?_, ?_⟩ <;> simp [World.cell?, h]
theorem bx_free4 {w : World} {b : Nat} {x0 x1 x2 x3 : Value} {T : TypeId} (h : w.heap[b]? = some (.cells #[x0, x1, x2, x3] T (0, 0))) :
    w.frozen? ⟨b, 0, none⟩ = false ∧ w.frozen? ⟨b, 0 + 1, none⟩ = false ∧ w.frozen? ⟨b, 0 + 2, none⟩ = false ∧ w.frozen? ⟨b, 0 + 3, none⟩ = false := by
  refine ⟨?_, ?_, ?_, ?_⟩ <;> simp [World.frozen?, h]
/-- one cell of a box, stored into -/
theorem bx_set {w : World} {b : Nat} {cs : Array Value} {T : TypeId} (h : w.heap[b]? = some (.cells cs T (0, 0))) (j : Nat) (v : Value) : (w.setCell ⟨b, j, none⟩ v).heap[b]? = some (.cells (cs.setIfInBounds j v) T (0, 0)) := by
  simp [World.setCell, Array.getElem?_modify, h]
theorem bx_other {w : World} {b c : Nat} {o : Obj} (h : w.heap[b]? = some o) (hne : b ≠ c) (j : Nat) (v : Value) : (w.setCell ⟨c, j, none⟩ v).heap[b]? = some o := by
  rw [Below.heap_setCell _ _ _ _ hne]; exact h
theorem bx_new (w : World) (o : Obj) (g : Nat) (hg : g = w.heap.size) : (w.alloc o).heap[g]? = some o := by subst hg; exact heap_alloc_new w o

end Go.Proofs.Ytmbjnemahgfhcaa
namespace Go.Proofs.Ytmbjnemahgfhcaa
open Go.RowKit

def ints (l : List Int) : List Value := l.map (Value.int .i64)
theorem ints_len (l : List Int) : (ints l).length = l.length := by simp [ints]
theorem ints_get (l : List Int) (i : Nat) (h : i < (ints l).length) : (ints l)[i] = .int .i64 (l[i]'(by simpa [ints] using h)) := by simp [ints]
end Go.Proofs.Ytmbjnemahgfhcaa
namespace Go.Proofs.Ytmbjnemahgfhcaa
open Go.RowKit

inductive D where
  | int (n : Int)
  | bool (b : Bool)
  | str (s : ByteArray)
  | sl (l : List D)
  | agg (l : List D)

mutual
/-- the cells cs read as the datum, in blocks of S alone -/
def Rd (S : Nat → Prop) (w : World) : D → List Value → Prop
  | .int n, cs => cs = [.int .i64 n]
  | .bool b, cs => cs = [.bool b]
  | .str s, cs => cs = [.string s]
  | .sl ds, cs => ∃ a cap L, cs = [.slice a ds.length cap] ∧ ds.length ≤ cap ∧ cap ≤ maxLen ∧ (a = none → cap = 0) ∧ (∀ i (h : i < L.length), ∃ x, a = some x ∧ S x.block ∧ w.cell? (x.add i) = some L[i]) ∧ RdAll S w ds L
  | .agg ds, cs => RdAll S w ds cs
def RdAll (S : Nat → Prop) (w : World) : List D → List Value → Prop
  | [], cs => cs = []
  | d :: ds, cs => ∃ c1 c2, cs = c1 ++ c2 ∧ Rd S w d c1 ∧ RdAll S w ds c2
end

mutual
def D.cells : D → Nat
  | .int _ => 1
  | .bool _ => 1
  | .str _ => 1
  | .sl _ => 1
  | .agg l => D.cellsAll l
def D.cellsAll : List D → Nat
  | [] => 0
  | d :: l => D.cells d + D.cellsAll l
end

def AnyB : Nat → Prop := fun _ => True

mutual
theorem Rd.len {S : Nat → Prop} {w : World} : ∀ (d : D) (cs : List Value), Rd S w d cs → cs.length = d.cells
  | .int n, cs, h => by simp [Rd] at h; simp [h, D.cells]
  | .bool n, cs, h => by simp [Rd] at h; simp [h, D.cells]
  | .str n, cs, h => by simp [Rd] at h; simp [h, D.cells]
  | .sl ds, cs, h => by obtain ⟨a, cap, L, rfl, _⟩ := h; simp [D.cells]
  | .agg ds, cs, h => by rw [D.cells]; exact RdAll.len ds cs h
theorem RdAll.len {S : Nat → Prop} {w : World} : ∀ (ds : List D) (cs : List Value), RdAll S w ds cs → cs.length = D.cellsAll ds
  | [], cs, h => by simp [RdAll] at h; simp [h, D.cellsAll]
  | d :: ds, cs, h => by
    obtain ⟨c1, c2, rfl, h1, h2⟩ := h
    simp [D.cellsAll, Rd.len d c1 h1, RdAll.len ds c2 h2]
end

mutual
/-- what lies in blocks that are as they were reads as it did; S may be widened, too -/
theorem Rd.keep {S S' : Nat → Prop} {w w' : World} (hS : ∀ k, S k → k < w.heap.size → S' k ∧ w'.heap[k]? = w.heap[k]?) : ∀ (d : D) (cs : List Value), Rd S w d cs → Rd S' w' d cs
  | .int n, cs, h => h
  | .bool n, cs, h => h
  | .str n, cs, h => h
  | .sl ds, cs, h => by
    obtain ⟨a, cap, L, rfl, h1, h2, h3, h4, h5⟩ := h
    refine ⟨a, cap, L, rfl, h1, h2, h3, fun i hi => ?_, RdAll.keep hS ds L h5⟩
    obtain ⟨x, rfl, hx, hc⟩ := h4 i hi
    have hlt := lt_of_cell hc
    rw [add_block] at hlt
    obtain ⟨k1, k2⟩ := hS _ hx hlt
    refine ⟨x, rfl, k1, ?_⟩
    rw [← hc]
    exact World.cell?_of_block (w := w) (by rw [add_block]; exact k2)
  | .agg ds, cs, h => RdAll.keep hS ds cs h
theorem RdAll.keep {S S' : Nat → Prop} {w w' : World} (hS : ∀ k, S k → k < w.heap.size → S' k ∧ w'.heap[k]? = w.heap[k]?) : ∀ (ds : List D) (cs : List Value), RdAll S w ds cs → RdAll S' w' ds cs
  | [], cs, h => h
  | d :: ds, cs, h => by
    obtain ⟨c1, c2, rfl, h1, h2⟩ := h
    exact ⟨c1, c2, rfl, Rd.keep hS d c1 h1, RdAll.keep hS ds c2 h2⟩
end

theorem Rd.below {S : Nat → Prop} {w w' : World} {d : D} {cs : List Value} (h : Rd S w d cs) (hb : Below w.heap.size w w') : Rd S w' d cs :=
  Rd.keep (fun k hk hlt => ⟨hk, hb.block k hlt⟩) d cs h
theorem RdAll.below {S : Nat → Prop} {w w' : World} {d : List D} {cs : List Value} (h : RdAll S w d cs) (hb : Below w.heap.size w w') : RdAll S w' d cs :=
  RdAll.keep (fun k hk hlt => ⟨hk, hb.block k hlt⟩) d cs h
theorem Rd.mono {S S' : Nat → Prop} {w : World} {d : D} {cs : List Value} (h : Rd S w d cs) (hs : ∀ k, S k → k < w.heap.size → S' k) : Rd S' w d cs :=
  Rd.keep (fun k hk hlt => ⟨hs k hk hlt, rfl⟩) d cs h
theorem RdAll.mono {S S' : Nat → Prop} {w : World} {d : List D} {cs : List Value} (h : RdAll S w d cs) (hs : ∀ k, S k → k < w.heap.size → S' k) : RdAll S' w d cs :=
  RdAll.keep (fun k hk hlt => ⟨hs k hk hlt, rfl⟩) d cs h
theorem Rd.any {S : Nat → Prop} {w : World} {d : D} {cs : List Value} (h : Rd S w d cs) : Rd AnyB w d cs := h.mono fun _ _ _ => trivial
theorem RdAll.any {S : Nat → Prop} {w : World} {d : List D} {cs : List Value} (h : RdAll S w d cs) : RdAll AnyB w d cs := h.mono fun _ _ _ => trivial

theorem RdAll.append {S : Nat → Prop} {w : World} : ∀ {ds es : List D} {c1 c2 : List Value}, RdAll S w ds c1 → RdAll S w es c2 → RdAll S w (ds ++ es) (c1 ++ c2)
  | [], es, c1, c2, h, k => by simp [RdAll] at h; subst h; simpa using k
  | d :: ds, es, c1, c2, h, k => by
    obtain ⟨a, b, rfl, h1, h2⟩ := h
    exact ⟨a, b ++ c2, by simp, h1, RdAll.append h2 k⟩
theorem RdAll.split {S : Nat → Prop} {w : World} : ∀ {ds es : List D} {c : List Value}, RdAll S w (ds ++ es) c → ∃ c1 c2, c = c1 ++ c2 ∧ RdAll S w ds c1 ∧ RdAll S w es c2
  | [], es, c, h => ⟨[], c, rfl, by simp [RdAll], h⟩
  | d :: ds, es, c, h => by
    obtain ⟨a, b, rfl, h1, h2⟩ := h
    obtain ⟨c1, c2, rfl, h3, h4⟩ := RdAll.split h2
    exact ⟨a ++ c1, c2, by simp, ⟨a, c1, rfl, h1, h3⟩, h4⟩
theorem RdAll.one {S : Nat → Prop} {w : World} {d : D} {c : List Value} (h : Rd S w d c) : RdAll S w [d] c := ⟨c, [], by simp, h, by simp [RdAll]⟩
theorem RdAll.one_iff {S : Nat → Prop} {w : World} {d : D} {c : List Value} : RdAll S w [d] c ↔ Rd S w d c := by
  constructor
  · rintro ⟨c1, c2, rfl, h, h2⟩
    simp [RdAll] at h2
    subst h2
    simpa using h
  · exact RdAll.one

theorem cellsAll_eq {k : Nat} : ∀ {ds : List D}, (∀ d ∈ ds, d.cells = k) → D.cellsAll ds = ds.length * k
  | [], _ => by simp [D.cellsAll]
  | d :: ds, h => by
    rw [D.cellsAll, h d List.mem_cons_self, cellsAll_eq fun x hx => h x (List.mem_cons_of_mem _ hx)]
    simp [Nat.add_mul]; omega

/-- one of many of k cells each -/
theorem RdAll.get {S : Nat → Prop} {w : World} {k : Nat} : ∀ {ds : List D} {L : List Value}, RdAll S w ds L → (∀ d ∈ ds, d.cells = k) → ∀ i (hi : i < ds.length), Rd S w ds[i] ((L.drop (i * k)).take k)
  | [], L, h, hk, i, hi => by simp at hi
  | d :: ds, L, h, hk, i, hi => by
    obtain ⟨c1, c2, rfl, h1, h2⟩ := h
    have hl : c1.length = k := by rw [Rd.len d c1 h1]; exact hk d List.mem_cons_self
    cases i with
    | zero => simpa [List.take_left' hl] using h1
    | succ i =>
      have := RdAll.get h2 (fun x hx => hk x (List.mem_cons_of_mem _ hx)) i (by simpa using hi)
      rw [show (i + 1) * k = c1.length + i * k by rw [hl, Nat.add_mul]; omega]
      have e : (c1 ++ c2).drop (c1.length + i * k) = c2.drop (i * k) := by rw [← List.drop_drop]; simp
      rw [e]
      simpa using this

theorem add_at (b off n : Nat) : (⟨b, off, none⟩ : Addr).add n = ⟨b, off + n, none⟩ := by unfold Addr.add; by_cases e : n = 0 <;> simp [e]

/-- a slice's form -/
theorem Rd.form {S : Nat → Prop} {w : World} {ds : List D} {v : Value} (h : Rd S w (.sl ds) [v]) : ∃ a cap, v = .slice a ds.length cap ∧ ds.length ≤ cap ∧ cap ≤ maxLen := by
  obtain ⟨a, cap, L, e, h1, h2, _⟩ := h
  simp at e
  exact ⟨a, cap, e, h1, h2⟩
theorem Rd.bounds {S : Nat → Prop} {w : World} {ds : List D} {a : Option Addr} {n cap : Nat} (h : Rd S w (.sl ds) [.slice a n cap]) : n = ds.length ∧ n ≤ cap ∧ cap ≤ maxLen := by
  obtain ⟨a, cap, e, h1, h2⟩ := h.form
  cases e
  exact ⟨rfl, h1, h2⟩

/-- an element of a slice: where it lies, its cells -/
theorem Rd.at {S : Nat → Prop} {w : World} {ds : List D} {a : Option Addr} {n cap k : Nat} (h : Rd S w (.sl ds) [.slice a n cap]) (hk : ∀ d ∈ ds, d.cells = k) (hp : 0 < k) {i : Nat} (hi : i < ds.length) :
    ∃ b off cs, a = some ⟨b, off, none⟩ ∧ S b ∧ b < w.heap.size ∧ Rd S w ds[i] cs ∧ cs.length = k ∧ ∀ j (h : j < cs.length), w.cell? ⟨b, off + (i * k + j), none⟩ = some cs[j] := by
  obtain ⟨a', cap', L, e, h1, h2, h3, h4, h5⟩ := h
  simp at e
  obtain ⟨rfl, rfl, rfl⟩ := e
  have hL : L.length = ds.length * k := by rw [RdAll.len ds L h5, cellsAll_eq hk]
  have hpos : 0 < L.length := by rw [hL]; exact Nat.mul_pos (by omega) hp
  obtain ⟨⟨b, off, spot⟩, rfl, hS, hc⟩ := h4 0 hpos
  have hs : spot = none := by simpa [Addr.add] using World.cell?_spot hc
  subst hs
  have hlt := lt_of_cell hc
  rw [add_block] at hlt
  have hik : (i + 1) * k ≤ ds.length * k := Nat.mul_le_mul_right _ hi
  rw [Nat.add_mul, Nat.one_mul] at hik
  refine ⟨b, off, (L.drop (i * k)).take k, rfl, hS, hlt, RdAll.get h5 hk i hi, by simp; omega, fun j hj => ?_⟩
  simp at hj
  obtain ⟨y, hy, _, h6⟩ := h4 (i * k + j) (by omega)
  cases hy
  rw [add_at] at h6
  rw [h6]
  simp

/-- a row of the call's own reads as a slice -/
theorem rd_of_own {S : Nat → Prop} {w : World} {B : Nat} {e : TypeId} {size : Nat} {v : Value} {n : Nat} {xs : List Value} {ds : List D} (h : w.ownsRow B e size v n xs) (hd : RdAll S w ds xs) (hn : ds.length = n) (hS : ∀ k, v.ownBlock = some k → S k) : Rd S w (.sl ds) [v] := by
  have hcell := fun {g : Nat} (hg : v.ownBlock = some g) => h.cells hg
  obtain ⟨hl, h⟩ := h
  subst hn
  rcases h with ⟨rfl, h0⟩ | ⟨g, cap, cur, rfl, hg, hh, hn, hc, hs, ht⟩
  · have : xs = [] := List.eq_nil_of_length_eq_zero (by rw [hl, h0]; simp)
    subst this
    exact ⟨none, 0, [], by rw [h0], by omega, by simp [maxLen], fun _ => rfl, fun i hi => by simp at hi, hd⟩
  · refine ⟨_, cap, xs, rfl, hn, hc, (fun h => by cases h), fun i hi => ⟨_, rfl, hS g rfl, ?_⟩, hd⟩
    exact hcell rfl i _ (List.getElem?_eq_getElem hi)

/-- the new row behind an append: what was read in it is still read, apart from the row's own block -/
theorem own_step {S : Nat → Prop} {w w3 : World} {v v' : Value} {ds es : List D} {xs news : List Value}
    (h1 : RdAll (fun k => S k ∧ v.ownBlock ≠ some k) w ds xs) (h2 : RdAll (fun k => S k ∧ v.ownBlock ≠ some k) w es news)
    (hg : w.grownBy w3 v.ownBlock) (hat : v'.ownBlock = v.ownBlock ∨ ∃ k, v'.ownBlock = some k ∧ w.heap.size ≤ k) : RdAll (fun k => S k ∧ v'.ownBlock ≠ some k) w3 (ds ++ es) (xs ++ news) := by
  have hS : ∀ k, (S k ∧ v.ownBlock ≠ some k) → k < w.heap.size → (S k ∧ v'.ownBlock ≠ some k) ∧ w3.heap[k]? = w.heap[k]? := by
    intro k hk hlt
    refine ⟨⟨hk.1, ?_⟩, hg.block k hlt (fun e => hk.2 e.symm)⟩
    rcases hat with e | ⟨j, e, hj⟩
    · rw [e]; exact hk.2
    · rw [e]; intro h; cases h; omega
  exact RdAll.append (RdAll.keep hS ds xs h1) (RdAll.keep hS es news h2)

/-- append of one element, to a row of the call's own; where the new row lies -/
theorem wp_app1at {P : Program} {ops : Array Oper} {rest : List Oper} {o : Oper} {a : Act} {Q : Exit → Act → World → Prop} {w0 : World} {t e : TypeId} {size bytes : Nat} (E : ElemT P t e size bytes)
    (hgd : o.guard = none) (s x : Operand) (ho : o.op = .call { callee := .builtin .append, args := #[s, x], argTypes := #[t, t] })
    {B : Nat} {v : Value} {n : Nat} {xs : List Value} {news : Array Value} (hown : w0.ownsRow B e size v n xs) (hs : a.eval s = v) {g0 : Nat} (hx : a.eval x = .slice (some ⟨g0, 0, none⟩) 1 1) (hg0 : g0 = w0.heap.size)
    (hn : news.size = size) (h1 : news.toList.all Value.oneCell' = true) (hb : (n + 1) * bytes ≤ 140737488355328) (hm : n + 1 ≤ maxLen) (hB : B ≤ w0.heap.size)
    (h : ∀ v' w', w'.ownsRow B e size v' (n + 1) (xs ++ news.toList) → w0.grownBy w' v.ownBlock → (v'.ownBlock = v.ownBlock ∨ ∃ k, v'.ownBlock = some k ∧ w0.heap.size ≤ k) → wpList P ops Q rest (a.put o.dst v') w') :
    wpList P ops Q (o :: rest) a (w0.alloc (.cells news e)) := by
  subst hg0
  obtain ⟨hu, ⟨i, z, hi, hz, hsz, hby, hzs⟩, hp⟩ := E
  refine wpList_append_own_at (w0.alloc (.cells news e)) hgd s x t ho B e i z size bytes hu hi hz hsz hby hzs hp v n xs hs (hown.alloc _) ⟨w0.heap.size, 0, none⟩ 1 1 news.toList hx (by simp [hn]) ?_ (List.all_eq_true.1 h1) hm hb (by simp; omega) ?_
  · intro j u hj
    have : (⟨w0.heap.size, 0, none⟩ : Addr).add j = ⟨w0.heap.size, j, none⟩ := by unfold Addr.add; by_cases e : j = 0 <;> simp [e]
    rw [this]
    have hh : (w0.alloc (.cells news e)).heap[w0.heap.size]? = some (.cells news e (0, 0)) := heap_alloc_new w0 _
    simp only [World.cell?, hh]
    simpa using hj
  · intro v' w' h2 h3 _ h5
    refine h v' w' h2 ?_ ?_
    · have h4 := World.grownBy_alloc w0 (.cells news e) v.ownBlock
      exact ⟨h3.os.trans h4.os, h3.tape.trans h4.tape, h3.output.trans h4.output, Nat.le_trans h4.size h3.size, fun k hk hne => (h3.block k (Nat.lt_of_lt_of_le hk h4.size) hne).trans (h4.block k hk hne)⟩
    · rcases h5 with h5 | h5
      · exact .inl h5
      · exact .inr ⟨_, h5, by simp⟩

theorem rdAll_ints {S : Nat → Prop} {w : World} : ∀ (l : List Int) (cs : List Value), RdAll S w (l.map .int) cs ↔ cs = ints l
  | [], cs => by simp [RdAll, ints]
  | x :: l, cs => by
    simp only [List.map_cons, RdAll, Rd]
    constructor
    · rintro ⟨c1, c2, rfl, rfl, h⟩
      rw [rdAll_ints] at h
      simp [h, ints]
    · rintro rfl
      exact ⟨[.int .i64 x], ints l, by simp [ints], rfl, (rdAll_ints l _).2 rfl⟩
def D.ints (l : List Int) : D := .sl (l.map .int)
end Go.Proofs.Ytmbjnemahgfhcaa
namespace Go.Proofs.Ytmbjnemahgfhcaa
open Go.RowKit

inductive Tree where
  | node (rule term : Int) (kids : List Tree)
def Tree.rule : Tree → Int | .node r _ _ => r
def Tree.term : Tree → Int | .node _ t _ => t
def Tree.kids : Tree → List Tree | .node _ _ k => k
/-- the subtrees that count -/
def kidsOf (t : Tree) : List Tree := if t.rule = -1 then [] else t.kids

mutual
def Tree.d : Tree → D
  | .node r t ks => .agg [.int r, .int t, .sl (Tree.dL ks)]
def Tree.dL : List Tree → List D
  | [] => []
  | k :: ks => Tree.d k :: Tree.dL ks
end
theorem dL_map : ∀ ks : List Tree, Tree.dL ks = ks.map Tree.d
  | [] => rfl
  | k :: ks => by simp [Tree.dL, dL_map ks]
theorem Tree.d_eq (t : Tree) : t.d = .agg [.int t.rule, .int t.term, .sl (t.kids.map Tree.d)] := by
  cases t; simp [Tree.d, dL_map, Tree.rule, Tree.term, Tree.kids]
theorem Tree.d_cells (t : Tree) : t.d.cells = 3 := by rw [Tree.d_eq]; simp [D.cells, D.cellsAll]
theorem trees_cells (ts : List Tree) : ∀ d ∈ ts.map Tree.d, d.cells = 3 := by
  intro d hd
  simp at hd
  obtain ⟨t, _, rfl⟩ := hd
  exact t.d_cells

mutual
/-- the nodes in preorder; the kids of leaves are left out -/
def nodes : Tree → List Tree
  | .node r t ks => .node r t ks :: (if r = -1 then [] else nodesL ks)
def nodesL : List Tree → List Tree
  | [] => []
  | k :: ks => nodes k ++ nodesL ks
end
theorem nodes_eq (t : Tree) : nodes t = t :: nodesL (kidsOf t) := by
  cases t with
  | node r t ks =>
    rw [nodes]
    by_cases h : r = -1 <;> simp [kidsOf, Tree.rule, Tree.kids, h, nodesL]
theorem nodesL_append : ∀ (a b : List Tree), nodesL (a ++ b) = nodesL a ++ nodesL b
  | [], b => by simp [nodesL]
  | x :: a, b => by simp [nodesL, nodesL_append a b]
theorem nodesL_split {ks : List Tree} {i : Nat} (h : i < ks.length) : nodesL ks = nodesL (ks.take i) ++ (nodes ks[i] ++ nodesL (ks.drop (i + 1))) := by
  conv => lhs; rw [← List.take_append_drop i ks, nodesL_append, List.drop_eq_getElem_cons h, nodesL]

/-- outside S nothing that was there has changed -/
structure Keeps (S : Nat → Prop) (w w' : World) : Prop where
  os : w'.os = w.os
  tape : w'.tape = w.tape
  output : w'.output = w.output
  size : w.heap.size ≤ w'.heap.size
  block : ∀ k, k < w.heap.size → ¬ S k → w'.heap[k]? = w.heap[k]?
theorem Keeps.below {S : Nat → Prop} {w w' : World} {B : Nat} (h : Keeps S w w') (hS : ∀ k, S k → B ≤ k) (hB : B ≤ w.heap.size) : Below B w w' :=
  ⟨h.os, h.tape, h.output, h.size, fun k hk => h.block k (by omega) (fun hs => by have := hS k hs; omega)⟩
theorem Keeps.trans {S S' : Nat → Prop} {a b c : World} (h : Keeps S a b) (k : Keeps S' b c) (hs : ∀ k, S' k → S k ∨ a.heap.size ≤ k) : Keeps S a c :=
  ⟨k.os.trans h.os, k.tape.trans h.tape, k.output.trans h.output, Nat.le_trans h.size k.size, fun i hi hn => (k.block i (Nat.lt_of_lt_of_le hi h.size) (fun e => (hs i e).elim (fun e => hn e) (fun e => by omega))).trans (h.block i hi hn)⟩
theorem Keeps.cells {S : Nat → Prop} {w w' : World} (h : Keeps S w w') {b : Nat} {o : Obj} (hb : w.heap[b]? = some o) (hS : ¬ S b) : w'.heap[b]? = some o := by
  rw [h.block b (Array.getElem?_eq_some_iff.1 hb).1 hS]; exact hb

/-- three cells of an element -/
theorem Rd.tree {S : Nat → Prop} {w : World} {t : Tree} {cs : List Value} (h : Rd S w t.d cs) : ∃ v, cs = [.int .i64 t.rule, .int .i64 t.term, v] ∧ Rd S w (.sl (t.kids.map Tree.d)) [v] := by
  rw [Tree.d_eq] at h
  obtain ⟨c1, c2, rfl, h1, c3, c4, rfl, h2, h3⟩ := h
  rw [RdAll.one_iff] at h3
  simp [Rd] at h1 h2
  subst h1 h2
  have h4 := h3
  obtain ⟨a, cap, L, e, _⟩ := h3
  subst e
  exact ⟨_, rfl, h4⟩
theorem Rd.kid {S : Nat → Prop} {w : World} {ks : List Tree} {a : Option Addr} {n cap i : Nat} (h : Rd S w (.sl (ks.map Tree.d)) [.slice a n cap]) (hi : i < ks.length) :
    ∃ b off v, a = some ⟨b, off, none⟩ ∧ S b ∧ b < w.heap.size ∧ w.cell? ⟨b, off + i * 3, none⟩ = some (.int .i64 ks[i].rule) ∧ w.cell? ⟨b, off + i * 3 + 1, none⟩ = some (.int .i64 ks[i].term) ∧ w.cell? ⟨b, off + i * 3 + 2, none⟩ = some v ∧ Rd S w (.sl (ks[i].kids.map Tree.d)) [v] := by
  obtain ⟨b, off, cs, ha, hS, hlt, hr, hl, hc⟩ := h.at (trees_cells ks) (by decide) (i := i) (by simpa using hi)
  simp at hr
  obtain ⟨v, rfl, hk⟩ := hr.tree
  exact ⟨b, off, v, ha, hS, hlt, by simpa using hc 0 (by simp), by simpa [Nat.add_assoc] using hc 1 (by simp), by simpa [Nat.add_assoc] using hc 2 (by simp), hk⟩
end Go.Proofs.Ytmbjnemahgfhcaa
namespace Go.Proofs.Ytmbjnemahgfhcaa
open Go.RowKit

structure Sym where
  term : Bool
  n : Int
  deriving DecidableEq
structure Rule where
  left : Int
  right : List Sym
  deriving DecidableEq
def Sym.d (s : Sym) : D := .agg [.bool s.term, .int s.n]
def Rule.d (r : Rule) : D := .agg [.int r.left, .sl (r.right.map Sym.d)]
theorem syms_cells (l : List Sym) : ∀ d ∈ l.map Sym.d, d.cells = 2 := by
  intro d hd
  simp at hd
  obtain ⟨t, _, rfl⟩ := hd
  simp [Sym.d, D.cells, D.cellsAll]
theorem rules_cells (l : List Rule) : ∀ d ∈ l.map Rule.d, d.cells = 2 := by
  intro d hd
  simp at hd
  obtain ⟨t, _, rfl⟩ := hd
  simp [Rule.d, D.cells, D.cellsAll]
theorem Rd.sym {S : Nat → Prop} {w : World} {s : Sym} {cs : List Value} (h : Rd S w s.d cs) : cs = [.bool s.term, .int .i64 s.n] := by
  obtain ⟨c1, c2, rfl, h1, h2⟩ := h
  rw [RdAll.one_iff] at h2
  simp [Rd] at h1 h2
  subst h1 h2
  rfl
theorem rd_sym {S : Nat → Prop} {w : World} (s : Sym) : Rd S w s.d [.bool s.term, .int .i64 s.n] := ⟨[.bool s.term], [.int .i64 s.n], rfl, rfl, RdAll.one rfl⟩
theorem Rd.rule {S : Nat → Prop} {w : World} {r : Rule} {cs : List Value} (h : Rd S w r.d cs) : ∃ v, cs = [.int .i64 r.left, v] ∧ Rd S w (.sl (r.right.map Sym.d)) [v] := by
  obtain ⟨c1, c2, rfl, h1, h2⟩ := h
  rw [RdAll.one_iff] at h2
  simp [Rd] at h1
  subst h1
  have h4 := h2
  obtain ⟨a, cap, L, e, _⟩ := h2
  subst e
  exact ⟨_, rfl, h4⟩
theorem rd_rule {S : Nat → Prop} {w : World} {r : Rule} {v : Value} (h : Rd S w (.sl (r.right.map Sym.d)) [v]) : Rd S w r.d [.int .i64 r.left, v] := ⟨[.int .i64 r.left], [v], rfl, rfl, RdAll.one h⟩
theorem Rd.sym_at {S : Nat → Prop} {w : World} {l : List Sym} {a : Option Addr} {n cap i : Nat} (h : Rd S w (.sl (l.map Sym.d)) [.slice a n cap]) (hi : i < l.length) :
    ∃ b off, a = some ⟨b, off, none⟩ ∧ S b ∧ b < w.heap.size ∧ w.cell? ⟨b, off + i * 2, none⟩ = some (.bool l[i].term) ∧ w.cell? ⟨b, off + i * 2 + 1, none⟩ = some (.int .i64 l[i].n) := by
  obtain ⟨b, off, cs, ha, hS, hlt, hr, hl, hc⟩ := h.at (syms_cells l) (by decide) (i := i) (by simpa using hi)
  simp at hr
  obtain rfl := hr.sym
  exact ⟨b, off, ha, hS, hlt, by simpa using hc 0 (by simp), by simpa [Nat.add_assoc] using hc 1 (by simp)⟩
theorem Rd.rule_at {S : Nat → Prop} {w : World} {l : List Rule} {a : Option Addr} {n cap i : Nat} (h : Rd S w (.sl (l.map Rule.d)) [.slice a n cap]) (hi : i < l.length) :
    ∃ b off v, a = some ⟨b, off, none⟩ ∧ S b ∧ b < w.heap.size ∧ w.cell? ⟨b, off + i * 2, none⟩ = some (.int .i64 l[i].left) ∧ w.cell? ⟨b, off + i * 2 + 1, none⟩ = some v ∧ Rd S w (.sl (l[i].right.map Sym.d)) [v] := by
  obtain ⟨b, off, cs, ha, hS, hlt, hr, hl, hc⟩ := h.at (rules_cells l) (by decide) (i := i) (by simpa using hi)
  simp at hr
  obtain ⟨v, rfl, hk⟩ := hr.rule
  exact ⟨b, off, v, ha, hS, hlt, by simpa using hc 0 (by simp), by simpa [Nat.add_assoc] using hc 1 (by simp), hk⟩
theorem elSym : ElemT Try.prog 30 42 2 16 := ElemT.mk' (z := .agg #[.bool false, .int .i64 0]) Try.underlying30 (by kernel_rfl) rfl (by decide)
theorem elRule : ElemT Try.prog 22 32 2 32 := ElemT.mk' (z := .agg #[.int .i64 0, .slice none 0 0]) Try.underlying22 (by kernel_rfl) rfl (by decide)
end Go.Proofs.Ytmbjnemahgfhcaa
namespace Go.Proofs.Ytmbjnemahgfhcaa
open Go.RowKit

end Go.Proofs.Ytmbjnemahgfhcaa
namespace Go.Proofs.Ytmbjnemahgfhcaa
open Go.RowKit

theorem getD_get {α : Type} (l : List α) (i : Nat) (d : α) (h : i < l.length) : l.getD i d = l[i] := by simp [List.getD, h]

/-- a literal slice, in the block that was laid last -/
theorem sl_lit {w : World} {v : Array Value} {e : TypeId} {g : Nat} (hg : g = w.heap.size) (h : v.size ≤ maxLen) : Sl (w.alloc (.cells v e)) (.slice (some ⟨g, 0, none⟩) v.size v.size) v.toList := by
  subst hg
  refine ⟨some ⟨w.heap.size, 0, none⟩, v.size, by simp, by simp, h, (fun h => by cases h), fun i hi => ⟨_, rfl, ?_⟩⟩
  have : (⟨w.heap.size, 0, none⟩ : Addr).add i = ⟨w.heap.size, i, none⟩ := by unfold Addr.add; by_cases e : i = 0 <;> simp [e]
  rw [this]
  have hh : (w.alloc (.cells v e)).heap[w.heap.size]? = some (.cells v e (0, 0)) := heap_alloc_new w _
  simp only [World.cell?, hh]
  simp at hi ⊢

end Go.Proofs.Ytmbjnemahgfhcaa
namespace Go.Proofs.Ytmbjnemahgfhcaa
open Go.RowKit

def cmp3 (a b : Int) : Int := if a < b then -1 else if b < a then 1 else 0
theorem cmp3_self (a : Int) : cmp3 a a = 0 := by simp [cmp3]
theorem cmp3_zero {a b : Int} (h : cmp3 a b = 0) : a = b := by
  unfold cmp3 at h
  by_cases h1 : a < b
  · simp [h1] at h
  · by_cases h2 : b < a
    · simp [h1, h2] at h
    · omega
def orL : List Int → Int
  | [] => 0
  | x :: l => if x = 0 then orL l else x

set_option maxHeartbeats 400000 in
theorem isNaN (x : Int) (w : World) : Calls Try.prog 37 #[.int .i64 x] w fun e w' => e = .returned (.bool false) ∧ w = w' := by
  have h : (x != x) = false := by simp
  go_enter Try.func37, Try.ntmps37
  go_wp2
  go_ret
  exact ⟨rfl, rfl⟩

set_option maxHeartbeats 400000 in
theorem compareInt (x y : Int) (w : World) : Calls Try.prog 33 #[.int .i64 x, .int .i64 y] w fun e w' => e = .returned (.int .i64 (cmp3 x y)) ∧ w = w' := by
  obtain ⟨c, HC⟩ := nameIt (cmp3 x y)
  have hc : (x < y ∧ c = -1) ∨ (¬ x < y ∧ y < x ∧ c = 1) ∨ (¬ x < y ∧ ¬ y < x ∧ c = 0) := by
    have := HC.out
    unfold cmp3 at this
    split at this
    · exact .inl ⟨by assumption, this.symm⟩
    · split at this
      · exact .inr (.inl ⟨by assumption, by assumption, this.symm⟩)
      · exact .inr (.inr ⟨by assumption, by assumption, this.symm⟩)
  rw [HC.out]
  rcases hc with ⟨h1, rfl⟩ | ⟨h1, h2, rfl⟩ | ⟨h1, h2, rfl⟩
  all_goals
    go_enter Try.func33, Try.ntmps33
    go_wp2_with (go_at_call 37; (with_reducible refine (isNaN _ _).mono ?_); rintro e w' ⟨rfl, rfl⟩)
    go_ret
    exact ⟨rfl, rfl⟩

set_option maxHeartbeats 1000000 in
theorem orInt (v : Value) (l : List Int) (w : World) (hl : Sl w v (ints l)) :
    Calls Try.prog 32 #[v] w fun e w' => e = .returned (.int .i64 (orL l)) ∧ w = w' := by
  obtain ⟨a, cap, rfl⟩ := hl.form
  rw [ints_len] at hl
  rw [ints_len]
  have hc := hl.len.2
  unfold maxLen at hc
  obtain ⟨hc1, hc2⟩ := hc
  have HL := Lib.hid hl
  clear hl
  go_enter Try.func32, Try.ntmps32
  go_wp2
  go_loopg [8] l.length (fun gg v8 wr => ∃ i : Nat, i ≤ l.length ∧ l.length - i ≤ gg ∧ v8 = .int .i64 i ∧ wr = w ∧ Hid (orL (l.drop i) = orL l))
  case atStart => exact ⟨0, by omega, by omega, rfl, rfl, rfl⟩
  case round =>
    obtain ⟨i, hi, hg, rfl, rfl, HE⟩ := hrel
    by_cases hlt : i < l.length
    · have hlt' : (i : Int) < (l.length : Int) := by omega
      obtain ⟨ba, oa, hae, hca⟩ := HL.out.at hlt
      have c1 := hca i (by rw [ints_len]; exact hlt)
      rw [ints_get] at c1
      have h1 := HE.out
      rw [List.drop_eq_getElem_cons hlt, orL] at h1
      obtain ⟨x, HX⟩ := nameIt (l[i]'hlt)
      rw [HX.out] at c1 h1
      have H1 := Lib.hid h1
      subst hae
      clear hca h1
      by_cases h0 : x = 0
      · subst h0
        have h2 := H1.out
        rw [if_pos rfl] at h2
        have HE2 := Lib.hid h2
        clear h2
        go_wp2
        go_roundg (l.length - (i + 1))
        case measure => omega
        case rel => exact ⟨i + 1, by omega, by omega, by go_num, rfl, HE2⟩
      · have h2 := H1.out
        rw [if_neg h0] at h2
        have HE2 := Lib.hid h2
        have hcb : (x != 0) = true := by simpa using h0
        clear h2 h0
        go_wp2
        go_ret
        exact ⟨by rw [← HE2.out]; rfl, rfl⟩
    · have hlt' : ¬ (i : Int) < (l.length : Int) := by omega
      have HE2 : Hid (orL l = 0) := by show _ = _; rw [← HE.out, List.drop_of_length_le (by omega), orL]
      go_wp2
      go_ret
      exact ⟨by rw [HE2.out]; rfl, rfl⟩
end Go.Proofs.Ytmbjnemahgfhcaa
namespace Go.Proofs.Ytmbjnemahgfhcaa
open Go.RowKit

structure Gram where
  terms : Int
  nons : Int
  start : Int
  rules : List Rule
  deriving DecidableEq
def Gram.d (g : Gram) : D := .agg [.int g.terms, .int g.nons, .int g.start, .sl (g.rules.map Rule.d)]
def hasS (g : Gram) (s : Sym) : Bool := decide (0 ≤ s.n) && (s.term && decide (s.n < g.terms) || !s.term && decide (s.n < g.nons))
def ordS (a b : Sym) : Int := if a.term = b.term then cmp3 a.n b.n else if a.term then -1 else 1
def cmpS : List Sym → List Sym → Int
  | [], [] => 0
  | [], _ :: _ => -1
  | _ :: _, [] => 1
  | x :: l, y :: m => if ordS x y = 0 then cmpS l m else ordS x y
def cmpR (a b : Rule) : Int := orL [cmp3 a.left b.left, cmpS a.right b.right]
theorem ordS_zero {a b : Sym} : ordS a b = 0 ↔ a = b := by
  constructor
  · intro h
    unfold ordS at h
    by_cases e : a.term = b.term
    · rw [if_pos e] at h
      have := cmp3_zero h
      cases a; cases b; simp_all
    · rw [if_neg e] at h
      split at h <;> simp at h
  · rintro rfl
    simp [ordS, cmp3_self]
theorem cmpS_zero : ∀ {l m : List Sym}, cmpS l m = 0 ↔ l = m
  | [], [] => by simp [cmpS]
  | [], _ :: _ => by simp [cmpS]
  | _ :: _, [] => by simp [cmpS]
  | x :: l, y :: m => by
    rw [cmpS]
    by_cases h : ordS x y = 0
    · rw [if_pos h, cmpS_zero]
      rw [ordS_zero] at h
      simp [h]
    · rw [if_neg h]
      rw [ordS_zero] at h
      constructor
      · intro h2; rw [ordS_zero] at h2; exact absurd h2 h
      · intro h2; simp at h2; exact absurd h2.1 h
theorem cmpR_zero {a b : Rule} : cmpR a b = 0 ↔ a = b := by
  unfold cmpR
  simp only [orL]
  constructor
  · intro h
    by_cases h1 : cmp3 a.left b.left = 0
    · rw [if_pos h1] at h
      by_cases h2 : cmpS a.right b.right = 0
      · have := cmp3_zero h1
        rw [cmpS_zero] at h2
        cases a; cases b; simp_all
      · rw [if_neg h2] at h; exact absurd h h2
    · rw [if_neg h1] at h; exact absurd h h1
  · rintro rfl
    have : cmpS a.right a.right = 0 := cmpS_zero.2 rfl
    simp [cmp3_self, this]
/-- the fault of the rule i -/
def faultR (g : Gram) (i : Nat) (r : Rule) : Int :=
  if r.left < 0 ∨ g.nons ≤ r.left then 3 else if 4 < r.right.length then 2 else if r.right.any (fun s => !hasS g s) then 3 else if (g.rules.take i).any (fun x => cmpR x r == 0) then 6 else 0
def faultsFrom (g : Gram) : Nat → List Rule → Int
  | _, [] => 0
  | i, r :: l => if faultR g i r = 0 then faultsFrom g (i + 1) l else faultR g i r
def badHead (g : Gram) : Bool := decide (g.terms < 1) || decide (8 < g.terms) || decide (g.nons < 1) || decide (10 < g.nons) || decide (g.start < 0) || decide (g.nons ≤ g.start)
def checkG (g : Gram) : Int := if badHead g then 1 else if 32 < g.rules.length then 2 else faultsFrom g 0 g.rules
theorem faultsFrom_at {g : Gram} {i : Nat} (h : i < g.rules.length) : faultsFrom g i (g.rules.drop i) = if faultR g i g.rules[i] = 0 then faultsFrom g (i + 1) (g.rules.drop (i + 1)) else faultR g i g.rules[i] := by
  rw [List.drop_eq_getElem_cons h, faultsFrom]
theorem faultsFrom_zero {g : Gram} : ∀ {l : List Rule} {i : Nat}, faultsFrom g i l = 0 → ∀ r ∈ l, 0 ≤ r.left ∧ r.left < g.nons ∧ r.right.length ≤ 4 ∧ ∀ s ∈ r.right, hasS g s = true
  | [], i, _, r, hr => by simp at hr
  | x :: l, i, h, r, hr => by
    rw [faultsFrom] at h
    by_cases h0 : faultR g i x = 0
    · rw [if_pos h0] at h
      rcases List.mem_cons.1 hr with rfl | hr
      · unfold faultR at h0
        by_cases h1 : r.left < 0 ∨ g.nons ≤ r.left
        · rw [if_pos h1] at h0; simp at h0
        · rw [if_neg h1] at h0
          by_cases h2 : 4 < r.right.length
          · rw [if_pos h2] at h0; simp at h0
          · rw [if_neg h2] at h0
            by_cases h3 : r.right.any (fun s => !hasS g s) = true
            · rw [if_pos h3] at h0; simp at h0
            · refine ⟨by omega, by omega, by omega, fun s hs => ?_⟩
              simp at h3
              exact h3 s hs
      · exact faultsFrom_zero h r hr
    · rw [if_neg h0] at h; exact absurd h h0
theorem checkG_zero {g : Gram} (h : checkG g = 0) : (1 ≤ g.terms ∧ g.terms ≤ 8 ∧ 1 ≤ g.nons ∧ g.nons ≤ 10 ∧ 0 ≤ g.start ∧ g.start < g.nons) ∧ g.rules.length ≤ 32 ∧ ∀ r ∈ g.rules, 0 ≤ r.left ∧ r.left < g.nons ∧ r.right.length ≤ 4 ∧ ∀ s ∈ r.right, hasS g s = true := by
  unfold checkG at h
  by_cases h1 : badHead g = true
  · rw [if_pos h1] at h; simp at h
  · rw [if_neg h1] at h
    by_cases h2 : 32 < g.rules.length
    · rw [if_pos h2] at h; simp at h
    · rw [if_neg h2] at h
      refine ⟨?_, by omega, faultsFrom_zero h⟩
      simp [badHead] at h1
      omega
end Go.Proofs.Ytmbjnemahgfhcaa
namespace Go.Proofs.Ytmbjnemahgfhcaa
open Go.RowKit

def ruleEdges (r : Rule) : List (Nat × Nat) := r.right.filterMap fun s => if s.term then none else some (r.left.toNat, s.n.toNat)
inductive Pth (E : List (Nat × Nat)) : Nat → Nat → Prop
  | one {i j : Nat} : (i, j) ∈ E → Pth E i j
  | cons {i j k : Nat} : (i, j) ∈ E → Pth E j k → Pth E i k
theorem Pth.trans {E : List (Nat × Nat)} {i j k : Nat} (h : Pth E i j) (h2 : Pth E j k) : Pth E i k := by
  induction h with
  | one h => exact .cons h h2
  | cons h _ ih => exact .cons h (ih h2)
theorem Pth.snoc {E : List (Nat × Nat)} {i j k : Nat} (h : Pth E i j) (h2 : (j, k) ∈ E) : Pth E i k := h.trans (.one h2)
/-- in rounds over the places between -/
def fw (E : List (Nat × Nat)) : Nat → Nat → Nat → Bool
  | 0, i, j => decide ((i, j) ∈ E)
  | k + 1, i, j => fw E k i j || (fw E k i k && fw E k k j)
theorem fw_mono {E : List (Nat × Nat)} {k i j : Nat} (h : fw E k i j = true) : fw E (k + 1) i j = true := by rw [fw, h]; rfl
theorem fw_edge {E : List (Nat × Nat)} {i j : Nat} (h : (i, j) ∈ E) : ∀ k, fw E k i j = true
  | 0 => by simpa [fw] using h
  | k + 1 => fw_mono (fw_edge h k)
theorem fw_sound {E : List (Nat × Nat)} : ∀ {k i j : Nat}, fw E k i j = true → Pth E i j
  | 0, i, j, h => .one (by simpa [fw] using h)
  | k + 1, i, j, h => by
    rw [fw] at h
    simp at h
    rcases h with h | ⟨h1, h2⟩
    · exact fw_sound h
    · exact (fw_sound h1).trans (fw_sound h2)
theorem fw_row {E : List (Nat × Nat)} (k i : Nat) : fw E (k + 1) i k = fw E k i k := by
  rw [fw]; cases fw E k i k <;> simp
theorem fw_col {E : List (Nat × Nat)} (k j : Nat) : fw E (k + 1) k j = fw E k k j := by
  rw [fw]; cases fw E k k j <;> cases fw E k k k <;> simp
theorem fw_trans {E : List (Nat × Nat)} : ∀ {k m i j : Nat}, m < k → fw E k i m = true → fw E k m j = true → fw E k i j = true
  | 0, m, i, j, hm, _, _ => by omega
  | k + 1, m, i, j, hm, h1, h2 => by
    by_cases e : m = k
    · subst e
      rw [fw_row] at h1
      rw [fw_col] at h2
      rw [fw, h1, h2]; simp
    · have hm' : m < k := by omega
      rw [fw] at h1 h2
      simp at h1 h2
      have put : fw E k i k = true → fw E k k j = true → fw E (k + 1) i j = true := fun a b => by rw [fw, a, b]; simp
      rcases h1 with h1 | ⟨h1, h1'⟩ <;> rcases h2 with h2 | ⟨h2, h2'⟩
      · exact fw_mono (fw_trans hm' h1 h2)
      · exact put (fw_trans hm' h1 h2) h2'
      · exact put h1 (fw_trans hm' h1' h2)
      · exact put h1 h2'
theorem fw_iff {E : List (Nat × Nat)} {N : Nat} (hE : ∀ e ∈ E, e.1 < N ∧ e.2 < N) {i j : Nat} : fw E N i j = true ↔ Pth E i j := by
  refine ⟨fw_sound, fun h => ?_⟩
  induction h with
  | one h => exact fw_edge h N
  | cons h _ ih => exact fw_trans (hE _ h).2 (fw_edge h N) ih

def cnt (N : Nat) (U : Nat → Bool) : Nat := ((List.range N).filter U).length
theorem filter_lt {l : List Nat} {U V : Nat → Bool} (h : ∀ x ∈ l, U x = true → V x = true) : (l.filter U).length ≤ (l.filter V).length ∧ (∀ x ∈ l, V x = true → U x = false → (l.filter U).length < (l.filter V).length) := by
  induction l with
  | nil => simp
  | cons a l ih =>
    obtain ⟨h1, h2⟩ := ih fun x hx => h x (List.mem_cons_of_mem _ hx)
    have ha := h a List.mem_cons_self
    simp only [List.filter_cons]
    constructor
    · cases hu : U a <;> cases hv : V a <;> simp_all <;> omega
    · intro x hx hv hu
      rcases List.mem_cons.1 hx with rfl | hx
      · rw [hu, hv]; simp; omega
      · have := h2 x hx hv hu
        cases hu' : U a <;> cases hv' : V a <;> simp_all <;> omega
end Go.Proofs.Ytmbjnemahgfhcaa
namespace Go.Proofs.Ytmbjnemahgfhcaa
open Go.RowKit
namespace Cs

def hasK (S : Nat → Nat → Bool) (s : Sym) (k : Nat) : Bool := if s.term then decide (k = 1) else S s.n.toNat k
def canK (S : Nat → Nat → Bool) : List Sym → Nat → Bool
  | [], k => decide (k = 0)
  | s :: l, k => (List.range (k + 1)).any fun i => hasK S s i && canK S l (k - i)
def splitK (S : Nat → Nat → Bool) (a b : List Sym) (k : Nat) : Bool := (List.range (k + 1)).any fun i => canK S a i && canK S b (k - i)
theorem canK_cons {S : Nat → Nat → Bool} {s : Sym} {l : List Sym} {k : Nat} : canK S (s :: l) k = true ↔ ∃ i, i ≤ k ∧ hasK S s i = true ∧ canK S l (k - i) = true := by
  rw [canK, List.any_eq_true]
  constructor
  · rintro ⟨i, hi, h⟩
    rw [Bool.and_eq_true] at h
    exact ⟨i, by have := List.mem_range.1 hi; omega, h⟩
  · rintro ⟨i, hi, h1, h2⟩
    exact ⟨i, List.mem_range.2 (by omega), by rw [h1, h2]; rfl⟩
/-- a list of at most so many trees of symbols, in which all that is asked for is good -/
def Fine (S : Nat → Nat → Bool) (G : Nat → Nat → Prop) (l : List Sym) (k : Nat) : Prop :=
  ∀ (p : Nat) (s : Sym) (i a : Nat), l[p]? = some s → s.term = false → S s.n.toNat i = true → a + i ≤ k → canK S (l.take p) a = true → canK S (l.drop (p + 1)) (k - a - i) = true → G s.n.toNat i
theorem Fine.head {S : Nat → Nat → Bool} {G : Nat → Nat → Prop} {s : Sym} {l : List Sym} {k i : Nat} (h : Fine S G (s :: l) k) (hi : i ≤ k) (h1 : hasK S s i = true) (h2 : canK S l (k - i) = true) (ht : s.term = false) : G s.n.toNat i := by
  refine h 0 s i 0 rfl ht ?_ (by omega) rfl (by simpa using h2)
  unfold hasK at h1
  rw [ht] at h1
  simpa using h1
theorem Fine.tail {S : Nat → Nat → Bool} {G : Nat → Nat → Prop} {s : Sym} {l : List Sym} {k i : Nat} (h : Fine S G (s :: l) k) (hi : i ≤ k) (h1 : hasK S s i = true) : Fine S G l (k - i) := by
  intro p s' j a hp ht hS ha h2 h3
  refine h (p + 1) s' j (i + a) hp ht hS (by omega) ?_ ?_
  · rw [List.take_succ_cons, canK_cons]
    exact ⟨i, by omega, h1, by rw [Nat.add_sub_cancel_left]; exact h2⟩
  · rw [List.drop_succ_cons]
    have : k - (i + a) - j = k - i - a - j := by omega
    rw [this]; exact h3
/-- how many nodes a node leads to -/
def reachN (T : Nat → Nat → Bool) (size u : Nat) : Nat := ((List.range size).filter fun v => T u v).length
/-- a table of truth values as edges -/
def edg (size : Nat) (F : Nat → Nat → Bool) : List (Nat × Nat) := (List.range size).flatMap fun i => ((List.range size).filter fun j => F i j).map fun j => (i, j)
/-- all that a node leads to -/
def clo (size : Nat) (F : Nat → Nat → Bool) (i j : Nat) : Bool := fw (edg size F) size i j
/-- what leads to itself, or to such: looked at below jm -/
def manyK (T : Nat → Nat → Bool) (jm u : Nat) : Bool := (List.range jm).any fun j => (u == j || T u j) && T j j
/-- the sum over ways of a list, as the program reckons it -/
def listStep (cap : Int) (sum o l : Int) : Int := min (IntKind.i64.wrap (sum + IntKind.i64.wrap (o * l))) cap
def listV (S : Nat → Nat → Bool) (cap : Int) (o : Sym → Nat → Int) : List Sym → Nat → Int
  | [], k => if k = 0 then 1 else 0
  | s :: l, k => (List.range (k + 1)).foldl (fun sum i => if (hasK S s i && canK S l (k - i)) = true then listStep cap sum (o s i) (listV S cap o l (k - i)) else sum) 0
def symV (S : Nat → Nat → Bool) (f : Nat → Nat → Int) (s : Sym) (k : Nat) : Int := if hasK S s k = false then 0 else if s.term then 1 else f s.n.toNat k
def ofF (rules : List Rule) (S M : Nat → Nat → Bool) (cap many : Int) : Nat → Nat → Nat → Int
  | 0, _, _ => 0
  | f + 1, A, k => if S A k = false then 0 else if M A k then many else rules.foldl (fun sum r => if r.left = (A : Int) then min (IntKind.i64.wrap (sum + listV S cap (symV S (ofF rules S M cap many f)) r.right k)) cap else sum) 0
/-- a node from which counting ends, in so many steps -/
def okK (T M : Nat → Nat → Bool) (n size f A k : Nat) : Prop := M A k = true ∨ reachN T size (A * (n + 1) + k) < f
section
variable {rules : List Rule} {S M T : Nat → Nat → Bool} {N n size : Nat} {cap many : Int}
theorem okK.mono {f f' A k : Nat} (h : okK T M n size f A k) (hf : f ≤ f') : okK T M n size f' A k := h.imp id fun h => by omega
/-- the number of trees, as the program reckons it -/
def valK (rules : List Rule) (S M : Nat → Nat → Bool) (cap many : Int) (size : Nat) (A k : Nat) : Int := ofF rules S M cap many (size + 2) A k
end
end Cs
end Go.Proofs.Ytmbjnemahgfhcaa
namespace Go.Proofs.Ytmbjnemahgfhcaa
open Go.RowKit
namespace Cs

def updB (F : Nat → Nat → Bool) (a b : Nat) : Nat → Nat → Bool := fun k l => if k = a ∧ l = b then true else F k l
/-- one place: rule r at length k, symbol i, of length j -/
def e1 (S : Nat → Nat → Bool) (n : Nat) (r : Rule) (k i : Nat) (F : Nat → Nat → Bool) (j : Nat) : Nat → Nat → Bool :=
  if (S ((r.right.getD i ⟨true, 0⟩).n.toNat) j && splitK S (r.right.take i) (r.right.drop (i + 1)) (k - j)) = true then updB F (r.left.toNat * (n + 1) + k) ((r.right.getD i ⟨true, 0⟩).n.toNat * (n + 1) + j) else F
def e2 (S : Nat → Nat → Bool) (n : Nat) (r : Rule) (k i : Nat) (F : Nat → Nat → Bool) (jm : Nat) : Nat → Nat → Bool := (List.range jm).foldl (e1 S n r k i) F
def e3 (S : Nat → Nat → Bool) (n : Nat) (r : Rule) (k : Nat) (F : Nat → Nat → Bool) (im : Nat) : Nat → Nat → Bool := (List.range im).foldl (fun F i => if (r.right.getD i ⟨true, 0⟩).term then F else e2 S n r k i F (k + 1)) F
def e4 (S : Nat → Nat → Bool) (n : Nat) (r : Rule) (F : Nat → Nat → Bool) (km : Nat) : Nat → Nat → Bool := (List.range km).foldl (fun F k => e3 S n r k F r.right.length) F
def e5 (S : Nat → Nat → Bool) (n : Nat) (l : List Rule) : Nat → Nat → Bool := l.foldl (fun F r => e4 S n r F (n + 1)) (fun _ _ => false)
section
variable {S : Nat → Nat → Bool} {n : Nat} {u v : Nat}
end
/-- which nodes have infinitely many trees -/
def sizeK (N n : Nat) : Nat := N * (n + 1)
def clK (rules : List Rule) (S : Nat → Nat → Bool) (N n : Nat) : Nat → Nat → Bool := clo (sizeK N n) (e5 S n rules)
def MK (rules : List Rule) (S : Nat → Nat → Bool) (N n : Nat) : Nat → Nat → Bool := fun A k => manyK (clK rules S N n) (sizeK N n) (A * (n + 1) + k)
/-- a pass over the table of lengths -/
def p1 (r : Rule) (st : (Nat → Nat → Bool) × Bool) (k : Nat) : (Nat → Nat → Bool) × Bool := if (!st.1 r.left.toNat k && canK st.1 r.right k) = true then (updB st.1 r.left.toNat k, true) else st
def p2 (n : Nat) (st : (Nat → Nat → Bool) × Bool) (r : Rule) : (Nat → Nat → Bool) × Bool := (List.range (n + 1)).foldl (p1 r) st
def p3 (n : Nat) (l : List Rule) (S : Nat → Nat → Bool) : (Nat → Nat → Bool) × Bool := l.foldl (p2 n) (S, false)
def itP (n : Nat) (l : List Rule) : Nat → (Nat → Nat → Bool) → (Nat → Nat → Bool)
  | 0, S => S
  | m + 1, S => itP n l m (p3 n l S).1
end Cs
end Go.Proofs.Ytmbjnemahgfhcaa
namespace Go.Proofs.Ytmbjnemahgfhcaa
open Go.RowKit
namespace Cs

/-- all lists of trees of symbols with a length together -/
def enL (S : Nat → Nat → Bool) (o : Sym → Nat → List Tree) : List Sym → Nat → List (List Tree)
  | [], k => if k = 0 then [[]] else []
  | s :: l, k => (List.range (k + 1)).flatMap fun i => if (hasK S s i && canK S l (k - i)) = true then (o s i).flatMap fun x => (enL S o l (k - i)).map (x :: ·) else []
def symE (S : Nat → Nat → Bool) (e : Nat → Nat → List Tree) (s : Sym) (k : Nat) : List Tree := if hasK S s k = false then [] else if s.term then [.node (-1) s.n []] else e s.n.toNat k
def enR (S : Nat → Nat → Bool) (o : Sym → Nat → List Tree) (A : Int) (k : Nat) : List Rule → Nat → List Tree
  | [], _ => []
  | r :: rs, j => (if r.left = A then (enL S o r.right k).map fun ks => Tree.node (j : Int) 0 ks else []) ++ enR S o A k rs (j + 1)
/-- all trees of a nonterminal of at most so many levels -/
def enF (rules : List Rule) (S : Nat → Nat → Bool) : Nat → Nat → Nat → List Tree
  | 0, _, _ => []
  | f + 1, A, k => if S A k = false then [] else enR S (symE S (enF rules S f)) (A : Int) k rules 0
/-- a node from which no circle is reached, in so many steps -/
def Gd (M T : Nat → Nat → Bool) (N n size f A k : Nat) : Prop := A < N ∧ k ≤ n ∧ M A k = false ∧ reachN T size (A * (n + 1) + k) < f
theorem Fine.mono {S : Nat → Nat → Bool} {G G' : Nat → Nat → Prop} {l : List Sym} {k : Nat} (h : Fine S G l k) (hg : ∀ A i, G A i → G' A i) : Fine S G' l k := fun p s i a h1 h2 h3 h4 h5 h6 => hg _ _ (h p s i a h1 h2 h3 h4 h5 h6)
section
variable {rules : List Rule} {S M T : Nat → Nat → Bool} {N n size : Nat} {cap many : Int}
theorem Gd.mono {f f' A k : Nat} (h : Gd M T N n size f A k) (hf : f ≤ f') : Gd M T N n size f' A k := ⟨h.1, h.2.1, h.2.2.1, Nat.lt_of_lt_of_le h.2.2.2 hf⟩
/-- the trees of a nonterminal -/
def EN (rules : List Rule) (S : Nat → Nat → Bool) (size : Nat) : Nat → Nat → List Tree := enF rules S (size + 2)
end
def prodL (xs : List Tree) (ys : List (List Tree)) : List (List Tree) := xs.flatMap fun x => ys.map (x :: ·)
/-- the block of lists whose first tree has a length -/
def blk (S : Nat → Nat → Bool) (o : Sym → Nat → List Tree) (s : Sym) (l : List Sym) (k i : Nat) : List (List Tree) := if (hasK S s i && canK S l (k - i)) = true then prodL (o s i) (enL S o l (k - i)) else []
def pre (S : Nat → Nat → Bool) (o : Sym → Nat → List Tree) (s : Sym) (l : List Sym) (k m : Nat) : List (List Tree) := (List.range m).flatMap (blk S o s l k)
section
variable {rules : List Rule} {S M T : Nat → Nat → Bool} {N n size : Nat} {cap many : Int}
end
end Cs
end Go.Proofs.Ytmbjnemahgfhcaa
namespace Go.Proofs.Ytmbjnemahgfhcaa
open Go.RowKit
namespace Cs

section
variable {rules : List Rule} {S M T : Nat → Nat → Bool} {N n size : Nat} {cap many : Int}
end
end Cs
end Go.Proofs.Ytmbjnemahgfhcaa
namespace Go.Proofs.Ytmbjnemahgfhcaa
open Go.RowKit

theorem made_at (z : Value) (n j : Nat) (h : j < n) : (madeCells #[z] n)[j]? = some z := by
  simp [madeCells, h, Nat.mod_one]

/-- rows lo .. n of the table in block bt are there: row k in block rb k, of m + 1 numbers -/
structure Tab (B bt n m : Nat) (rb : Nat → Nat) (lo : Nat) (val : Nat → Nat → Int) (wr : World) : Prop where
  tb : ∃ cs, wr.heap[bt]? = some (.cells cs 36 (0, 0)) ∧ cs.size = n + 1 ∧ ∀ k, lo ≤ k → k ≤ n → cs[k]? = some (.slice (some ⟨rb k, 0, none⟩) (m + 1) (m + 1))
  row : ∀ k, lo ≤ k → k ≤ n → ∃ cs, wr.heap[rb k]? = some (.cells cs 3 (0, 0)) ∧ cs.size = m + 1 ∧ ∀ j, j ≤ m → cs[j]? = some (.int .i64 (val k j))
  inj : ∀ k k', lo ≤ k → k ≤ n → lo ≤ k' → k' ≤ n → rb k = rb k' → k = k'
  ne : ∀ k, lo ≤ k → k ≤ n → rb k ≠ bt ∧ B ≤ rb k
  bB : B ≤ bt
section
variable {B bt n m : Nat} {rb : Nat → Nat} {lo : Nat} {val : Nat → Nat → Int} {wr w' : World}
theorem Tab.keep (h : Tab B bt n m rb lo val wr) (hb : Below wr.heap.size wr w') : Tab B bt n m rb lo val w' := by
  obtain ⟨⟨cs, h1, h2, h3⟩, h4, h5, h6, h7⟩ := h
  refine ⟨⟨cs, bx_keep h1 hb, h2, h3⟩, fun k hk hn => ?_, h5, h6, h7⟩
  obtain ⟨rs, r1, r2⟩ := h4 k hk hn
  exact ⟨rs, bx_keep r1 hb, r2⟩
theorem Tab.grown {row : Option Nat} (h : Tab B bt n m rb lo val wr) (hg : wr.grownBy w' row) (hr : ∀ k, row = some k → k ≠ bt ∧ ∀ i, lo ≤ i → i ≤ n → rb i ≠ k) : Tab B bt n m rb lo val w' := by
  obtain ⟨⟨cs, h1, h2, h3⟩, h4, h5, h6, h7⟩ := h
  refine ⟨⟨cs, ?_, h2, h3⟩, fun k hk hn => ?_, h5, h6, h7⟩
  · rw [hg.block bt (Array.getElem?_eq_some_iff.1 h1).1 (fun e => (hr bt e.symm).1 rfl)]; exact h1
  · obtain ⟨rs, r1, r2⟩ := h4 k hk hn
    refine ⟨rs, ?_, r2⟩
    rw [hg.block (rb k) (Array.getElem?_eq_some_iff.1 r1).1 (fun e => (hr _ e.symm).2 k hk hn rfl)]; exact r1
theorem Tab.hdr (h : Tab B bt n m rb lo val wr) {k : Nat} (hk : lo ≤ k) (hn : k ≤ n) : wr.cell? ⟨bt, k, none⟩ = some (.slice (some ⟨rb k, 0, none⟩) (m + 1) (m + 1)) := by
  obtain ⟨cs, h1, h2, h3⟩ := h.tb
  simp [World.cell?, h1, h3 k hk hn]
theorem Tab.cell (h : Tab B bt n m rb lo val wr) {k j : Nat} (hk : lo ≤ k) (hn : k ≤ n) (hj : j ≤ m) : wr.cell? ⟨rb k, j, none⟩ = some (.int .i64 (val k j)) := by
  obtain ⟨cs, h1, h2, h3⟩ := h.row k hk hn
  simp [World.cell?, h1, h3 j hj]
theorem Tab.free (h : Tab B bt n m rb lo val wr) {k : Nat} (hk : lo ≤ k) (hn : k ≤ n) (j : Nat) : wr.frozen? ⟨rb k, j, none⟩ = false := by
  obtain ⟨cs, h1, h2, h3⟩ := h.row k hk hn
  simp [World.frozen?, h1]
theorem Tab.lt (h : Tab B bt n m rb lo val wr) : bt < wr.heap.size := by
  obtain ⟨cs, h1, _⟩ := h.tb
  exact (Array.getElem?_eq_some_iff.1 h1).1
theorem Tab.rlt (h : Tab B bt n m rb lo val wr) {k : Nat} (hk : lo ≤ k) (hn : k ≤ n) : rb k < wr.heap.size := by
  obtain ⟨cs, h1, _⟩ := h.row k hk hn
  exact (Array.getElem?_eq_some_iff.1 h1).1
/-- a number stored -/
theorem Tab.set (h : Tab B bt n m rb lo val wr) {i j : Nat} (hi : lo ≤ i) (hin : i ≤ n) (hj : j ≤ m) (x : Int) : Tab B bt n m rb lo (fun k l => if k = i ∧ l = j then x else val k l) (wr.setCell ⟨rb i, j, none⟩ (.int .i64 x)) := by
  obtain ⟨⟨cs, h1, h2, h3⟩, h4, h5, h6, h7⟩ := h
  refine ⟨⟨cs, bx_other h1 (fun e => (h6 i hi hin).1 e.symm) _ _, h2, h3⟩, fun k hk hn => ?_, h5, h6, h7⟩
  obtain ⟨rs, r1, r2, r3⟩ := h4 k hk hn
  by_cases e : k = i
  · subst e
    refine ⟨rs.setIfInBounds j (.int .i64 x), bx_set r1 _ _, by simpa using r2, fun l hl => ?_⟩
    rw [Array.getElem?_setIfInBounds]
    by_cases e2 : j = l
    · subst e2
      rw [if_pos rfl, if_pos (by omega)]; simp
    · rw [if_neg e2, r3 l hl]
      simp [show ¬ l = j from fun h => e2 h.symm]
  · refine ⟨rs, bx_other r1 (fun e2 => e (h5 k i hk hn hi hin e2)) _ _, r2, fun l hl => ?_⟩
    rw [r3 l hl]; simp [e]
/-- a new row: laid, and its header stored -/
theorem Tab.add {i : Nat} (h : Tab B bt n m rb (i + 1) val wr) (hi : i ≤ n) (hB : B ≤ wr.heap.size) :
    Tab B bt n m (fun k => if k = i then wr.heap.size else rb k) i (fun k l => if k = i then 0 else val k l) ((wr.alloc (.cells (madeCells #[.int .i64 0] (m + 1)) 3)).setCell ⟨bt, i, none⟩ (.slice (some ⟨wr.heap.size, 0, none⟩) (m + 1) (m + 1))) := by
  have hbt := h.lt
  have hrl := fun k hk hn => h.rlt (k := k) hk hn
  obtain ⟨⟨cs, h1, h2, h3⟩, h4, h5, h6, h7⟩ := h
  have hba : Below wr.heap.size wr (wr.alloc (.cells (madeCells #[.int .i64 0] (m + 1)) 3)) := (Below.refl _ _).alloc (Nat.le_refl _) _
  refine ⟨⟨cs.setIfInBounds i (.slice (some ⟨wr.heap.size, 0, none⟩) (m + 1) (m + 1)), bx_set (bx_keep h1 hba) _ _, by simpa using h2, fun k hk hn => ?_⟩, fun k hk hn => ?_, fun k k' hk hn hk' hn' e => ?_, fun k hk hn => ?_, h7⟩
  · rw [Array.getElem?_setIfInBounds]
    by_cases e : i = k
    · subst e
      rw [if_pos rfl, if_pos (by omega)]; simp
    · rw [if_neg e, h3 k (by omega) hn]
      simp [show ¬ k = i from fun h => e h.symm]
  · by_cases e : k = i
    · subst e
      refine ⟨madeCells #[.int .i64 0] (m + 1), ?_, size_madeCells _ _, fun j hj => ?_⟩
      · simp only [if_true]
        exact bx_other (bx_new _ _ _ rfl) (by omega) _ _
      · rw [made_at _ _ _ (by omega)]; simp
    · obtain ⟨rs, r1, r2, r3⟩ := h4 k (by omega) hn
      refine ⟨rs, ?_, r2, fun j hj => by rw [r3 j hj]; simp [e]⟩
      simp only [e, if_false]
      exact bx_other (bx_keep r1 hba) (h6 k (by omega) hn).1 _ _
  · by_cases e1 : k = i <;> by_cases e2 : k' = i <;> simp only [e1, e2, if_true, if_false] at e ⊢
    · have := hrl k' (by omega) hn'; omega
    · have := hrl k (by omega) hn; omega
    · exact h5 k k' (by omega) hn (by omega) hn' e
  · by_cases e : k = i
    · subst e; simp only [if_true]; omega
    · simp only [e, if_false]; exact h6 k (by omega) hn
theorem Tab.eq {val' : Nat → Nat → Int} (h : Tab B bt n m rb lo val wr) (he : ∀ k j, lo ≤ k → k ≤ n → j ≤ m → val k j = val' k j) : Tab B bt n m rb lo val' wr := by
  obtain ⟨h1, h4, h5, h6, h7⟩ := h
  refine ⟨h1, fun k hk hn => ?_, h5, h6, h7⟩
  obtain ⟨rs, r1, r2, r3⟩ := h4 k hk hn
  exact ⟨rs, r1, r2, fun j hj => by rw [r3 j hj, he k j hk hn hj]⟩
end
end Go.Proofs.Ytmbjnemahgfhcaa
namespace Go.Proofs.Ytmbjnemahgfhcaa
open Go.RowKit

mutual
theorem Rd.ones {S : Nat → Prop} {w : World} : ∀ (d : D) (cs : List Value), Rd S w d cs → ∀ u ∈ cs, u.oneCell' = true
  | .int n, cs, h => by simp [Rd] at h; subst h; simp [Value.oneCell']
  | .bool n, cs, h => by simp [Rd] at h; subst h; simp [Value.oneCell']
  | .str n, cs, h => by simp [Rd] at h; subst h; simp [Value.oneCell']
  | .sl ds, cs, h => by obtain ⟨a, cap, L, rfl, _⟩ := h; simp [Value.oneCell']
  | .agg ds, cs, h => RdAll.ones ds cs h
theorem RdAll.ones {S : Nat → Prop} {w : World} : ∀ (ds : List D) (cs : List Value), RdAll S w ds cs → ∀ u ∈ cs, u.oneCell' = true
  | [], cs, h => by simp [RdAll] at h; subst h; simp
  | d :: ds, cs, h => by
    obtain ⟨c1, c2, rfl, h1, h2⟩ := h
    intro u hu
    rcases List.mem_append.1 hu with hu | hu
    · exact Rd.ones d c1 h1 u hu
    · exact RdAll.ones ds c2 h2 u hu
end

/-- append of a slice of data to a row of the call's own -/
theorem wp_appD {P : Program} {ops : Array Oper} {rest : List Oper} {o : Oper} {a : Act} {Q : Exit → Act → World → Prop} {w : World} {t e : TypeId} {size bytes : Nat} (E : ElemT P t e size bytes)
    (hgd : o.guard = none) (s x : Operand) (ho : o.op = .call { callee := .builtin .append, args := #[s, x], argTypes := #[t, t] })
    {B : Nat} {v u : Value} {n : Nat} {xs : List Value} {S : Nat → Prop} {ds : List D} (hown : w.ownsRow B e size v n xs) (hs : a.eval s = v) (hsl : Rd S w (.sl ds) [u]) (hx : a.eval x = u) (hk : ∀ d ∈ ds, d.cells = size)
    (hb : (n + ds.length) * bytes ≤ 140737488355328) (hm : n + ds.length ≤ maxLen) (hB : B ≤ w.heap.size)
    (h : ∀ v' w' L, RdAll S w ds L → w'.ownsRow B e size v' (n + ds.length) (xs ++ L) → w.grownBy w' v.ownBlock → (v'.ownBlock = v.ownBlock ∨ ∃ k, v'.ownBlock = some k ∧ w.heap.size ≤ k) → wpList P ops Q rest (a.put o.dst v') w') :
    wpList P ops Q (o :: rest) a w := by
  obtain ⟨hu, ⟨i, z, hi, hz, hsz, hby, hzs⟩, hp⟩ := E
  obtain ⟨a', cap, L, e1, hl, hc, hn, hcell, hd⟩ := hsl
  simp at e1
  subst e1
  have hL : L.length = ds.length * size := by rw [RdAll.len _ _ hd, cellsAll_eq hk]
  cases a' with
  | none =>
    obtain rfl : cap = 0 := hn rfl
    have h0 : ds.length = 0 := by omega
    have hL0 : L = [] := List.eq_nil_of_length_eq_zero (by rw [hL, h0]; simp)
    subst hL0
    rw [h0] at hx
    refine wpList_append_own_none hgd s x t ho B e i size hu hi v n xs hs hown hx (h v w [] hd (by simpa [h0] using hown) ?_ (.inl rfl))
    exact ⟨rfl, rfl, rfl, Nat.le_refl _, fun _ _ _ => rfl⟩
  | some ad =>
    refine wpList_append_own_at w hgd s x t ho B e i z size bytes hu hi hz hsz hby hzs hp v n xs hs hown ad ds.length cap L hx hL ?_ (RdAll.ones _ _ hd) hm hb hB fun v' w' h2 h3 _ h5 => h v' w' L hd h2 h3 (h5.imp id fun e => ⟨_, e, Nat.le_refl _⟩)
    intro j y hj
    obtain ⟨hj1, hj2⟩ := List.getElem?_eq_some_iff.1 hj
    obtain ⟨y', hy, _, h2⟩ := hcell j hj1
    cases hy
    rw [h2, hj2]

/-- a row of data of the call's own, in blocks of S, and beside the row's own block -/
structure RowD (S : Nat → Prop) (B : Nat) (e : TypeId) (size : Nat) (ds : List D) (v : Value) (wr : World) : Prop where
  own : ∃ xs, wr.ownsRow B e size v ds.length xs ∧ RdAll (fun k => S k ∧ v.ownBlock ≠ some k) wr ds xs
  le : B ≤ wr.heap.size
theorem RowD.keep {S : Nat → Prop} {B : Nat} {e : TypeId} {size : Nat} {ds : List D} {v : Value} {wr w' : World} (h : RowD S B e size ds v wr) (hb : Below wr.heap.size wr w') : RowD S B e size ds v w' := by
  obtain ⟨⟨xs, h1, h2⟩, h3⟩ := h
  exact ⟨⟨xs, own_keep h1 hb, h2.below hb⟩, Nat.le_trans h3 hb.size⟩
theorem RowD.form {S : Nat → Prop} {B : Nat} {e : TypeId} {size : Nat} {ds : List D} {v : Value} {wr : World} (h : RowD S B e size ds v wr) : ∃ a cap, v = .slice a ds.length cap ∧ ds.length ≤ cap ∧ cap ≤ maxLen ∧ ∀ k, v.ownBlock = some k → B ≤ k ∧ k < wr.heap.size := by
  obtain ⟨⟨xs, h1, h2⟩, h3⟩ := h
  obtain ⟨a, cap, rfl, e1, e2⟩ := own_len h1
  exact ⟨a, cap, rfl, e1, e2, h1.lt⟩
theorem RowD.rd {S : Nat → Prop} {B : Nat} {e : TypeId} {size : Nat} {ds : List D} {v : Value} {wr : World} (h : RowD S B e size ds v wr) : Rd (fun k => S k ∨ B ≤ k) wr (.sl ds) [v] := by
  obtain ⟨⟨xs, h1, h2⟩, h3⟩ := h
  exact rd_of_own h1 (h2.mono fun k hk _ => .inl hk.1) rfl (fun k e => .inr (h1.lt k e).1)
theorem RowD.nil (S : Nat → Prop) (B : Nat) (e : TypeId) (size : Nat) (w : World) (h : B ≤ w.heap.size) : RowD S B e size [] (.slice none 0 0) w := ⟨⟨[], World.ownsRow_nil _ _ _ _, by simp [RdAll]⟩, h⟩
/-- behind an append: W0: before it -/
theorem RowD.step {S T : Nat → Prop} {B : Nat} {e : TypeId} {size : Nat} {ds es : List D} {v v' : Value} {W0 W1 : World} {xs news : List Value} {n : Nat} (h1 : W0.ownsRow B e size v n xs) (h2 : RdAll (fun k => S k ∧ v.ownBlock ≠ some k) W0 ds xs) (hn : n = ds.length)
    (hp : RdAll T W0 es news) (hT : ∀ k, T k → k < W0.heap.size → S k ∧ v.ownBlock ≠ some k) (hB : B ≤ W0.heap.size)
    (ho : W1.ownsRow B e size v' (n + es.length) (xs ++ news)) (hg : W0.grownBy W1 v.ownBlock) (hat : v'.ownBlock = v.ownBlock ∨ ∃ k, v'.ownBlock = some k ∧ W0.heap.size ≤ k) : RowD S B e size (ds ++ es) v' W1 := by
  subst hn
  exact ⟨⟨xs ++ news, by rw [List.length_append]; exact ho, own_step h2 (hp.mono hT) hg hat⟩, Nat.le_trans hB hg.size⟩
end Go.Proofs.Ytmbjnemahgfhcaa
namespace Go.Proofs.Ytmbjnemahgfhcaa
open Go.RowKit
namespace Cs

/-- a table of N rows of M one-cell values; all of it in blocks from lo on, below hi -/
structure Tb (te : TypeId) (lo hi bt N M : Nat) (rb : Nat → Nat) (val : Nat → Nat → Value) (W : World) : Prop where
  hdr : ∃ cs T, W.heap[bt]? = some (.cells cs T (0, 0)) ∧ ∀ a, a < N → cs[a]? = some (.slice (some ⟨rb a, 0, none⟩) M M)
  row : ∀ a, a < N → ∃ cs, W.heap[rb a]? = some (.cells cs te (0, 0)) ∧ cs.size = M ∧ ∀ k, k < M → cs[k]? = some (val a k)
  inj : ∀ a b, a < N → b < N → rb a = rb b → a = b
  ne : ∀ a, a < N → rb a ≠ bt ∧ lo ≤ rb a ∧ rb a < hi
  pl : lo ≤ bt ∧ bt < hi
section
variable {te : TypeId} {lo hi bt N M : Nat} {rb : Nat → Nat} {val : Nat → Nat → Value} {W W' : World}
theorem Tb.other (h : Tb te lo hi bt N M rb val W) (hs : ∀ k, lo ≤ k → k < hi → W'.heap[k]? = W.heap[k]?) : Tb te lo hi bt N M rb val W' := by
  obtain ⟨⟨cs, T, h1, h2⟩, h3, h4, h5, h6⟩ := h
  refine ⟨⟨cs, T, by rw [hs bt h6.1 h6.2]; exact h1, h2⟩, fun a ha => ?_, h4, h5, h6⟩
  obtain ⟨rs, r1, r2⟩ := h3 a ha
  exact ⟨rs, by rw [hs _ (h5 a ha).2.1 (h5 a ha).2.2]; exact r1, r2⟩
theorem Tb.keep (h : Tb te lo hi bt N M rb val W) (hh : hi ≤ W.heap.size) (hb : Below W.heap.size W W') : Tb te lo hi bt N M rb val W' := h.other fun k _ h2 => hb.block k (by omega)
theorem Tb.head (h : Tb te lo hi bt N M rb val W) {a : Nat} (ha : a < N) : W.cell? ⟨bt, a, none⟩ = some (.slice (some ⟨rb a, 0, none⟩) M M) := by
  obtain ⟨cs, T, h1, h2⟩ := h.hdr
  simp [World.cell?, h1, h2 a ha]
theorem Tb.cell (h : Tb te lo hi bt N M rb val W) {a k : Nat} (ha : a < N) (hk : k < M) : W.cell? ⟨rb a, k, none⟩ = some (val a k) := by
  obtain ⟨cs, h1, h2, h3⟩ := h.row a ha
  simp [World.cell?, h1, h3 k hk]
theorem Tb.free (h : Tb te lo hi bt N M rb val W) {a : Nat} (ha : a < N) (k : Nat) : W.frozen? ⟨rb a, k, none⟩ = false := by
  obtain ⟨cs, h1, h2, h3⟩ := h.row a ha
  simp [World.frozen?, h1]
theorem Tb.set (h : Tb te lo hi bt N M rb val W) {a k : Nat} (ha : a < N) (hk : k < M) (x : Value) : Tb te lo hi bt N M rb (fun b l => if b = a ∧ l = k then x else val b l) (W.setCell ⟨rb a, k, none⟩ x) := by
  obtain ⟨⟨cs, T, h1, h2⟩, h3, h4, h5, h6⟩ := h
  refine ⟨⟨cs, T, bx_other h1 (fun e => (h5 a ha).1 e.symm) _ _, h2⟩, fun b hb => ?_, h4, h5, h6⟩
  obtain ⟨rs, r1, r2, r3⟩ := h3 b hb
  by_cases e : b = a
  · subst e
    refine ⟨rs.setIfInBounds k x, bx_set r1 _ _, by simpa using r2, fun l hl => ?_⟩
    rw [Array.getElem?_setIfInBounds]
    by_cases e2 : k = l
    · subst e2
      rw [if_pos rfl, if_pos (by omega)]; simp
    · rw [if_neg e2, r3 l hl]
      simp [show ¬ l = k from fun h => e2 h.symm]
  · refine ⟨rs, bx_other r1 (fun e2 => e (h4 b a hb ha e2)) _ _, r2, fun l hl => ?_⟩
    rw [r3 l hl]; simp [e]
theorem Tb.eq {val' : Nat → Nat → Value} (h : Tb te lo hi bt N M rb val W) (he : ∀ a k, a < N → k < M → val a k = val' a k) : Tb te lo hi bt N M rb val' W := by
  obtain ⟨h1, h3, h4, h5, h6⟩ := h
  refine ⟨h1, fun a ha => ?_, h4, h5, h6⟩
  obtain ⟨rs, r1, r2, r3⟩ := h3 a ha
  exact ⟨rs, r1, r2, fun k hk => by rw [r3 k hk, he a k ha hk]⟩
end
/-- while it is made: the rows so far, their headers in a row of the call's own -/
structure TbI (te tr : TypeId) (B M : Nat) (x : Value) (L : List Nat) (v : Value) (W : World) : Prop where
  own : W.ownsRow B tr 1 v L.length (L.map fun b => .slice (some ⟨b, 0, none⟩) M M)
  rows : ∀ b ∈ L, B ≤ b ∧ b < W.heap.size ∧ v.ownBlock ≠ some b ∧ ∃ cs, W.heap[b]? = some (.cells cs te (0, 0)) ∧ cs.size = M ∧ ∀ k, k < M → cs[k]? = some x
  nd : L.Nodup
  le : B ≤ W.heap.size
section
variable {te tr : TypeId} {B M : Nat} {x : Value} {L : List Nat} {v : Value} {W W' : World}
theorem TbI.nil (te tr : TypeId) (B M : Nat) (x : Value) (W : World) (h : B ≤ W.heap.size) : TbI te tr B M x [] (.slice none 0 0) W := ⟨World.ownsRow_nil _ _ _ _, (fun b hb => by cases hb), List.nodup_nil, h⟩
theorem TbI.keep (h : TbI te tr B M x L v W) (hb : Below W.heap.size W W') : TbI te tr B M x L v W' := by
  obtain ⟨h1, h2, h3, h4⟩ := h
  refine ⟨own_keep h1 hb, fun b hb' => ?_, h3, Nat.le_trans h4 hb.size⟩
  obtain ⟨k1, k2, k3, cs, k4, k5⟩ := h2 b hb'
  exact ⟨k1, Nat.lt_of_lt_of_le k2 hb.size, k3, cs, bx_keep k4 hb, k5⟩
/-- a row is added: it was laid in block g, filled -/
theorem TbI.add {g : Nat} {v' : Value} {cs : Array Value} (h : TbI te tr B M x L v W) (hg : W.heap[g]? = some (.cells cs te (0, 0))) (hc : cs.size = M) (hx : ∀ k, k < M → cs[k]? = some x) (hgB : B ≤ g) (hgv : v.ownBlock ≠ some g) (hgL : g ∉ L)
    (ho : W'.ownsRow B tr 1 v' (L.length + 1) ((L.map fun b => .slice (some ⟨b, 0, none⟩) M M) ++ [.slice (some ⟨g, 0, none⟩) M M])) (hgr : W.grownBy W' v.ownBlock) (hat : v'.ownBlock = v.ownBlock ∨ ∃ k, v'.ownBlock = some k ∧ W.heap.size ≤ k) : TbI te tr B M x (L ++ [g]) v' W' := by
  obtain ⟨h1, h2, h3, h4⟩ := h
  have hv' : ∀ b, b < W.heap.size → v.ownBlock ≠ some b → v'.ownBlock ≠ some b := by
    intro b hb hv
    rcases hat with e | ⟨j, e, hj⟩
    · rw [e]; exact hv
    · rw [e]; intro e; cases e; omega
  have hgl := (Array.getElem?_eq_some_iff.1 hg).1
  refine ⟨by rw [List.length_append, List.map_append]; exact ho, fun b hb => ?_, ?_, Nat.le_trans h4 hgr.size⟩
  · rcases List.mem_append.1 hb with hb | hb
    · obtain ⟨k1, k2, k3, cs', k4, k5⟩ := h2 b hb
      exact ⟨k1, Nat.lt_of_lt_of_le k2 hgr.size, hv' b k2 k3, cs', (hgr.block b k2 (fun e => k3 e.symm)).trans k4, k5⟩
    · rw [List.mem_singleton] at hb
      subst hb
      exact ⟨hgB, Nat.lt_of_lt_of_le hgl hgr.size, hv' b hgl hgv, cs, (hgr.block b hgl (fun e => hgv e.symm)).trans hg, hc, hx⟩
  · rw [List.nodup_append]
    exact ⟨h3, by simp, fun a ha b hb => by rw [List.mem_singleton] at hb; subst hb; exact fun e => hgL (e ▸ ha)⟩
theorem TbI.fin (h : TbI te tr B M x L v W) (h0 : 0 < L.length) : ∃ bt cap, v = .slice (some ⟨bt, 0, none⟩) L.length cap ∧ ∃ rb, Tb te B W.heap.size bt L.length M rb (fun _ _ => x) W := by
  obtain ⟨h1, h2, h3, h4⟩ := h
  obtain ⟨g, cap, rfl, hg1, hg2⟩ := h1.form h0
  refine ⟨g, cap, rfl, fun a => L.getD a 0, ?_⟩
  have hget : ∀ a, a < L.length → L.getD a 0 ∈ L ∧ L[a]? = some (L.getD a 0) := fun a ha => by
    rw [List.getD_eq_getElem?_getD, List.getElem?_eq_getElem ha]
    exact ⟨List.getElem_mem ha, rfl⟩
  refine ⟨?_, fun a ha => ?_, fun a b ha hb e => ?_, fun a ha => ?_, hg1, hg2⟩
  · rcases h1.2 with ⟨h', _⟩ | ⟨g', cap', cur, h', _, hh, _, _, _, htake⟩
    · cases h'
    · cases h'
      refine ⟨cur, tr, hh, fun a ha => ?_⟩
      have e : (L.map fun b => Value.slice (some ⟨b, 0, none⟩) M M)[a]? = some (.slice (some ⟨L.getD a 0, 0, none⟩) M M) := by
        rw [List.getElem?_map, (hget a ha).2]; rfl
      rw [← htake, List.getElem?_take, if_pos (by omega)] at e
      simpa using e
  · obtain ⟨_, _, _, cs, k4, k5, k6⟩ := h2 _ (hget a ha).1
    exact ⟨cs, k4, k5, k6⟩
  · exact (List.getElem?_inj ha h3).1 (by rw [(hget a ha).2, (hget b hb).2, e])
  · obtain ⟨k1, k2, k3, _⟩ := h2 _ (hget a ha).1
    exact ⟨fun e => k3 (by rw [e]; rfl), k1, k2⟩
end
end Cs
end Go.Proofs.Ytmbjnemahgfhcaa
namespace Go.Proofs.Ytmbjnemahgfhcaa
open Go.RowKit

/-- a function of nodes, as a function value: I: what it holds of the nodes seen so far, in which blocks -/
structure NodeFn (g : Nat) (lb : Array Value) (w0 : World) (p : Tree → Bool) (N : Nat) (I : List Tree → (Nat → Prop) → World → Prop) : Prop where
  below : ∀ {s S W}, I s S W → Below w0.heap.size w0 W
  own : ∀ {s S W}, I s S W → ∀ k, S k → w0.heap.size ≤ k ∧ k < W.heap.size
  keep : ∀ {s S W W'}, I s S W → Below W.heap.size W W' → I s S W'
  call : ∀ s S W (t : Tree) (v : Value), I s S W → Rd AnyB w0 (.sl (t.kids.map Tree.d)) [v] → s.length < N →
    Calls Try.prog g (#[.agg #[.int .i64 t.rule, .int .i64 t.term, v]] ++ lb) W fun e W' => ∃ S', e = .returned (.bool (p t)) ∧ I (s ++ [t]) S' W' ∧ Keeps S W W' ∧ ∀ k, S' k → S k ∨ W.heap.size ≤ k

structure WalkRel (p : Tree → Bool) (I : List Tree → (Nat → Prop) → World → Prop) (t : Tree) (s : List Tree) (S : Nat → Prop) (W : World) (i : Nat) (S' : Nat → Prop) (W' : World) : Prop where
  inv : I (s ++ t :: nodesL ((kidsOf t).take i)) S' W'
  kps : Keeps S W W'
  sub : ∀ k, S' k → S k ∨ W.heap.size ≤ k
  all : (t :: nodesL ((kidsOf t).take i)).all p = true

end Go.Proofs.Ytmbjnemahgfhcaa
namespace Go.Proofs.Ytmbjnemahgfhcaa
open Go.RowKit

mutual
def Tree.size : Tree → Nat
  | .node _ _ ks => sizeL ks + 1
def sizeL : List Tree → Nat
  | [] => 0
  | k :: ks => Tree.size k + sizeL ks
end
theorem Tree.size_eq (t : Tree) : t.size = sizeL t.kids + 1 := by cases t; simp [Tree.size, Tree.kids]
end Go.Proofs.Ytmbjnemahgfhcaa
namespace Go.Proofs.Ytmbjnemahgfhcaa
open Go.RowKit

end Go.Proofs.Ytmbjnemahgfhcaa
namespace Go.Proofs.Ytmbjnemahgfhcaa
open Go.RowKit

mutual
theorem size_mono : ∀ (t : Tree), ∀ k ∈ t.kids, k.size < t.size
  | .node r tm ks => by
    intro k hk
    have := sizeL_mem ks k hk
    simp [Tree.size]; omega
theorem sizeL_mem : ∀ (ks : List Tree), ∀ k ∈ ks, k.size ≤ sizeL ks
  | [], k, h => by simp at h
  | x :: ks, k, h => by
    rcases List.mem_cons.1 h with rfl | h
    · simp [sizeL]
    · have := sizeL_mem ks k h; simp [sizeL]; omega
end
end Go.Proofs.Ytmbjnemahgfhcaa
namespace Go.Proofs.Ytmbjnemahgfhcaa
open Go.RowKit

def putT : Tree → List Int → Tree → Tree
  | _, [], s => s
  | t, i :: p, s => .node t.rule t.term (t.kids.mapIdx fun j k => if (j : Int) = i then putT k p s else k)
end Go.Proofs.Ytmbjnemahgfhcaa
namespace Go.Proofs.Ytmbjnemahgfhcaa

def rootS (g : Gram) (t : Tree) : Sym := if t.rule < 0 then ⟨true, t.term⟩ else match g.rules[t.rule.toNat]? with | some r => ⟨false, r.left⟩ | none => ⟨true, t.term⟩
def kidOk (g : Gram) (k : Tree) (s : Sym) : Bool := decide (-1 ≤ k.rule) && (decide (k.rule < g.rules.length) && decide (rootS g k = s))
def kidsOk (g : Gram) (ks : List Tree) (l : List Sym) : Bool := decide (ks.length = l.length) && (List.zip ks l).all fun x => kidOk g x.1 x.2
def nodeOk (g : Gram) (t : Tree) : Bool :=
  if t.rule = -1 then decide (0 ≤ t.term) && (decide (t.term < g.terms) && decide (t.kids.length = 0))
  else if t.rule < 0 then false else match g.rules[t.rule.toNat]? with
    | none => false
    | some r => decide (t.term = 0) && kidsOk g t.kids r.right
mutual
theorem kid_node : ∀ (t x k : Tree), x ∈ nodes t → x.rule ≠ -1 → k ∈ x.kids → k ∈ nodes t
  | .node r tm ks, x, k, hx, hr, hk => by
    rw [nodes] at hx ⊢
    rcases List.mem_cons.1 hx with rfl | hx
    · simp only [Tree.rule, Tree.kids] at hr hk
      rw [if_neg hr]
      exact List.mem_cons_of_mem _ (kid_mem ks k hk)
    · by_cases h : r = -1
      · rw [if_pos h] at hx; simp at hx
      · rw [if_neg h] at hx ⊢
        exact List.mem_cons_of_mem _ (kid_nodeL ks x k hx hr hk)
theorem kid_nodeL : ∀ (ks : List Tree) (x k : Tree), x ∈ nodesL ks → x.rule ≠ -1 → k ∈ x.kids → k ∈ nodesL ks
  | [], x, k, hx, _, _ => by simp [nodesL] at hx
  | y :: ks, x, k, hx, hr, hk => by
    rw [nodesL] at hx ⊢
    rcases List.mem_append.1 hx with h | h
    · exact List.mem_append_left _ (kid_node y x k h hr hk)
    · exact List.mem_append_right _ (kid_nodeL ks x k h hr hk)
theorem kid_mem : ∀ (ks : List Tree) (k : Tree), k ∈ ks → k ∈ nodesL ks
  | [], k, h => by simp at h
  | y :: ks, k, h => by
    rw [nodesL]
    rcases List.mem_cons.1 h with rfl | h
    · refine List.mem_append_left _ ?_
      rw [nodes_eq]; exact List.mem_cons_self
    · exact List.mem_append_right _ (kid_mem ks k h)
end

end Go.Proofs.Ytmbjnemahgfhcaa
