/- Own small laws: a slice value that reads as a list of one-cell values. Own small laws, more: rows of the call's own, written in place; what calls leave. Contracts of the library's generic functions over slices of ints: Equal, Delete. Nested data in memory: whole numbers, truth values, strings, slices and structs, read out of cells. Trees, in plain Lean, and how they read. Symbols and rules of grammars, in plain Lean, and how they read. Contracts of the library's generic functions over slices of ints: Clone, Grow of nil, Concat. The contracts of cmp.Compare, cmp.Or, slices.Compare of whole numbers. Grammars, in plain Lean: which are valid. Which nonterminals derive others: two ways to reckon it, in plain Lean. Plain: what a census asks: which lengths lists of symbols can have; why counting ends. Plain: the edges of a census, the passes of its tables; why counting ends. -/
import Derived.WalkKit
import Derived.ProofKit
import Derived.Below
import Derived.Deep.Slices
import Derived.Lib.Hide
import Derived.Deep.RegionLaw
import Derived.Laws.IdiomCopy
import Derived.Deep.QuietTactic
import Derived.BigQuiet
import Derived.Outline
import Derived.Lib.SlicesDelete
import Derived.Lib.SliceRun
import Derived.Laws.AppendOwnNone
import Derived.Lib.AppendZerosOnto
import Derived.Test.YtbnpemgmdnghgaaRows
import Derived.Maps.AppendAt
import Derived.Deep.AppendLies
import Derived.Deep.LoopGhost
import Derived.Deep.Cut
import Derived.Shelf.Abstract
import Derived.Deep.Onto
namespace Go.Proofs.Ytbnpemgmdnghgaa
open Go.RowKit

/-- the slice value v reads, in w, as the list L of values of one cell each -/
def Sl (w : World) (v : Value) (L : List Value) : Prop :=
  ∃ a cap, v = .slice a L.length cap ∧ L.length ≤ cap ∧ cap ≤ maxLen ∧ (a = none → cap = 0) ∧ ∀ i (h : i < L.length), ∃ x, a = some x ∧ w.cell? (x.add i) = some L[i]

theorem Sl.cases {w : World} {v : Value} {L : List Value} (h : Sl w v L) :
    (L = [] ∧ ∃ a cap, v = .slice a 0 cap ∧ cap ≤ maxLen ∧ (a = none → cap = 0)) ∨
    ∃ b off cap, v = .slice (some ⟨b, off, none⟩) L.length cap ∧ 0 < L.length ∧ L.length ≤ cap ∧ cap ≤ maxLen ∧ ∀ i (h : i < L.length), w.cell? ⟨b, off + i, none⟩ = some L[i] := by
  obtain ⟨a, cap, rfl, hl, hc, hn, hx⟩ := h
  rcases Nat.eq_zero_or_pos L.length with h0 | h0
  · left
    obtain rfl := List.eq_nil_of_length_eq_zero h0
    exact ⟨rfl, a, cap, rfl, hc, hn⟩
  · right
    obtain ⟨⟨b, off, spot⟩, rfl, h1⟩ := hx 0 h0
    have hs : spot = none := by simpa [Addr.add] using World.cell?_spot h1
    subst hs
    refine ⟨b, off, cap, rfl, h0, hl, hc, fun i hi => ?_⟩
    obtain ⟨y, hy, h2⟩ := hx i hi
    cases hy
    rw [← h2]
    congr 1
    unfold Addr.add
    by_cases e : i = 0 <;> simp [e]

theorem nameIt {α : Type} (a : α) : ∃ x, Hid (a = x) := ⟨a, rfl⟩

theorem lt_of_cell {w : World} {x : Addr} {v : Value} (h : w.cell? x = some v) : x.block < w.heap.size := by
  unfold World.cell? at h
  split at h
  · rename_i e
    exact (Array.getElem?_eq_some_iff.1 e).1
  · cases h

theorem add_block (x : Addr) (i : Nat) : (x.add i).block = x.block := by
  unfold Addr.add
  by_cases e : i = 0 <;> simp [e]

/-- what was there when a call began reads behind it as before -/
theorem Sl.keep {w w' : World} {v : Value} {L : List Value} (h : Sl w v L) (hb : Below w.heap.size w w') : Sl w' v L := by
  obtain ⟨a, cap, rfl, hl, hc, hn, hx⟩ := h
  refine ⟨a, cap, rfl, hl, hc, hn, fun i hi => ?_⟩
  obtain ⟨x, rfl, h1⟩ := hx i hi
  exact ⟨x, rfl, by rw [← h1]; exact hb.cell (lt_of_cell h1)⟩

/-- at an index inside, the address is known -/
theorem Sl.at {w : World} {a : Option Addr} {n cap : Nat} {L : List Value} (h : Sl w (.slice a n cap) L) {k : Nat} (hk : k < n) :
    ∃ b off, a = some ⟨b, off, none⟩ ∧ ∀ i (h : i < L.length), w.cell? ⟨b, off + i, none⟩ = some L[i] := by
  rcases h.cases with ⟨_, a', c', e, _⟩ | ⟨b, off, c', e, _, _, _, hx⟩
  · cases e; omega
  · cases e; exact ⟨b, off, rfl, hx⟩

theorem Sl.len {w : World} {a : Option Addr} {n cap : Nat} {L : List Value} (h : Sl w (.slice a n cap) L) : n = L.length ∧ n ≤ cap ∧ cap ≤ maxLen := by
  obtain ⟨a', c', e, hl, hc, _, _⟩ := h
  cases e; exact ⟨rfl, hl, hc⟩

theorem Sl.form {w : World} {v : Value} {L : List Value} (h : Sl w v L) : ∃ a cap, v = .slice a L.length cap := by
  obtain ⟨a', c', e, _⟩ := h; exact ⟨a', c', e⟩

/-- a row of the call's own, of one cell an element, reads as a slice -/
theorem sl_of_own {w : World} {B : Nat} {e : TypeId} {v : Value} {n : Nat} {xs : List Value} (h : w.ownsRow B e 1 v n xs) : Sl w v xs := by
  obtain ⟨hl, h⟩ := h
  rw [Nat.mul_one] at hl
  rcases h with ⟨rfl, rfl⟩ | ⟨g, cap, cur, rfl, hg, hh, hn, hc, hs, ht⟩
  · obtain rfl := List.eq_nil_of_length_eq_zero hl
    exact ⟨none, 0, rfl, by simp, by simp, fun _ => rfl, fun i hi => by simp at hi⟩
  · subst hl
    refine ⟨_, cap, rfl, hn, hc, (fun h => by cases h), fun i hi => ⟨_, rfl, ?_⟩⟩
    have : (⟨g, 0, none⟩ : Addr).add i = ⟨g, i, none⟩ := by unfold Addr.add; by_cases e : i = 0 <;> simp [e]
    rw [this]
    simp only [World.cell?, hh]
    rw [Nat.mul_one] at ht
    have h2 : xs[i]? = cur[i]? := by
      conv => lhs; rw [← ht]
      rw [List.getElem?_take, if_pos hi]; simp
    rw [List.getElem?_eq_getElem hi] at h2
    simpa using h2.symm

/-- what a program's table says of a slice type and its elements' type -/
structure ElemT (P : Program) (t e : TypeId) (size bytes : Nat) : Prop where
  und : P.underlying t = some (.slice e)
  info : ∃ (i : TypeInfo) (z : Value), P.info? e = some i ∧ i.zero = some z ∧ i.size = size ∧ i.bytes = bytes ∧ z.cells.size = size
  pos : 0 < size

theorem ElemT.mk' {P : Program} {t e : TypeId} {size bytes : Nat} {z : Value} (h : P.underlying t = some (.slice e)) (hi : (P.info? e).map (fun i => (i.zero, i.size, i.bytes)) = some (some z, size, bytes)) (hz : z.cells.size = size) (hp : 0 < size) : ElemT P t e size bytes := by
  obtain ⟨i, h1, h2, h3, h4⟩ := info_parts hi
  exact ⟨h, ⟨i, z, h1, h2, h3, h4, hz⟩, hp⟩

section
open Go.ChangeShapes Go.WideShapes Go.Deep
variable {H : Type} {enc : TypeId × Value → H} {P : Program} {w : World}

end

end Go.Proofs.Ytbnpemgmdnghgaa
namespace Go.Proofs.Ytbnpemgmdnghgaa
open Go.RowKit

/-- a row that was there stays the call's own over whatever makes new memory only -/
theorem own_keep {w w' : World} {B : Nat} {e : TypeId} {s : Nat} {v : Value} {n : Nat} {xs : List Value} (h : w.ownsRow B e s v n xs) (hb : Below w.heap.size w w') : w'.ownsRow B e s v n xs := by
  obtain ⟨h1, h2⟩ := h
  refine ⟨h1, ?_⟩
  rcases h2 with h2 | ⟨g, cap, cur, rfl, hg, hh, r⟩
  · exact .inl h2
  · refine .inr ⟨g, cap, cur, rfl, hg, ?_, r⟩
    rw [hb.block g (Array.getElem?_eq_some_iff.1 hh).1]; exact hh

theorem grown_below {w w' : World} (hb : Below w.heap.size w w') (row : Option Nat) : w.grownBy w' row := ⟨hb.os, hb.tape, hb.output, hb.size, fun k hk _ => hb.block k hk⟩

theorem grown_trans {a b c : World} {row : Option Nat} (h : a.grownBy b row) (k : b.grownBy c row) : a.grownBy c row :=
  ⟨k.os.trans h.os, k.tape.trans h.tape, k.output.trans h.output, Nat.le_trans h.size k.size, fun i hi hn => (k.block i (Nat.lt_of_lt_of_le hi h.size) hn).trans (h.block i hi hn)⟩

theorem below_drewN (w : World) (n : Nat) : Below w.heap.size w (w.drewN n) := ⟨rfl, rfl, rfl, Nat.le_refl _, fun _ _ => rfl⟩

theorem grown_cell (w : World) (a : Addr) (v : Value) : w.grownBy (w.setCell a v) (some a.block) := ⟨rfl, rfl, rfl, by simp [World.setCell], fun k _ hn => Below.heap_setCell _ _ _ _ (fun e => hn (by rw [e]))⟩

/-- the rest of a slice, cut inside its capacity -/
theorem Sl.rest {w : World} {a : Option Addr} {n cap k : Nat} {L : List Value} (h : Sl w (.slice a n cap) L) (hk : k ≤ n) (hc : cap ≠ k) : Sl w (.slice (a.map fun x => x.add k) (n - k) (cap - k)) (L.drop k) := by
  obtain ⟨a', cap', e, hl, hcm, hn, hx⟩ := h
  cases e
  refine ⟨a.map (fun x => x.add k), cap - k, by simp, by simp; omega, by omega, fun h => ?_, fun i hi => ?_⟩
  · have := hn (by simpa using h); omega
  simp at hi
  obtain ⟨x, rfl, h1⟩ := hx (k + i) (by omega)
  exact ⟨x.add k, rfl, by rw [Deep.add_add, h1]; simp⟩

theorem Sl.start {w : World} {a : Option Addr} {n cap : Nat} {L : List Value} (h : Sl w (.slice a n cap) L) {j : Nat} (hj : j ≤ n) : Sl w (.slice a j cap) (L.take j) := by
  obtain ⟨a', cap', e, hl, hcm, hn, hx⟩ := h
  cases e
  refine ⟨a, cap, by simp [Nat.min_eq_left hj], by simp; omega, hcm, hn, fun k hk => ?_⟩
  simp at hk
  obtain ⟨x, rfl, h1⟩ := hx k (by omega)
  exact ⟨x, rfl, by rw [h1]; simp⟩

theorem own_len {w : World} {B : Nat} {e : TypeId} {s : Nat} {v : Value} {n : Nat} {xs : List Value} (h : w.ownsRow B e s v n xs) : ∃ a cap, v = .slice a n cap ∧ n ≤ cap ∧ cap ≤ maxLen := by
  rcases h.2 with ⟨rfl, rfl⟩ | ⟨g, cap, cur, rfl, _, _, h1, h2, _⟩
  · exact ⟨_, _, rfl, by simp, by simp⟩
  · exact ⟨_, _, rfl, h1, h2⟩

theorem bx_keep {w w' : World} {b : Nat} {o : Obj} (h : w.heap[b]? = some o) (hb : Below w.heap.size w w') : w'.heap[b]? = some o := by
  rw [hb.block b (Array.getElem?_eq_some_iff.1 h).1]; exact h

theorem bx_cells3 {w : World} {b : Nat} {x0 x1 x2 : Value} {T : TypeId} (h : w.heap[b]? = some (.cells #[x0, x1, x2] T (0, 0))) :
    w.cell? ⟨b, 0, none⟩ = some x0 ∧ w.cell? ⟨b, 0 + 1, none⟩ = some x1 ∧ w.cell? ⟨b, 0 + 2, none⟩ = some x2 := by
  refine ⟨?_, ?_, ?_⟩ <;> simp [World.cell?, h]

theorem bx_free3 {w : World} {b : Nat} {x0 x1 x2 : Value} {T : TypeId} (h : w.heap[b]? = some (.cells #[x0, x1, x2] T (0, 0))) :
    w.frozen? ⟨b, 0, none⟩ = false ∧ w.frozen? ⟨b, 0 + 1, none⟩ = false ∧ w.frozen? ⟨b, 0 + 2, none⟩ = false := by
  refine ⟨?_, ?_, ?_⟩ <;> simp [World.frozen?, h]

theorem bx_cells2 {w : World} {b : Nat} {x0 x1 : Value} {T : TypeId} (h : w.heap[b]? = some (.cells #[x0, x1] T (0, 0))) :
    w.cell? ⟨b, 0, none⟩ = some x0 ∧ w.cell? ⟨b, 0 + 1, none⟩ = some x1 := by
  refine ⟨?_, ?_⟩ <;> simp [World.cell?, h]
theorem bx_cells1 {w : World} {b : Nat} {x0 : Value} {T : TypeId} (h : w.heap[b]? = some (.cells #[x0] T (0, 0))) : w.cell? ⟨b, 0, none⟩ = some x0 := by
  simp [World.cell?, h]
theorem bx_free1 {w : World} {b : Nat} {x0 : Value} {T : TypeId} (h : w.heap[b]? = some (.cells #[x0] T (0, 0))) : w.frozen? ⟨b, 0, none⟩ = false := by
  simp [World.frozen?, h]
theorem bx_cells4 {w : World} {b : Nat} {x0 x1 x2 x3 : Value} {T : TypeId} (h : w.heap[b]? = some (.cells #[x0, x1, x2, x3] T (0, 0))) :
    w.cell? ⟨b, 0, none⟩ = some x0 ∧ w.cell? ⟨b, 0 + 1, none⟩ = some x1 ∧ w.cell? ⟨b, 0 + 2, none⟩ = some x2 ∧ w.cell? ⟨b, 0 + 3, none⟩ = some x3 := by
  refine ⟨?_, ?_, ?_, ?_⟩ <;> simp [World.cell?, h]
/-- one cell of a box, stored into -/
theorem bx_set {w : World} {b : Nat} {cs : Array Value} {T : TypeId} (h : w.heap[b]? = some (.cells cs T (0, 0))) (j : Nat) (v : Value) : (w.setCell ⟨b, j, none⟩ v).heap[b]? = some (.cells (cs.setIfInBounds j v) T (0, 0)) := by
  simp [World.setCell, Array.getElem?_modify, h]
theorem bx_other {w : World} {b c : Nat} {o : Obj} (h : w.heap[b]? = some o) (hne : b ≠ c) (j : Nat) (v : Value) : (w.setCell ⟨c, j, none⟩ v).heap[b]? = some o := by
  rw [Below.heap_setCell _ _ _ _ hne]; exact h
theorem bx_new (w : World) (o : Obj) (g : Nat) (hg : g = w.heap.size) : (w.alloc o).heap[g]? = some o := by subst hg; exact heap_alloc_new w o

end Go.Proofs.Ytbnpemgmdnghgaa
namespace Go.Proofs.Ytbnpemgmdnghgaa
open Go.RowKit

def ints (l : List Int) : List Value := l.map (Value.int .i64)
theorem ints_len (l : List Int) : (ints l).length = l.length := by simp [ints]
theorem ints_get (l : List Int) (i : Nat) (h : i < (ints l).length) : (ints l)[i] = .int .i64 (l[i]'(by simpa [ints] using h)) := by simp [ints]
theorem elInt : ElemT Try.prog 33 3 1 8 := ElemT.mk' (z := .int .i64 0) Try.underlying33 (by kernel_rfl) rfl (by decide)

end Go.Proofs.Ytbnpemgmdnghgaa
namespace Go.Proofs.Ytbnpemgmdnghgaa
open Go.RowKit

inductive D where
  | int (n : Int)
  | bool (b : Bool)
  | str (s : ByteArray)
  | sl (l : List D)
  | agg (l : List D)

mutual
/-- the cells cs read as the datum, in blocks of S alone -/
def Rd (S : Nat → Prop) (w : World) : D → List Value → Prop
  | .int n, cs => cs = [.int .i64 n]
  | .bool b, cs => cs = [.bool b]
  | .str s, cs => cs = [.string s]
  | .sl ds, cs => ∃ a cap L, cs = [.slice a ds.length cap] ∧ ds.length ≤ cap ∧ cap ≤ maxLen ∧ (a = none → cap = 0) ∧ (∀ i (h : i < L.length), ∃ x, a = some x ∧ S x.block ∧ w.cell? (x.add i) = some L[i]) ∧ RdAll S w ds L
  | .agg ds, cs => RdAll S w ds cs
def RdAll (S : Nat → Prop) (w : World) : List D → List Value → Prop
  | [], cs => cs = []
  | d :: ds, cs => ∃ c1 c2, cs = c1 ++ c2 ∧ Rd S w d c1 ∧ RdAll S w ds c2
end

mutual
def D.cells : D → Nat
  | .int _ => 1
  | .bool _ => 1
  | .str _ => 1
  | .sl _ => 1
  | .agg l => D.cellsAll l
def D.cellsAll : List D → Nat
  | [] => 0
  | d :: l => D.cells d + D.cellsAll l
end

def AnyB : Nat → Prop := fun _ => True

mutual
theorem Rd.len {S : Nat → Prop} {w : World} : ∀ (d : D) (cs : List Value), Rd S w d cs → cs.length = d.cells
  | .int n, cs, h => by simp [Rd] at h; simp [h, D.cells]
  | .bool n, cs, h => by simp [Rd] at h; simp [h, D.cells]
  | .str n, cs, h => by simp [Rd] at h; simp [h, D.cells]
  | .sl ds, cs, h => by obtain ⟨a, cap, L, rfl, _⟩ := h; simp [D.cells]
  | .agg ds, cs, h => by rw [D.cells]; exact RdAll.len ds cs h
theorem RdAll.len {S : Nat → Prop} {w : World} : ∀ (ds : List D) (cs : List Value), RdAll S w ds cs → cs.length = D.cellsAll ds
  | [], cs, h => by simp [RdAll] at h; simp [h, D.cellsAll]
  | d :: ds, cs, h => by
    obtain ⟨c1, c2, rfl, h1, h2⟩ := h
    simp [D.cellsAll, Rd.len d c1 h1, RdAll.len ds c2 h2]
end

mutual
/-- what lies in blocks that are as they were reads as it did; S may be widened, too -/
theorem Rd.keep {S S' : Nat → Prop} {w w' : World} (hS : ∀ k, S k → k < w.heap.size → S' k ∧ w'.heap[k]? = w.heap[k]?) : ∀ (d : D) (cs : List Value), Rd S w d cs → Rd S' w' d cs
  | .int n, cs, h => h
  | .bool n, cs, h => h
  | .str n, cs, h => h
  | .sl ds, cs, h => by
    obtain ⟨a, cap, L, rfl, h1, h2, h3, h4, h5⟩ := h
    refine ⟨a, cap, L, rfl, h1, h2, h3, fun i hi => ?_, RdAll.keep hS ds L h5⟩
    obtain ⟨x, rfl, hx, hc⟩ := h4 i hi
    have hlt := lt_of_cell hc
    rw [add_block] at hlt
    obtain ⟨k1, k2⟩ := hS _ hx hlt
    refine ⟨x, rfl, k1, ?_⟩
    rw [← hc]
    exact World.cell?_of_block (w := w) (by rw [add_block]; exact k2)
  | .agg ds, cs, h => RdAll.keep hS ds cs h
theorem RdAll.keep {S S' : Nat → Prop} {w w' : World} (hS : ∀ k, S k → k < w.heap.size → S' k ∧ w'.heap[k]? = w.heap[k]?) : ∀ (ds : List D) (cs : List Value), RdAll S w ds cs → RdAll S' w' ds cs
  | [], cs, h => h
  | d :: ds, cs, h => by
    obtain ⟨c1, c2, rfl, h1, h2⟩ := h
    exact ⟨c1, c2, rfl, Rd.keep hS d c1 h1, RdAll.keep hS ds c2 h2⟩
end

theorem Rd.below {S : Nat → Prop} {w w' : World} {d : D} {cs : List Value} (h : Rd S w d cs) (hb : Below w.heap.size w w') : Rd S w' d cs :=
  Rd.keep (fun k hk hlt => ⟨hk, hb.block k hlt⟩) d cs h
theorem RdAll.below {S : Nat → Prop} {w w' : World} {d : List D} {cs : List Value} (h : RdAll S w d cs) (hb : Below w.heap.size w w') : RdAll S w' d cs :=
  RdAll.keep (fun k hk hlt => ⟨hk, hb.block k hlt⟩) d cs h
theorem Rd.mono {S S' : Nat → Prop} {w : World} {d : D} {cs : List Value} (h : Rd S w d cs) (hs : ∀ k, S k → k < w.heap.size → S' k) : Rd S' w d cs :=
  Rd.keep (fun k hk hlt => ⟨hs k hk hlt, rfl⟩) d cs h
theorem RdAll.mono {S S' : Nat → Prop} {w : World} {d : List D} {cs : List Value} (h : RdAll S w d cs) (hs : ∀ k, S k → k < w.heap.size → S' k) : RdAll S' w d cs :=
  RdAll.keep (fun k hk hlt => ⟨hs k hk hlt, rfl⟩) d cs h
theorem Rd.any {S : Nat → Prop} {w : World} {d : D} {cs : List Value} (h : Rd S w d cs) : Rd AnyB w d cs := h.mono fun _ _ _ => trivial
theorem RdAll.any {S : Nat → Prop} {w : World} {d : List D} {cs : List Value} (h : RdAll S w d cs) : RdAll AnyB w d cs := h.mono fun _ _ _ => trivial

theorem RdAll.append {S : Nat → Prop} {w : World} : ∀ {ds es : List D} {c1 c2 : List Value}, RdAll S w ds c1 → RdAll S w es c2 → RdAll S w (ds ++ es) (c1 ++ c2)
  | [], es, c1, c2, h, k => by simp [RdAll] at h; subst h; simpa using k
  | d :: ds, es, c1, c2, h, k => by
    obtain ⟨a, b, rfl, h1, h2⟩ := h
    exact ⟨a, b ++ c2, by simp, h1, RdAll.append h2 k⟩
theorem RdAll.split {S : Nat → Prop} {w : World} : ∀ {ds es : List D} {c : List Value}, RdAll S w (ds ++ es) c → ∃ c1 c2, c = c1 ++ c2 ∧ RdAll S w ds c1 ∧ RdAll S w es c2
  | [], es, c, h => ⟨[], c, rfl, by simp [RdAll], h⟩
  | d :: ds, es, c, h => by
    obtain ⟨a, b, rfl, h1, h2⟩ := h
    obtain ⟨c1, c2, rfl, h3, h4⟩ := RdAll.split h2
    exact ⟨a ++ c1, c2, by simp, ⟨a, c1, rfl, h1, h3⟩, h4⟩
theorem RdAll.one {S : Nat → Prop} {w : World} {d : D} {c : List Value} (h : Rd S w d c) : RdAll S w [d] c := ⟨c, [], by simp, h, by simp [RdAll]⟩
theorem RdAll.one_iff {S : Nat → Prop} {w : World} {d : D} {c : List Value} : RdAll S w [d] c ↔ Rd S w d c := by
  constructor
  · rintro ⟨c1, c2, rfl, h, h2⟩
    simp [RdAll] at h2
    subst h2
    simpa using h
  · exact RdAll.one

theorem cellsAll_eq {k : Nat} : ∀ {ds : List D}, (∀ d ∈ ds, d.cells = k) → D.cellsAll ds = ds.length * k
  | [], _ => by simp [D.cellsAll]
  | d :: ds, h => by
    rw [D.cellsAll, h d List.mem_cons_self, cellsAll_eq fun x hx => h x (List.mem_cons_of_mem _ hx)]
    simp [Nat.add_mul]; omega

/-- one of many of k cells each -/
theorem RdAll.get {S : Nat → Prop} {w : World} {k : Nat} : ∀ {ds : List D} {L : List Value}, RdAll S w ds L → (∀ d ∈ ds, d.cells = k) → ∀ i (hi : i < ds.length), Rd S w ds[i] ((L.drop (i * k)).take k)
  | [], L, h, hk, i, hi => by simp at hi
  | d :: ds, L, h, hk, i, hi => by
    obtain ⟨c1, c2, rfl, h1, h2⟩ := h
    have hl : c1.length = k := by rw [Rd.len d c1 h1]; exact hk d List.mem_cons_self
    cases i with
    | zero => simpa [List.take_left' hl] using h1
    | succ i =>
      have := RdAll.get h2 (fun x hx => hk x (List.mem_cons_of_mem _ hx)) i (by simpa using hi)
      rw [show (i + 1) * k = c1.length + i * k by rw [hl, Nat.add_mul]; omega]
      have e : (c1 ++ c2).drop (c1.length + i * k) = c2.drop (i * k) := by rw [← List.drop_drop]; simp
      rw [e]
      simpa using this

theorem add_at (b off n : Nat) : (⟨b, off, none⟩ : Addr).add n = ⟨b, off + n, none⟩ := by unfold Addr.add; by_cases e : n = 0 <;> simp [e]

/-- a slice's form -/
theorem Rd.form {S : Nat → Prop} {w : World} {ds : List D} {v : Value} (h : Rd S w (.sl ds) [v]) : ∃ a cap, v = .slice a ds.length cap ∧ ds.length ≤ cap ∧ cap ≤ maxLen := by
  obtain ⟨a, cap, L, e, h1, h2, _⟩ := h
  simp at e
  exact ⟨a, cap, e, h1, h2⟩
theorem Rd.bounds {S : Nat → Prop} {w : World} {ds : List D} {a : Option Addr} {n cap : Nat} (h : Rd S w (.sl ds) [.slice a n cap]) : n = ds.length ∧ n ≤ cap ∧ cap ≤ maxLen := by
  obtain ⟨a, cap, e, h1, h2⟩ := h.form
  cases e
  exact ⟨rfl, h1, h2⟩

/-- an element of a slice: where it lies, its cells -/
theorem Rd.at {S : Nat → Prop} {w : World} {ds : List D} {a : Option Addr} {n cap k : Nat} (h : Rd S w (.sl ds) [.slice a n cap]) (hk : ∀ d ∈ ds, d.cells = k) (hp : 0 < k) {i : Nat} (hi : i < ds.length) :
    ∃ b off cs, a = some ⟨b, off, none⟩ ∧ S b ∧ b < w.heap.size ∧ Rd S w ds[i] cs ∧ cs.length = k ∧ ∀ j (h : j < cs.length), w.cell? ⟨b, off + (i * k + j), none⟩ = some cs[j] := by
  obtain ⟨a', cap', L, e, h1, h2, h3, h4, h5⟩ := h
  simp at e
  obtain ⟨rfl, rfl, rfl⟩ := e
  have hL : L.length = ds.length * k := by rw [RdAll.len ds L h5, cellsAll_eq hk]
  have hpos : 0 < L.length := by rw [hL]; exact Nat.mul_pos (by omega) hp
  obtain ⟨⟨b, off, spot⟩, rfl, hS, hc⟩ := h4 0 hpos
  have hs : spot = none := by simpa [Addr.add] using World.cell?_spot hc
  subst hs
  have hlt := lt_of_cell hc
  rw [add_block] at hlt
  have hik : (i + 1) * k ≤ ds.length * k := Nat.mul_le_mul_right _ hi
  rw [Nat.add_mul, Nat.one_mul] at hik
  refine ⟨b, off, (L.drop (i * k)).take k, rfl, hS, hlt, RdAll.get h5 hk i hi, by simp; omega, fun j hj => ?_⟩
  simp at hj
  obtain ⟨y, hy, _, h6⟩ := h4 (i * k + j) (by omega)
  cases hy
  rw [add_at] at h6
  rw [h6]
  simp

/-- a row of the call's own reads as a slice -/
theorem rd_of_own {S : Nat → Prop} {w : World} {B : Nat} {e : TypeId} {size : Nat} {v : Value} {n : Nat} {xs : List Value} {ds : List D} (h : w.ownsRow B e size v n xs) (hd : RdAll S w ds xs) (hn : ds.length = n) (hS : ∀ k, v.ownBlock = some k → S k) : Rd S w (.sl ds) [v] := by
  have hcell := fun {g : Nat} (hg : v.ownBlock = some g) => h.cells hg
  obtain ⟨hl, h⟩ := h
  subst hn
  rcases h with ⟨rfl, h0⟩ | ⟨g, cap, cur, rfl, hg, hh, hn, hc, hs, ht⟩
  · have : xs = [] := List.eq_nil_of_length_eq_zero (by rw [hl, h0]; simp)
    subst this
    exact ⟨none, 0, [], by rw [h0], by omega, by simp [maxLen], fun _ => rfl, fun i hi => by simp at hi, hd⟩
  · refine ⟨_, cap, xs, rfl, hn, hc, (fun h => by cases h), fun i hi => ⟨_, rfl, hS g rfl, ?_⟩, hd⟩
    exact hcell rfl i _ (List.getElem?_eq_getElem hi)

/-- the new row behind an append: what was read in it is still read, apart from the row's own block -/
theorem own_step {S : Nat → Prop} {w w3 : World} {v v' : Value} {ds es : List D} {xs news : List Value}
    (h1 : RdAll (fun k => S k ∧ v.ownBlock ≠ some k) w ds xs) (h2 : RdAll (fun k => S k ∧ v.ownBlock ≠ some k) w es news)
    (hg : w.grownBy w3 v.ownBlock) (hat : v'.ownBlock = v.ownBlock ∨ ∃ k, v'.ownBlock = some k ∧ w.heap.size ≤ k) : RdAll (fun k => S k ∧ v'.ownBlock ≠ some k) w3 (ds ++ es) (xs ++ news) := by
  have hS : ∀ k, (S k ∧ v.ownBlock ≠ some k) → k < w.heap.size → (S k ∧ v'.ownBlock ≠ some k) ∧ w3.heap[k]? = w.heap[k]? := by
    intro k hk hlt
    refine ⟨⟨hk.1, ?_⟩, hg.block k hlt (fun e => hk.2 e.symm)⟩
    rcases hat with e | ⟨j, e, hj⟩
    · rw [e]; exact hk.2
    · rw [e]; intro h; cases h; omega
  exact RdAll.append (RdAll.keep hS ds xs h1) (RdAll.keep hS es news h2)

/-- append of one element, to a row of the call's own; where the new row lies -/
theorem wp_app1at {P : Program} {ops : Array Oper} {rest : List Oper} {o : Oper} {a : Act} {Q : Exit → Act → World → Prop} {w0 : World} {t e : TypeId} {size bytes : Nat} (E : ElemT P t e size bytes)
    (hgd : o.guard = none) (s x : Operand) (ho : o.op = .call { callee := .builtin .append, args := #[s, x], argTypes := #[t, t] })
    {B : Nat} {v : Value} {n : Nat} {xs : List Value} {news : Array Value} (hown : w0.ownsRow B e size v n xs) (hs : a.eval s = v) {g0 : Nat} (hx : a.eval x = .slice (some ⟨g0, 0, none⟩) 1 1) (hg0 : g0 = w0.heap.size)
    (hn : news.size = size) (h1 : news.toList.all Value.oneCell' = true) (hb : (n + 1) * bytes ≤ 140737488355328) (hm : n + 1 ≤ maxLen) (hB : B ≤ w0.heap.size)
    (h : ∀ v' w', w'.ownsRow B e size v' (n + 1) (xs ++ news.toList) → w0.grownBy w' v.ownBlock → (v'.ownBlock = v.ownBlock ∨ ∃ k, v'.ownBlock = some k ∧ w0.heap.size ≤ k) → wpList P ops Q rest (a.put o.dst v') w') :
    wpList P ops Q (o :: rest) a (w0.alloc (.cells news e)) := by
  subst hg0
  obtain ⟨hu, ⟨i, z, hi, hz, hsz, hby, hzs⟩, hp⟩ := E
  refine wpList_append_own_at (w0.alloc (.cells news e)) hgd s x t ho B e i z size bytes hu hi hz hsz hby hzs hp v n xs hs (hown.alloc _) ⟨w0.heap.size, 0, none⟩ 1 1 news.toList hx (by simp [hn]) ?_ (List.all_eq_true.1 h1) hm hb (by simp; omega) ?_
  · intro j u hj
    have : (⟨w0.heap.size, 0, none⟩ : Addr).add j = ⟨w0.heap.size, j, none⟩ := by unfold Addr.add; by_cases e : j = 0 <;> simp [e]
    rw [this]
    have hh : (w0.alloc (.cells news e)).heap[w0.heap.size]? = some (.cells news e (0, 0)) := heap_alloc_new w0 _
    simp only [World.cell?, hh]
    simpa using hj
  · intro v' w' h2 h3 _ h5
    refine h v' w' h2 ?_ ?_
    · have h4 := World.grownBy_alloc w0 (.cells news e) v.ownBlock
      exact ⟨h3.os.trans h4.os, h3.tape.trans h4.tape, h3.output.trans h4.output, Nat.le_trans h4.size h3.size, fun k hk hne => (h3.block k (Nat.lt_of_lt_of_le hk h4.size) hne).trans (h4.block k hk hne)⟩
    · rcases h5 with h5 | h5
      · exact .inl h5
      · exact .inr ⟨_, h5, by simp⟩

theorem rdAll_ints {S : Nat → Prop} {w : World} : ∀ (l : List Int) (cs : List Value), RdAll S w (l.map .int) cs ↔ cs = ints l
  | [], cs => by simp [RdAll, ints]
  | x :: l, cs => by
    simp only [List.map_cons, RdAll, Rd]
    constructor
    · rintro ⟨c1, c2, rfl, rfl, h⟩
      rw [rdAll_ints] at h
      simp [h, ints]
    · rintro rfl
      exact ⟨[.int .i64 x], ints l, by simp [ints], rfl, (rdAll_ints l _).2 rfl⟩
def D.ints (l : List Int) : D := .sl (l.map .int)
theorem rd_sl {w : World} {v : Value} {l : List Int} (h : Sl w v (ints l)) : Rd AnyB w (D.ints l) [v] := by
  obtain ⟨a, cap, rfl, h1, h2, h3, h4⟩ := h
  refine ⟨a, cap, ints l, by simp [ints], by simpa [ints] using h1, h2, h3, fun i hi => ?_, (rdAll_ints l _).2 rfl⟩
  obtain ⟨x, e, h5⟩ := h4 i hi
  exact ⟨x, e, trivial, h5⟩
theorem sl_rd {S : Nat → Prop} {w : World} {v : Value} {l : List Int} (h : Rd S w (D.ints l) [v]) : Sl w v (ints l) := by
  obtain ⟨a, cap, L, e, h1, h2, h3, h4, h5⟩ := h
  rw [rdAll_ints] at h5
  subst h5
  simp at e h1
  subst e
  refine ⟨a, cap, by simp [ints], by simpa [ints] using h1, h2, h3, fun i hi => ?_⟩
  obtain ⟨x, e, _, h5⟩ := h4 i hi
  exact ⟨x, e, h5⟩
end Go.Proofs.Ytbnpemgmdnghgaa
namespace Go.Proofs.Ytbnpemgmdnghgaa
open Go.RowKit

inductive Tree where
  | node (rule term : Int) (kids : List Tree)
def Tree.rule : Tree → Int | .node r _ _ => r
def Tree.term : Tree → Int | .node _ t _ => t
def Tree.kids : Tree → List Tree | .node _ _ k => k
/-- the subtrees that count -/
def kidsOf (t : Tree) : List Tree := if t.rule = -1 then [] else t.kids

mutual
def Tree.d : Tree → D
  | .node r t ks => .agg [.int r, .int t, .sl (Tree.dL ks)]
def Tree.dL : List Tree → List D
  | [] => []
  | k :: ks => Tree.d k :: Tree.dL ks
end
theorem dL_map : ∀ ks : List Tree, Tree.dL ks = ks.map Tree.d
  | [] => rfl
  | k :: ks => by simp [Tree.dL, dL_map ks]
theorem Tree.d_eq (t : Tree) : t.d = .agg [.int t.rule, .int t.term, .sl (t.kids.map Tree.d)] := by
  cases t; simp [Tree.d, dL_map, Tree.rule, Tree.term, Tree.kids]
theorem Tree.d_cells (t : Tree) : t.d.cells = 3 := by rw [Tree.d_eq]; simp [D.cells, D.cellsAll]
theorem trees_cells (ts : List Tree) : ∀ d ∈ ts.map Tree.d, d.cells = 3 := by
  intro d hd
  simp at hd
  obtain ⟨t, _, rfl⟩ := hd
  exact t.d_cells

mutual
/-- the nodes in preorder; the kids of leaves are left out -/
def nodes : Tree → List Tree
  | .node r t ks => .node r t ks :: (if r = -1 then [] else nodesL ks)
def nodesL : List Tree → List Tree
  | [] => []
  | k :: ks => nodes k ++ nodesL ks
end
theorem nodes_eq (t : Tree) : nodes t = t :: nodesL (kidsOf t) := by
  cases t with
  | node r t ks =>
    rw [nodes]
    by_cases h : r = -1 <;> simp [kidsOf, Tree.rule, Tree.kids, h, nodesL]
theorem nodesL_append : ∀ (a b : List Tree), nodesL (a ++ b) = nodesL a ++ nodesL b
  | [], b => by simp [nodesL]
  | x :: a, b => by simp [nodesL, nodesL_append a b]
theorem nodesL_take {ks : List Tree} {i : Nat} (h : i < ks.length) : nodesL (ks.take (i + 1)) = nodesL (ks.take i) ++ nodes ks[i] := by
  rw [List.take_succ_eq_append_getElem h, nodesL_append]; simp [nodesL]
theorem nodes_pos (t : Tree) : 0 < (nodes t).length := by rw [nodes_eq]; simp
theorem nodesL_take_le (ks : List Tree) (i : Nat) : (nodesL (ks.take i)).length ≤ (nodesL ks).length := by
  conv => rhs; rw [← List.take_append_drop i ks, nodesL_append]
  simp
theorem nodesL_kid {ks : List Tree} {i : Nat} (h : i < ks.length) : (nodesL (ks.take i)).length + (nodes ks[i]).length ≤ (nodesL ks).length := by
  have := nodesL_take_le ks (i + 1)
  rw [nodesL_take h] at this
  simpa using this

theorem nodesL_split {ks : List Tree} {i : Nat} (h : i < ks.length) : nodesL ks = nodesL (ks.take i) ++ (nodes ks[i] ++ nodesL (ks.drop (i + 1))) := by
  conv => lhs; rw [← List.take_append_drop i ks, nodesL_append, List.drop_eq_getElem_cons h, nodesL]

/-- what is seen until a condition fails -/
def upTo (p : Tree → Bool) : List Tree → List Tree
  | [] => []
  | x :: l => if p x then x :: upTo p l else [x]
theorem upTo_all {p : Tree → Bool} : ∀ {l : List Tree}, l.all p = true → upTo p l = l
  | [], _ => rfl
  | x :: l, h => by
    simp at h
    rw [upTo, if_pos h.1, upTo_all (by simpa using h.2)]
theorem upTo_append {p : Tree → Bool} : ∀ {l m : List Tree}, l.all p = true → upTo p (l ++ m) = l ++ upTo p m
  | [], _, _ => rfl
  | x :: l, m, h => by
    simp at h
    rw [List.cons_append, upTo, if_pos h.1, upTo_append (by simpa using h.2), List.cons_append]
theorem upTo_stop {p : Tree → Bool} : ∀ {l m : List Tree}, l.all p = false → upTo p (l ++ m) = upTo p l
  | [], _, h => by simp at h
  | x :: l, m, h => by
    rw [List.cons_append, upTo, upTo]
    by_cases hx : p x = true
    · rw [if_pos hx, if_pos hx, upTo_stop (by simpa [hx] using h)]
    · rw [if_neg hx, if_neg hx]

/-- outside S nothing that was there has changed -/
structure Keeps (S : Nat → Prop) (w w' : World) : Prop where
  os : w'.os = w.os
  tape : w'.tape = w.tape
  output : w'.output = w.output
  size : w.heap.size ≤ w'.heap.size
  block : ∀ k, k < w.heap.size → ¬ S k → w'.heap[k]? = w.heap[k]?
theorem Keeps.below {S : Nat → Prop} {w w' : World} {B : Nat} (h : Keeps S w w') (hS : ∀ k, S k → B ≤ k) (hB : B ≤ w.heap.size) : Below B w w' :=
  ⟨h.os, h.tape, h.output, h.size, fun k hk => h.block k (by omega) (fun hs => by have := hS k hs; omega)⟩
theorem Below.keeps {S : Nat → Prop} {w w' : World} (h : Below w.heap.size w w') : Keeps S w w' := ⟨h.os, h.tape, h.output, h.size, fun k hk _ => h.block k hk⟩
theorem Keeps.trans {S S' : Nat → Prop} {a b c : World} (h : Keeps S a b) (k : Keeps S' b c) (hs : ∀ k, S' k → S k ∨ a.heap.size ≤ k) : Keeps S a c :=
  ⟨k.os.trans h.os, k.tape.trans h.tape, k.output.trans h.output, Nat.le_trans h.size k.size, fun i hi hn => (k.block i (Nat.lt_of_lt_of_le hi h.size) (fun e => (hs i e).elim (fun e => hn e) (fun e => by omega))).trans (h.block i hi hn)⟩
theorem Keeps.cells {S : Nat → Prop} {w w' : World} (h : Keeps S w w') {b : Nat} {o : Obj} (hb : w.heap[b]? = some o) (hS : ¬ S b) : w'.heap[b]? = some o := by
  rw [h.block b (Array.getElem?_eq_some_iff.1 hb).1 hS]; exact hb

/-- three cells of an element -/
theorem Rd.tree {S : Nat → Prop} {w : World} {t : Tree} {cs : List Value} (h : Rd S w t.d cs) : ∃ v, cs = [.int .i64 t.rule, .int .i64 t.term, v] ∧ Rd S w (.sl (t.kids.map Tree.d)) [v] := by
  rw [Tree.d_eq] at h
  obtain ⟨c1, c2, rfl, h1, c3, c4, rfl, h2, h3⟩ := h
  rw [RdAll.one_iff] at h3
  simp [Rd] at h1 h2
  subst h1 h2
  have h4 := h3
  obtain ⟨a, cap, L, e, _⟩ := h3
  subst e
  exact ⟨_, rfl, h4⟩
theorem rd_tree {S : Nat → Prop} {w : World} {t : Tree} {v : Value} (h : Rd S w (.sl (t.kids.map Tree.d)) [v]) : Rd S w t.d [.int .i64 t.rule, .int .i64 t.term, v] := by
  rw [Tree.d_eq]
  exact ⟨[.int .i64 t.rule], [.int .i64 t.term, v], rfl, rfl, [.int .i64 t.term], [v], rfl, rfl, RdAll.one h⟩
theorem Rd.kid {S : Nat → Prop} {w : World} {ks : List Tree} {a : Option Addr} {n cap i : Nat} (h : Rd S w (.sl (ks.map Tree.d)) [.slice a n cap]) (hi : i < ks.length) :
    ∃ b off v, a = some ⟨b, off, none⟩ ∧ S b ∧ b < w.heap.size ∧ w.cell? ⟨b, off + i * 3, none⟩ = some (.int .i64 ks[i].rule) ∧ w.cell? ⟨b, off + i * 3 + 1, none⟩ = some (.int .i64 ks[i].term) ∧ w.cell? ⟨b, off + i * 3 + 2, none⟩ = some v ∧ Rd S w (.sl (ks[i].kids.map Tree.d)) [v] := by
  obtain ⟨b, off, cs, ha, hS, hlt, hr, hl, hc⟩ := h.at (trees_cells ks) (by decide) (i := i) (by simpa using hi)
  simp at hr
  obtain ⟨v, rfl, hk⟩ := hr.tree
  exact ⟨b, off, v, ha, hS, hlt, by simpa using hc 0 (by simp), by simpa [Nat.add_assoc] using hc 1 (by simp), by simpa [Nat.add_assoc] using hc 2 (by simp), hk⟩
end Go.Proofs.Ytbnpemgmdnghgaa
namespace Go.Proofs.Ytbnpemgmdnghgaa
open Go.RowKit

structure Sym where
  term : Bool
  n : Int
  deriving DecidableEq
structure Rule where
  left : Int
  right : List Sym
  deriving DecidableEq
def Sym.d (s : Sym) : D := .agg [.bool s.term, .int s.n]
def Rule.d (r : Rule) : D := .agg [.int r.left, .sl (r.right.map Sym.d)]
theorem syms_cells (l : List Sym) : ∀ d ∈ l.map Sym.d, d.cells = 2 := by
  intro d hd
  simp at hd
  obtain ⟨t, _, rfl⟩ := hd
  simp [Sym.d, D.cells, D.cellsAll]
theorem rules_cells (l : List Rule) : ∀ d ∈ l.map Rule.d, d.cells = 2 := by
  intro d hd
  simp at hd
  obtain ⟨t, _, rfl⟩ := hd
  simp [Rule.d, D.cells, D.cellsAll]
theorem Rd.sym {S : Nat → Prop} {w : World} {s : Sym} {cs : List Value} (h : Rd S w s.d cs) : cs = [.bool s.term, .int .i64 s.n] := by
  obtain ⟨c1, c2, rfl, h1, h2⟩ := h
  rw [RdAll.one_iff] at h2
  simp [Rd] at h1 h2
  subst h1 h2
  rfl
theorem rd_sym {S : Nat → Prop} {w : World} (s : Sym) : Rd S w s.d [.bool s.term, .int .i64 s.n] := ⟨[.bool s.term], [.int .i64 s.n], rfl, rfl, RdAll.one rfl⟩
theorem Rd.rule {S : Nat → Prop} {w : World} {r : Rule} {cs : List Value} (h : Rd S w r.d cs) : ∃ v, cs = [.int .i64 r.left, v] ∧ Rd S w (.sl (r.right.map Sym.d)) [v] := by
  obtain ⟨c1, c2, rfl, h1, h2⟩ := h
  rw [RdAll.one_iff] at h2
  simp [Rd] at h1
  subst h1
  have h4 := h2
  obtain ⟨a, cap, L, e, _⟩ := h2
  subst e
  exact ⟨_, rfl, h4⟩
theorem rd_rule {S : Nat → Prop} {w : World} {r : Rule} {v : Value} (h : Rd S w (.sl (r.right.map Sym.d)) [v]) : Rd S w r.d [.int .i64 r.left, v] := ⟨[.int .i64 r.left], [v], rfl, rfl, RdAll.one h⟩
theorem Rd.sym_at {S : Nat → Prop} {w : World} {l : List Sym} {a : Option Addr} {n cap i : Nat} (h : Rd S w (.sl (l.map Sym.d)) [.slice a n cap]) (hi : i < l.length) :
    ∃ b off, a = some ⟨b, off, none⟩ ∧ S b ∧ b < w.heap.size ∧ w.cell? ⟨b, off + i * 2, none⟩ = some (.bool l[i].term) ∧ w.cell? ⟨b, off + i * 2 + 1, none⟩ = some (.int .i64 l[i].n) := by
  obtain ⟨b, off, cs, ha, hS, hlt, hr, hl, hc⟩ := h.at (syms_cells l) (by decide) (i := i) (by simpa using hi)
  simp at hr
  obtain rfl := hr.sym
  exact ⟨b, off, ha, hS, hlt, by simpa using hc 0 (by simp), by simpa [Nat.add_assoc] using hc 1 (by simp)⟩
theorem Rd.rule_at {S : Nat → Prop} {w : World} {l : List Rule} {a : Option Addr} {n cap i : Nat} (h : Rd S w (.sl (l.map Rule.d)) [.slice a n cap]) (hi : i < l.length) :
    ∃ b off v, a = some ⟨b, off, none⟩ ∧ S b ∧ b < w.heap.size ∧ w.cell? ⟨b, off + i * 2, none⟩ = some (.int .i64 l[i].left) ∧ w.cell? ⟨b, off + i * 2 + 1, none⟩ = some v ∧ Rd S w (.sl (l[i].right.map Sym.d)) [v] := by
  obtain ⟨b, off, cs, ha, hS, hlt, hr, hl, hc⟩ := h.at (rules_cells l) (by decide) (i := i) (by simpa using hi)
  simp at hr
  obtain ⟨v, rfl, hk⟩ := hr.rule
  exact ⟨b, off, v, ha, hS, hlt, by simpa using hc 0 (by simp), by simpa [Nat.add_assoc] using hc 1 (by simp), hk⟩
end Go.Proofs.Ytbnpemgmdnghgaa
namespace Go.Proofs.Ytbnpemgmdnghgaa
open Go.RowKit

end Go.Proofs.Ytbnpemgmdnghgaa
namespace Go.Proofs.Ytbnpemgmdnghgaa
open Go.RowKit

/-- a literal slice, in the block that was laid last -/
theorem sl_lit {w : World} {v : Array Value} {e : TypeId} {g : Nat} (hg : g = w.heap.size) (h : v.size ≤ maxLen) : Sl (w.alloc (.cells v e)) (.slice (some ⟨g, 0, none⟩) v.size v.size) v.toList := by
  subst hg
  refine ⟨some ⟨w.heap.size, 0, none⟩, v.size, by simp, by simp, h, (fun h => by cases h), fun i hi => ⟨_, rfl, ?_⟩⟩
  have : (⟨w.heap.size, 0, none⟩ : Addr).add i = ⟨w.heap.size, i, none⟩ := by unfold Addr.add; by_cases e : i = 0 <;> simp [e]
  rw [this]
  have hh : (w.alloc (.cells v e)).heap[w.heap.size]? = some (.cells v e (0, 0)) := heap_alloc_new w _
  simp only [World.cell?, hh]
  simp at hi ⊢

end Go.Proofs.Ytbnpemgmdnghgaa
namespace Go.Proofs.Ytbnpemgmdnghgaa
open Go.RowKit

def cmp3 (a b : Int) : Int := if a < b then -1 else if b < a then 1 else 0
theorem cmp3_self (a : Int) : cmp3 a a = 0 := by simp [cmp3]
theorem cmp3_zero {a b : Int} (h : cmp3 a b = 0) : a = b := by
  unfold cmp3 at h
  by_cases h1 : a < b
  · simp [h1] at h
  · by_cases h2 : b < a
    · simp [h1, h2] at h
    · omega
def cmpL : List Int → List Int → Int
  | [], [] => 0
  | [], _ :: _ => -1
  | _ :: _, [] => 1
  | x :: l, y :: m => if cmp3 x y = 0 then cmpL l m else cmp3 x y
def orL : List Int → Int
  | [] => 0
  | x :: l => if x = 0 then orL l else x

theorem cmpL_at {l m : List Int} {i : Nat} (h : i < l.length) (h2 : i < m.length) : cmpL (l.drop i) (m.drop i) = if cmp3 l[i] m[i] = 0 then cmpL (l.drop (i + 1)) (m.drop (i + 1)) else cmp3 l[i] m[i] := by
  rw [List.drop_eq_getElem_cons h, List.drop_eq_getElem_cons h2, cmpL]
theorem cmpL_long {l m : List Int} {i : Nat} (h : i < l.length) (h2 : m.length ≤ i) : cmpL (l.drop i) (m.drop i) = 1 := by
  rw [List.drop_eq_getElem_cons h, List.drop_of_length_le h2, cmpL]
theorem cmpL_short {l m : List Int} {i : Nat} (h : l.length ≤ i) (h2 : i < m.length) : cmpL (l.drop i) (m.drop i) = -1 := by
  rw [List.drop_eq_getElem_cons h2, List.drop_of_length_le h, cmpL]
theorem cmpL_end {l m : List Int} {i : Nat} (h : l.length ≤ i) (h2 : m.length ≤ i) : cmpL (l.drop i) (m.drop i) = 0 := by
  rw [List.drop_of_length_le h2, List.drop_of_length_le h, cmpL]

set_option maxHeartbeats 400000 in
theorem isNaN (x : Int) (w : World) : Calls Try.prog 74 #[.int .i64 x] w fun e w' => e = .returned (.bool false) ∧ w = w' := by
  have h : (x != x) = false := by simp
  go_enter Try.func74, Try.ntmps74
  go_wp2
  go_ret
  exact ⟨rfl, rfl⟩

set_option maxHeartbeats 400000 in
theorem compareInt (x y : Int) (w : World) : Calls Try.prog 49 #[.int .i64 x, .int .i64 y] w fun e w' => e = .returned (.int .i64 (cmp3 x y)) ∧ w = w' := by
  obtain ⟨c, HC⟩ := nameIt (cmp3 x y)
  have hc : (x < y ∧ c = -1) ∨ (¬ x < y ∧ y < x ∧ c = 1) ∨ (¬ x < y ∧ ¬ y < x ∧ c = 0) := by
    have := HC.out
    unfold cmp3 at this
    split at this
    · exact .inl ⟨by assumption, this.symm⟩
    · split at this
      · exact .inr (.inl ⟨by assumption, by assumption, this.symm⟩)
      · exact .inr (.inr ⟨by assumption, by assumption, this.symm⟩)
  rw [HC.out]
  rcases hc with ⟨h1, rfl⟩ | ⟨h1, h2, rfl⟩ | ⟨h1, h2, rfl⟩
  all_goals
    go_enter Try.func49, Try.ntmps49
    go_wp2_with (go_at_call 74; (with_reducible refine (isNaN _ _).mono ?_); rintro e w' ⟨rfl, rfl⟩)
    go_ret
    exact ⟨rfl, rfl⟩

set_option maxHeartbeats 1000000 in
theorem compareInts (v u : Value) (l m : List Int) (w : World) (hl : Sl w v (ints l)) (hm : Sl w u (ints m)) :
    Calls Try.prog 50 #[v, u] w fun e w' => e = .returned (.int .i64 (cmpL l m)) ∧ w = w' := by
  obtain ⟨a, cap, rfl⟩ := hl.form
  obtain ⟨a', cap', rfl⟩ := hm.form
  rw [ints_len] at hl hm
  rw [ints_len, ints_len]
  have hc := hl.len.2
  have hc' := hm.len.2
  unfold maxLen at hc hc'
  obtain ⟨hc1, hc2⟩ := hc
  obtain ⟨hc3, hc4⟩ := hc'
  have HL := Lib.hid hl
  have HM := Lib.hid hm
  clear hl hm
  go_enter Try.func50, Try.ntmps50
  go_wp2
  go_loopg [11] l.length (fun gg v11 wr => ∃ i : Nat, i ≤ l.length ∧ l.length - i ≤ gg ∧ v11 = .int .i64 i ∧ wr = w ∧ Hid (cmpL (l.drop i) (m.drop i) = cmpL l m))
  case atStart => exact ⟨0, by omega, by omega, rfl, rfl, rfl⟩
  case round =>
    obtain ⟨i, hi, hg, rfl, rfl, HE⟩ := hrel
    by_cases hlt : i < l.length
    · have hlt' : (i : Int) < (l.length : Int) := by omega
      obtain ⟨ba, oa, hae, hca⟩ := HL.out.at hlt
      have c1 := hca i (by rw [ints_len]; exact hlt)
      rw [ints_get] at c1
      by_cases hlt2 : i < m.length
      · have hlt2' : (i : Int) < (m.length : Int) := by omega
        obtain ⟨bb, ob, hae', hcb⟩ := HM.out.at hlt2
        have c2 := hcb i (by rw [ints_len]; exact hlt2)
        rw [ints_get] at c2
        have h1 := HE.out
        rw [cmpL_at hlt hlt2] at h1
        obtain ⟨x, HX⟩ := nameIt (l[i]'hlt)
        obtain ⟨y, HY⟩ := nameIt (m[i]'hlt2)
        rw [HX.out] at c1 h1
        rw [HY.out] at c2 h1
        obtain ⟨c, HC⟩ := nameIt (cmp3 x y)
        rw [HC.out] at h1
        have H1 := Lib.hid h1
        subst hae hae'
        clear hca hcb h1
        go_wp2_with fail
        refine (compareInt x y _).mono ?_
        rintro e w' ⟨rfl, rfl⟩
        rw [HC.out]
        by_cases h0 : c = 0
        · subst h0
          have h2 := H1.out
          rw [if_pos rfl] at h2
          have HE2 := Lib.hid h2
          clear h2
          go_wp2
          go_roundg (l.length - (i + 1))
          case measure => omega
          case rel => exact ⟨i + 1, by omega, by omega, by go_num, rfl, HE2⟩
        · have h2 := H1.out
          rw [if_neg h0] at h2
          have HE2 := Lib.hid h2
          have hcb : (c != 0) = true := by simpa using h0
          clear h2 h0
          go_wp2
          go_ret
          exact ⟨by rw [← HE2.out]; rfl, rfl⟩
      · have hlt2' : (m.length : Int) ≤ (i : Int) := by omega
        have HE2 : Hid (cmpL l m = 1) := by show _ = _; rw [← HE.out]; exact cmpL_long hlt (by omega)
        subst hae
        clear hca
        go_wp2
        go_ret
        exact ⟨by rw [HE2.out]; rfl, rfl⟩
    · have hlt' : ¬ (i : Int) < (l.length : Int) := by omega
      by_cases hlt2 : l.length < m.length
      · have HE2 : Hid (cmpL l m = -1) := by show _ = _; rw [← HE.out]; exact cmpL_short (by omega) (by omega)
        have hlt3 : (l.length : Int) < (m.length : Int) := by omega
        go_wp2
        go_ret
        exact ⟨by rw [HE2.out]; rfl, rfl⟩
      · have HE2 : Hid (cmpL l m = 0) := by show _ = _; rw [← HE.out]; exact cmpL_end (by omega) (by omega)
        have hlt3 : ¬ (l.length : Int) < (m.length : Int) := by omega
        go_wp2
        go_ret
        exact ⟨by rw [HE2.out]; rfl, rfl⟩

set_option maxHeartbeats 1000000 in
theorem orInt (v : Value) (l : List Int) (w : World) (hl : Sl w v (ints l)) :
    Calls Try.prog 48 #[v] w fun e w' => e = .returned (.int .i64 (orL l)) ∧ w = w' := by
  obtain ⟨a, cap, rfl⟩ := hl.form
  rw [ints_len] at hl
  rw [ints_len]
  have hc := hl.len.2
  unfold maxLen at hc
  obtain ⟨hc1, hc2⟩ := hc
  have HL := Lib.hid hl
  clear hl
  go_enter Try.func48, Try.ntmps48
  go_wp2
  go_loopg [8] l.length (fun gg v8 wr => ∃ i : Nat, i ≤ l.length ∧ l.length - i ≤ gg ∧ v8 = .int .i64 i ∧ wr = w ∧ Hid (orL (l.drop i) = orL l))
  case atStart => exact ⟨0, by omega, by omega, rfl, rfl, rfl⟩
  case round =>
    obtain ⟨i, hi, hg, rfl, rfl, HE⟩ := hrel
    by_cases hlt : i < l.length
    · have hlt' : (i : Int) < (l.length : Int) := by omega
      obtain ⟨ba, oa, hae, hca⟩ := HL.out.at hlt
      have c1 := hca i (by rw [ints_len]; exact hlt)
      rw [ints_get] at c1
      have h1 := HE.out
      rw [List.drop_eq_getElem_cons hlt, orL] at h1
      obtain ⟨x, HX⟩ := nameIt (l[i]'hlt)
      rw [HX.out] at c1 h1
      have H1 := Lib.hid h1
      subst hae
      clear hca h1
      by_cases h0 : x = 0
      · subst h0
        have h2 := H1.out
        rw [if_pos rfl] at h2
        have HE2 := Lib.hid h2
        clear h2
        go_wp2
        go_roundg (l.length - (i + 1))
        case measure => omega
        case rel => exact ⟨i + 1, by omega, by omega, by go_num, rfl, HE2⟩
      · have h2 := H1.out
        rw [if_neg h0] at h2
        have HE2 := Lib.hid h2
        have hcb : (x != 0) = true := by simpa using h0
        clear h2 h0
        go_wp2
        go_ret
        exact ⟨by rw [← HE2.out]; rfl, rfl⟩
    · have hlt' : ¬ (i : Int) < (l.length : Int) := by omega
      have HE2 : Hid (orL l = 0) := by show _ = _; rw [← HE.out, List.drop_of_length_le (by omega), orL]
      go_wp2
      go_ret
      exact ⟨by rw [HE2.out]; rfl, rfl⟩
end Go.Proofs.Ytbnpemgmdnghgaa
namespace Go.Proofs.Ytbnpemgmdnghgaa
open Go.RowKit

structure Gram where
  terms : Int
  nons : Int
  start : Int
  rules : List Rule
  deriving DecidableEq
def Gram.d (g : Gram) : D := .agg [.int g.terms, .int g.nons, .int g.start, .sl (g.rules.map Rule.d)]
def hasS (g : Gram) (s : Sym) : Bool := decide (0 ≤ s.n) && (s.term && decide (s.n < g.terms) || !s.term && decide (s.n < g.nons))
def ordS (a b : Sym) : Int := if a.term = b.term then cmp3 a.n b.n else if a.term then -1 else 1
def cmpS : List Sym → List Sym → Int
  | [], [] => 0
  | [], _ :: _ => -1
  | _ :: _, [] => 1
  | x :: l, y :: m => if ordS x y = 0 then cmpS l m else ordS x y
def cmpR (a b : Rule) : Int := orL [cmp3 a.left b.left, cmpS a.right b.right]
theorem ordS_zero {a b : Sym} : ordS a b = 0 ↔ a = b := by
  constructor
  · intro h
    unfold ordS at h
    by_cases e : a.term = b.term
    · rw [if_pos e] at h
      have := cmp3_zero h
      cases a; cases b; simp_all
    · rw [if_neg e] at h
      split at h <;> simp at h
  · rintro rfl
    simp [ordS, cmp3_self]
theorem cmpS_zero : ∀ {l m : List Sym}, cmpS l m = 0 ↔ l = m
  | [], [] => by simp [cmpS]
  | [], _ :: _ => by simp [cmpS]
  | _ :: _, [] => by simp [cmpS]
  | x :: l, y :: m => by
    rw [cmpS]
    by_cases h : ordS x y = 0
    · rw [if_pos h, cmpS_zero]
      rw [ordS_zero] at h
      simp [h]
    · rw [if_neg h]
      rw [ordS_zero] at h
      constructor
      · intro h2; rw [ordS_zero] at h2; exact absurd h2 h
      · intro h2; simp at h2; exact absurd h2.1 h
theorem cmpR_zero {a b : Rule} : cmpR a b = 0 ↔ a = b := by
  unfold cmpR
  simp only [orL]
  constructor
  · intro h
    by_cases h1 : cmp3 a.left b.left = 0
    · rw [if_pos h1] at h
      by_cases h2 : cmpS a.right b.right = 0
      · have := cmp3_zero h1
        rw [cmpS_zero] at h2
        cases a; cases b; simp_all
      · rw [if_neg h2] at h; exact absurd h h2
    · rw [if_neg h1] at h; exact absurd h h1
  · rintro rfl
    have : cmpS a.right a.right = 0 := cmpS_zero.2 rfl
    simp [cmp3_self, this]
/-- the fault of the rule i -/
def faultR (g : Gram) (i : Nat) (r : Rule) : Int :=
  if r.left < 0 ∨ g.nons ≤ r.left then 3 else if 4 < r.right.length then 2 else if r.right.any (fun s => !hasS g s) then 3 else if (g.rules.take i).any (fun x => cmpR x r == 0) then 6 else 0
def faultsFrom (g : Gram) : Nat → List Rule → Int
  | _, [] => 0
  | i, r :: l => if faultR g i r = 0 then faultsFrom g (i + 1) l else faultR g i r
def badHead (g : Gram) : Bool := decide (g.terms < 1) || decide (8 < g.terms) || decide (g.nons < 1) || decide (10 < g.nons) || decide (g.start < 0) || decide (g.nons ≤ g.start)
def checkG (g : Gram) : Int := if badHead g then 1 else if 32 < g.rules.length then 2 else faultsFrom g 0 g.rules
theorem faultsFrom_at {g : Gram} {i : Nat} (h : i < g.rules.length) : faultsFrom g i (g.rules.drop i) = if faultR g i g.rules[i] = 0 then faultsFrom g (i + 1) (g.rules.drop (i + 1)) else faultR g i g.rules[i] := by
  rw [List.drop_eq_getElem_cons h, faultsFrom]
theorem faultsFrom_zero {g : Gram} : ∀ {l : List Rule} {i : Nat}, faultsFrom g i l = 0 → ∀ r ∈ l, 0 ≤ r.left ∧ r.left < g.nons ∧ r.right.length ≤ 4 ∧ ∀ s ∈ r.right, hasS g s = true
  | [], i, _, r, hr => by simp at hr
  | x :: l, i, h, r, hr => by
    rw [faultsFrom] at h
    by_cases h0 : faultR g i x = 0
    · rw [if_pos h0] at h
      rcases List.mem_cons.1 hr with rfl | hr
      · unfold faultR at h0
        by_cases h1 : r.left < 0 ∨ g.nons ≤ r.left
        · rw [if_pos h1] at h0; simp at h0
        · rw [if_neg h1] at h0
          by_cases h2 : 4 < r.right.length
          · rw [if_pos h2] at h0; simp at h0
          · rw [if_neg h2] at h0
            by_cases h3 : r.right.any (fun s => !hasS g s) = true
            · rw [if_pos h3] at h0; simp at h0
            · refine ⟨by omega, by omega, by omega, fun s hs => ?_⟩
              simp at h3
              exact h3 s hs
      · exact faultsFrom_zero h r hr
    · rw [if_neg h0] at h; exact absurd h h0
theorem checkG_zero {g : Gram} (h : checkG g = 0) : (1 ≤ g.terms ∧ g.terms ≤ 8 ∧ 1 ≤ g.nons ∧ g.nons ≤ 10 ∧ 0 ≤ g.start ∧ g.start < g.nons) ∧ g.rules.length ≤ 32 ∧ ∀ r ∈ g.rules, 0 ≤ r.left ∧ r.left < g.nons ∧ r.right.length ≤ 4 ∧ ∀ s ∈ r.right, hasS g s = true := by
  unfold checkG at h
  by_cases h1 : badHead g = true
  · rw [if_pos h1] at h; simp at h
  · rw [if_neg h1] at h
    by_cases h2 : 32 < g.rules.length
    · rw [if_pos h2] at h; simp at h
    · rw [if_neg h2] at h
      refine ⟨?_, by omega, faultsFrom_zero h⟩
      simp [badHead] at h1
      omega
end Go.Proofs.Ytbnpemgmdnghgaa
namespace Go.Proofs.Ytbnpemgmdnghgaa
open Go.RowKit

inductive Pth (E : List (Nat × Nat)) : Nat → Nat → Prop
  | one {i j : Nat} : (i, j) ∈ E → Pth E i j
  | cons {i j k : Nat} : (i, j) ∈ E → Pth E j k → Pth E i k
theorem Pth.trans {E : List (Nat × Nat)} {i j k : Nat} (h : Pth E i j) (h2 : Pth E j k) : Pth E i k := by
  induction h with
  | one h => exact .cons h h2
  | cons h _ ih => exact .cons h (ih h2)
/-- in rounds over the places between -/
def fw (E : List (Nat × Nat)) : Nat → Nat → Nat → Bool
  | 0, i, j => decide ((i, j) ∈ E)
  | k + 1, i, j => fw E k i j || (fw E k i k && fw E k k j)
theorem fw_mono {E : List (Nat × Nat)} {k i j : Nat} (h : fw E k i j = true) : fw E (k + 1) i j = true := by rw [fw, h]; rfl
theorem fw_edge {E : List (Nat × Nat)} {i j : Nat} (h : (i, j) ∈ E) : ∀ k, fw E k i j = true
  | 0 => by simpa [fw] using h
  | k + 1 => fw_mono (fw_edge h k)
theorem fw_sound {E : List (Nat × Nat)} : ∀ {k i j : Nat}, fw E k i j = true → Pth E i j
  | 0, i, j, h => .one (by simpa [fw] using h)
  | k + 1, i, j, h => by
    rw [fw] at h
    simp at h
    rcases h with h | ⟨h1, h2⟩
    · exact fw_sound h
    · exact (fw_sound h1).trans (fw_sound h2)
theorem fw_row {E : List (Nat × Nat)} (k i : Nat) : fw E (k + 1) i k = fw E k i k := by
  rw [fw]; cases fw E k i k <;> simp
theorem fw_col {E : List (Nat × Nat)} (k j : Nat) : fw E (k + 1) k j = fw E k k j := by
  rw [fw]; cases fw E k k j <;> cases fw E k k k <;> simp
theorem fw_trans {E : List (Nat × Nat)} : ∀ {k m i j : Nat}, m < k → fw E k i m = true → fw E k m j = true → fw E k i j = true
  | 0, m, i, j, hm, _, _ => by omega
  | k + 1, m, i, j, hm, h1, h2 => by
    by_cases e : m = k
    · subst e
      rw [fw_row] at h1
      rw [fw_col] at h2
      rw [fw, h1, h2]; simp
    · have hm' : m < k := by omega
      rw [fw] at h1 h2
      simp at h1 h2
      have put : fw E k i k = true → fw E k k j = true → fw E (k + 1) i j = true := fun a b => by rw [fw, a, b]; simp
      rcases h1 with h1 | ⟨h1, h1'⟩ <;> rcases h2 with h2 | ⟨h2, h2'⟩
      · exact fw_mono (fw_trans hm' h1 h2)
      · exact put (fw_trans hm' h1 h2) h2'
      · exact put h1 (fw_trans hm' h1' h2)
      · exact put h1 h2'
theorem fw_iff {E : List (Nat × Nat)} {N : Nat} (hE : ∀ e ∈ E, e.1 < N ∧ e.2 < N) {i j : Nat} : fw E N i j = true ↔ Pth E i j := by
  refine ⟨fw_sound, fun h => ?_⟩
  induction h with
  | one h => exact fw_edge h N
  | cons h _ ih => exact fw_trans (hE _ h).2 (fw_edge h N) ih

def cnt (N : Nat) (U : Nat → Bool) : Nat := ((List.range N).filter U).length
theorem filter_lt {l : List Nat} {U V : Nat → Bool} (h : ∀ x ∈ l, U x = true → V x = true) : (l.filter U).length ≤ (l.filter V).length ∧ (∀ x ∈ l, V x = true → U x = false → (l.filter U).length < (l.filter V).length) := by
  induction l with
  | nil => simp
  | cons a l ih =>
    obtain ⟨h1, h2⟩ := ih fun x hx => h x (List.mem_cons_of_mem _ hx)
    have ha := h a List.mem_cons_self
    simp only [List.filter_cons]
    constructor
    · cases hu : U a <;> cases hv : V a <;> simp_all <;> omega
    · intro x hx hv hu
      rcases List.mem_cons.1 hx with rfl | hx
      · rw [hu, hv]; simp; omega
      · have := h2 x hx hv hu
        cases hu' : U a <;> cases hv' : V a <;> simp_all <;> omega
end Go.Proofs.Ytbnpemgmdnghgaa
namespace Go.Proofs.Ytbnpemgmdnghgaa
open Go.RowKit
namespace Cs

def hasK (S : Nat → Nat → Bool) (s : Sym) (k : Nat) : Bool := if s.term then decide (k = 1) else S s.n.toNat k
def canK (S : Nat → Nat → Bool) : List Sym → Nat → Bool
  | [], k => decide (k = 0)
  | s :: l, k => (List.range (k + 1)).any fun i => hasK S s i && canK S l (k - i)
def splitK (S : Nat → Nat → Bool) (a b : List Sym) (k : Nat) : Bool := (List.range (k + 1)).any fun i => canK S a i && canK S b (k - i)
theorem canK_cons {S : Nat → Nat → Bool} {s : Sym} {l : List Sym} {k : Nat} : canK S (s :: l) k = true ↔ ∃ i, i ≤ k ∧ hasK S s i = true ∧ canK S l (k - i) = true := by
  rw [canK, List.any_eq_true]
  constructor
  · rintro ⟨i, hi, h⟩
    rw [Bool.and_eq_true] at h
    exact ⟨i, by have := List.mem_range.1 hi; omega, h⟩
  · rintro ⟨i, hi, h1, h2⟩
    exact ⟨i, List.mem_range.2 (by omega), by rw [h1, h2]; rfl⟩
theorem splitK_iff {S : Nat → Nat → Bool} {a b : List Sym} {k : Nat} : splitK S a b k = true ↔ ∃ i, i ≤ k ∧ canK S a i = true ∧ canK S b (k - i) = true := by
  rw [splitK, List.any_eq_true]
  constructor
  · rintro ⟨i, hi, h⟩
    rw [Bool.and_eq_true] at h
    exact ⟨i, by have := List.mem_range.1 hi; omega, h⟩
  · rintro ⟨i, hi, h1, h2⟩
    exact ⟨i, List.mem_range.2 (by omega), by rw [h1, h2]; rfl⟩
/-- a list of at most so many trees of symbols, in which all that is asked for is good -/
def Fine (S : Nat → Nat → Bool) (G : Nat → Nat → Prop) (l : List Sym) (k : Nat) : Prop :=
  ∀ (p : Nat) (s : Sym) (i a : Nat), l[p]? = some s → s.term = false → S s.n.toNat i = true → a + i ≤ k → canK S (l.take p) a = true → canK S (l.drop (p + 1)) (k - a - i) = true → G s.n.toNat i
theorem Fine.head {S : Nat → Nat → Bool} {G : Nat → Nat → Prop} {s : Sym} {l : List Sym} {k i : Nat} (h : Fine S G (s :: l) k) (hi : i ≤ k) (h1 : hasK S s i = true) (h2 : canK S l (k - i) = true) (ht : s.term = false) : G s.n.toNat i := by
  refine h 0 s i 0 rfl ht ?_ (by omega) rfl (by simpa using h2)
  unfold hasK at h1
  rw [ht] at h1
  simpa using h1
theorem Fine.tail {S : Nat → Nat → Bool} {G : Nat → Nat → Prop} {s : Sym} {l : List Sym} {k i : Nat} (h : Fine S G (s :: l) k) (hi : i ≤ k) (h1 : hasK S s i = true) : Fine S G l (k - i) := by
  intro p s' j a hp ht hS ha h2 h3
  refine h (p + 1) s' j (i + a) hp ht hS (by omega) ?_ ?_
  · rw [List.take_succ_cons, canK_cons]
    exact ⟨i, by omega, h1, by rw [Nat.add_sub_cancel_left]; exact h2⟩
  · rw [List.drop_succ_cons]
    have : k - (i + a) - j = k - i - a - j := by omega
    rw [this]; exact h3
/-- how many nodes a node leads to -/
def reachN (T : Nat → Nat → Bool) (size u : Nat) : Nat := ((List.range size).filter fun v => T u v).length
theorem reachN_lt {T : Nat → Nat → Bool} {size u v : Nat} (hT : ∀ i k j, T i k = true → T k j = true → T i j = true) (huv : T u v = true) (hv : v < size) (hvv : T v v = false) : reachN T size v < reachN T size u := by
  unfold reachN
  have key : ∀ n, ((List.range n).filter fun w => T v w).length + (if v < n then 1 else 0) ≤ ((List.range n).filter fun w => T u w).length := by
    intro n
    induction n with
    | zero => simp
    | succ n ih =>
      rw [List.range_succ, List.filter_append, List.filter_append, List.length_append, List.length_append]
      by_cases e : v = n
      · subst e
        rw [if_neg (by omega)] at ih
        rw [if_pos (by omega)]
        simp [huv, hvv] at ih ⊢
        exact ih
      · have e2 : (if v < n + 1 then 1 else 0) = (if v < n then 1 else 0) := by
          by_cases h : v < n
          · rw [if_pos h, if_pos (by omega)]
          · rw [if_neg h, if_neg (by omega)]
        rw [e2]
        cases h : T v n with
        | false => simp [h]; omega
        | true =>
          have := hT u v n huv h
          simp [h, this]; omega
  have := key size
  rw [if_pos hv] at this
  omega
theorem reachN_le (T : Nat → Nat → Bool) (size u : Nat) : reachN T size u ≤ size := by
  unfold reachN
  refine Nat.le_trans (List.length_filter_le _ _) ?_
  rw [List.length_range]; exact Nat.le_refl _
/-- a table of truth values as edges -/
def edg (size : Nat) (F : Nat → Nat → Bool) : List (Nat × Nat) := (List.range size).flatMap fun i => ((List.range size).filter fun j => F i j).map fun j => (i, j)
theorem edg_mem {size : Nat} {F : Nat → Nat → Bool} {i j : Nat} : (i, j) ∈ edg size F ↔ i < size ∧ j < size ∧ F i j = true := by
  unfold edg
  rw [List.mem_flatMap]
  constructor
  · rintro ⟨a, ha, h⟩
    obtain ⟨b, hb, e⟩ := List.mem_map.1 h
    cases e
    rw [List.mem_filter] at hb
    exact ⟨List.mem_range.1 ha, List.mem_range.1 hb.1, hb.2⟩
  · rintro ⟨h1, h2, h3⟩
    exact ⟨i, List.mem_range.2 h1, List.mem_map.2 ⟨j, List.mem_filter.2 ⟨List.mem_range.2 h2, h3⟩, rfl⟩⟩
theorem edg_lt {size : Nat} {F : Nat → Nat → Bool} : ∀ e ∈ edg size F, e.1 < size ∧ e.2 < size := by
  rintro ⟨i, j⟩ h
  obtain ⟨h1, h2, _⟩ := edg_mem.1 h
  exact ⟨h1, h2⟩
/-- all that a node leads to -/
def clo (size : Nat) (F : Nat → Nat → Bool) (i j : Nat) : Bool := fw (edg size F) size i j
theorem clo_edge {size : Nat} {F : Nat → Nat → Bool} {i j : Nat} (hi : i < size) (hj : j < size) (h : F i j = true) : clo size F i j = true := fw_edge (edg_mem.2 ⟨hi, hj, h⟩) size
theorem clo_trans {size : Nat} {F : Nat → Nat → Bool} : ∀ i k j, clo size F i k = true → clo size F k j = true → clo size F i j = true := fun _ _ _ h1 h2 =>
  (fw_iff edg_lt).2 (((fw_iff edg_lt).1 h1).trans ((fw_iff edg_lt).1 h2))
/-- what leads to itself, or to such: looked at below jm -/
def manyK (T : Nat → Nat → Bool) (jm u : Nat) : Bool := (List.range jm).any fun j => (u == j || T u j) && T j j
theorem manyK_not {T : Nat → Nat → Bool} {size u : Nat} (h : manyK T size u = false) {j : Nat} (hj : j < size) (h1 : u = j ∨ T u j = true) : T j j = false := by
  unfold manyK at h
  rw [List.any_eq_false] at h
  have := h j (List.mem_range.2 hj)
  cases e : T j j with
  | false => rfl
  | true =>
    rw [e] at this
    rcases h1 with rfl | h1
    · simp at this
    · simp [h1] at this
/-- the sum over ways of a list, as the program reckons it -/
def listStep (cap : Int) (sum o l : Int) : Int := min (IntKind.i64.wrap (sum + IntKind.i64.wrap (o * l))) cap
def listV (S : Nat → Nat → Bool) (cap : Int) (o : Sym → Nat → Int) : List Sym → Nat → Int
  | [], k => if k = 0 then 1 else 0
  | s :: l, k => (List.range (k + 1)).foldl (fun sum i => if (hasK S s i && canK S l (k - i)) = true then listStep cap sum (o s i) (listV S cap o l (k - i)) else sum) 0
def symV (S : Nat → Nat → Bool) (f : Nat → Nat → Int) (s : Sym) (k : Nat) : Int := if hasK S s k = false then 0 else if s.term then 1 else f s.n.toNat k
def ofF (rules : List Rule) (S M : Nat → Nat → Bool) (cap many : Int) : Nat → Nat → Nat → Int
  | 0, _, _ => 0
  | f + 1, A, k => if S A k = false then 0 else if M A k then many else rules.foldl (fun sum r => if r.left = (A : Int) then min (IntKind.i64.wrap (sum + listV S cap (symV S (ofF rules S M cap many f)) r.right k)) cap else sum) 0
theorem foldl_same {α β : Type} {f g : β → α → β} : ∀ (l : List α) (b : β), (∀ b a, a ∈ l → f b a = g b a) → l.foldl f b = l.foldl g b
  | [], _, _ => rfl
  | a :: l, b, h => by
    rw [List.foldl_cons, List.foldl_cons, h b a List.mem_cons_self]
    exact foldl_same l _ fun b' a' h' => h b' a' (List.mem_cons_of_mem _ h')
theorem listV_same {S : Nat → Nat → Bool} {cap : Int} {o o' : Sym → Nat → Int} {G : Nat → Nat → Prop} (ho : ∀ (s : Sym) (i : Nat), s.term = true → o s i = o' s i) (hG : ∀ (s : Sym) (i : Nat), s.term = false → G s.n.toNat i → o s i = o' s i) :
    ∀ (l : List Sym) (k : Nat), Fine S G l k → listV S cap o l k = listV S cap o' l k
  | [], _, _ => rfl
  | s :: l, k, h => by
    rw [listV, listV]
    refine foldl_same _ _ fun b i hi => ?_
    have hik : i ≤ k := by have := List.mem_range.1 hi; omega
    by_cases e : (hasK S s i && canK S l (k - i)) = true
    · rw [if_pos e, if_pos e]
      rw [Bool.and_eq_true] at e
      rw [listV_same ho hG l (k - i) (h.tail hik e.1)]
      cases ht : s.term with
      | true => rw [ho s i ht]
      | false => rw [hG s i ht (h.head hik e.1 e.2 ht)]
    · rw [if_neg e, if_neg e]
/-- a node from which counting ends, in so many steps -/
def okK (T M : Nat → Nat → Bool) (n size f A k : Nat) : Prop := M A k = true ∨ reachN T size (A * (n + 1) + k) < f
/-- all that is asked for at a node leads to fewer nodes -/
def EndsK (rules : List Rule) (S M T : Nat → Nat → Bool) (N n size : Nat) : Prop :=
  ∀ (A k : Nat) (r : Rule), A < N → k ≤ n → M A k = false → r ∈ rules → r.left = (A : Int) → Fine S (fun B j => B < N ∧ j ≤ n ∧ okK T M n size (reachN T size (A * (n + 1) + k)) B j) r.right k
section
variable {rules : List Rule} {S M T : Nat → Nat → Bool} {N n size : Nat} {cap many : Int}
theorem okK.mono {f f' A k : Nat} (h : okK T M n size f A k) (hf : f ≤ f') : okK T M n size f' A k := h.imp id fun h => by omega
theorem ofF_stable (hE : EndsK rules S M T N n size) : ∀ (f A k : Nat), A < N → k ≤ n → okK T M n size f A k → ∀ f', f ≤ f' → ofF rules S M cap many (f' + 1) A k = ofF rules S M cap many (f + 1) A k := by
  intro f
  induction f with
  | zero =>
    intro A k hA hk h f' _
    rcases h with h | h
    · rw [ofF, ofF, h]; rfl
    · omega
  | succ f ih =>
    intro A k hA hk h f' hf
    by_cases hM : M A k = true
    · rw [ofF, ofF, hM]; rfl
    · have hM' : M A k = false := by simpa using hM
      have hr : reachN T size (A * (n + 1) + k) < f + 1 := h.resolve_left hM
      obtain ⟨f0, rfl⟩ : ∃ f0, f' = f0 + 1 := ⟨f' - 1, by omega⟩
      rw [ofF, ofF, hM']
      by_cases hS : S A k = false
      · rw [if_pos hS, if_pos hS]
      · rw [if_neg hS, if_neg hS]
        simp only [Bool.false_eq_true, if_false]
        refine foldl_same _ _ fun b r hr' => ?_
        by_cases hl : r.left = (A : Int)
        · rw [if_pos hl, if_pos hl]
          have := hE A k r hA hk hM' hr' hl
          have h1 : ∀ (s : Sym) (i : Nat), s.term = true → symV S (ofF rules S M cap many (f0 + 1)) s i = symV S (ofF rules S M cap many (f + 1)) s i := fun s i ht => by unfold symV; simp [ht]
          have h2 : ∀ (s : Sym) (i : Nat), s.term = false → (s.n.toNat < N ∧ i ≤ n ∧ okK T M n size (reachN T size (A * (n + 1) + k)) s.n.toNat i) → symV S (ofF rules S M cap many (f0 + 1)) s i = symV S (ofF rules S M cap many (f + 1)) s i := fun s i ht hg => by
            unfold symV
            simp only [ht, Bool.false_eq_true, if_false]
            rw [ih _ _ hg.1 hg.2.1 (hg.2.2.mono (by omega)) f0 (by omega)]
          rw [listV_same (G := fun B j => B < N ∧ j ≤ n ∧ okK T M n size (reachN T size (A * (n + 1) + k)) B j) h1 h2 r.right k this]
        · rw [if_neg hl, if_neg hl]
/-- the number of trees, as the program reckons it -/
def valK (rules : List Rule) (S M : Nat → Nat → Bool) (cap many : Int) (size : Nat) (A k : Nat) : Int := ofF rules S M cap many (size + 2) A k
theorem valK_eq (hE : EndsK rules S M T N n size) {A k : Nat} (hA : A < N) (hk : k ≤ n) :
    valK rules S M cap many size A k = if S A k = false then 0 else if M A k then many else rules.foldl (fun sum r => if r.left = (A : Int) then min (IntKind.i64.wrap (sum + listV S cap (symV S (valK rules S M cap many size)) r.right k)) cap else sum) 0 := by
  unfold valK
  rw [ofF]
  by_cases hS : S A k = false
  · rw [if_pos hS, if_pos hS]
  · rw [if_neg hS, if_neg hS]
    by_cases hM : M A k = true
    · rw [if_pos hM, if_pos hM]
    · rw [if_neg hM, if_neg hM]
      have hM' : M A k = false := by simpa using hM
      refine foldl_same _ _ fun b r hr' => ?_
      by_cases hl : r.left = (A : Int)
      · rw [if_pos hl, if_pos hl]
        have h1 : ∀ (s : Sym) (i : Nat), s.term = true → symV S (ofF rules S M cap many (size + 1)) s i = symV S (fun A k => ofF rules S M cap many (size + 2) A k) s i := fun s i ht => by unfold symV; simp [ht]
        have h2 : ∀ (s : Sym) (i : Nat), s.term = false → (s.n.toNat < N ∧ i ≤ n ∧ okK T M n size (reachN T size (A * (n + 1) + k)) s.n.toNat i) → symV S (ofF rules S M cap many (size + 1)) s i = symV S (fun A k => ofF rules S M cap many (size + 2) A k) s i := fun s i ht hg => by
          have hs := reachN_le T size (A * (n + 1) + k)
          have e1 := ofF_stable (cap := cap) (many := many) hE (reachN T size (A * (n + 1) + k)) _ _ hg.1 hg.2.1 hg.2.2 size hs
          have e2 := ofF_stable (cap := cap) (many := many) hE (reachN T size (A * (n + 1) + k)) _ _ hg.1 hg.2.1 hg.2.2 (size + 1) (by omega)
          unfold symV
          simp only [ht, Bool.false_eq_true, if_false]
          rw [e1, e2]
        rw [listV_same (G := fun B j => B < N ∧ j ≤ n ∧ okK T M n size (reachN T size (A * (n + 1) + k)) B j) h1 h2 r.right k (hE A k r hA hk hM' hr' hl)]
      · rw [if_neg hl, if_neg hl]
theorem okK_all (f A k : Nat) (hf : size < f) : okK T M n size f A k := .inr (Nat.lt_of_le_of_lt (reachN_le _ _ _) hf)
end
end Cs
end Go.Proofs.Ytbnpemgmdnghgaa
namespace Go.Proofs.Ytbnpemgmdnghgaa
open Go.RowKit
namespace Cs

def updB (F : Nat → Nat → Bool) (a b : Nat) : Nat → Nat → Bool := fun k l => if k = a ∧ l = b then true else F k l
theorem updB_ge {F : Nat → Nat → Bool} {a b k l : Nat} (h : F k l = true) : updB F a b k l = true := by unfold updB; split; rfl; exact h
theorem updB_at (F : Nat → Nat → Bool) (a b : Nat) : updB F a b a b = true := by unfold updB; rw [if_pos ⟨rfl, rfl⟩]
/-- one place: rule r at length k, symbol i, of length j -/
def e1 (S : Nat → Nat → Bool) (n : Nat) (r : Rule) (k i : Nat) (F : Nat → Nat → Bool) (j : Nat) : Nat → Nat → Bool :=
  if (S ((r.right.getD i ⟨true, 0⟩).n.toNat) j && splitK S (r.right.take i) (r.right.drop (i + 1)) (k - j)) = true then updB F (r.left.toNat * (n + 1) + k) ((r.right.getD i ⟨true, 0⟩).n.toNat * (n + 1) + j) else F
def e2 (S : Nat → Nat → Bool) (n : Nat) (r : Rule) (k i : Nat) (F : Nat → Nat → Bool) (jm : Nat) : Nat → Nat → Bool := (List.range jm).foldl (e1 S n r k i) F
def e3 (S : Nat → Nat → Bool) (n : Nat) (r : Rule) (k : Nat) (F : Nat → Nat → Bool) (im : Nat) : Nat → Nat → Bool := (List.range im).foldl (fun F i => if (r.right.getD i ⟨true, 0⟩).term then F else e2 S n r k i F (k + 1)) F
def e4 (S : Nat → Nat → Bool) (n : Nat) (r : Rule) (F : Nat → Nat → Bool) (km : Nat) : Nat → Nat → Bool := (List.range km).foldl (fun F k => e3 S n r k F r.right.length) F
def e5 (S : Nat → Nat → Bool) (n : Nat) (l : List Rule) : Nat → Nat → Bool := l.foldl (fun F r => e4 S n r F (n + 1)) (fun _ _ => false)
theorem fold_ge {α β : Type} {P : β → Prop} {f : β → α → β} : ∀ (l : List α) (b : β), (∀ b a, P b → P (f b a)) → P b → P (l.foldl f b)
  | [], _, _, h => h
  | a :: l, b, hf, h => fold_ge l (f b a) hf (hf b a h)
theorem fold_hit {α β : Type} {P : β → Prop} {f : β → α → β} (hf : ∀ b a, P b → P (f b a)) : ∀ (l : List α) (b : β) (x : α), x ∈ l → (∀ b, P (f b x)) → P (l.foldl f b)
  | [], _, _, h, _ => by cases h
  | a :: l, b, x, h, hx => by
    rcases List.mem_cons.1 h with rfl | h
    · exact fold_ge l _ hf (hx b)
    · exact fold_hit hf l _ x h hx
section
variable {S : Nat → Nat → Bool} {n : Nat} {u v : Nat}
theorem e1_ge {r : Rule} {k i : Nat} (F : Nat → Nat → Bool) (j : Nat) (h : F u v = true) : e1 S n r k i F j u v = true := by unfold e1; split; exact updB_ge h; exact h
theorem e2_ge {r : Rule} {k i : Nat} (F : Nat → Nat → Bool) (jm : Nat) (h : F u v = true) : e2 S n r k i F jm u v = true := fold_ge (P := fun (F : Nat → Nat → Bool) => F u v = true) _ _ (fun (F : Nat → Nat → Bool) j h => e1_ge F j h) h
theorem e3_ge {r : Rule} {k : Nat} (F : Nat → Nat → Bool) (im : Nat) (h : F u v = true) : e3 S n r k F im u v = true := fold_ge (P := fun (F : Nat → Nat → Bool) => F u v = true) _ _ (fun (F : Nat → Nat → Bool) i h => by show (if _ then F else e2 S n r k i F (k + 1)) u v = true; split; exact h; exact e2_ge F _ h) h
theorem e4_ge {r : Rule} (F : Nat → Nat → Bool) (km : Nat) (h : F u v = true) : e4 S n r F km u v = true := fold_ge (P := fun (F : Nat → Nat → Bool) => F u v = true) _ _ (fun (F : Nat → Nat → Bool) k h => e3_ge F _ h) h
/-- all edges are there -/
theorem e5_hit {l : List Rule} {r : Rule} {k i j : Nat} {s : Sym} (hr : r ∈ l) (hk : k ≤ n) (hi : r.right[i]? = some s) (ht : s.term = false) (hj : j ≤ k) (hS : S s.n.toNat j = true) (hsp : splitK S (r.right.take i) (r.right.drop (i + 1)) (k - j) = true) :
    e5 S n l (r.left.toNat * (n + 1) + k) (s.n.toNat * (n + 1) + j) = true := by
  have hg : r.right.getD i ⟨true, 0⟩ = s := by rw [List.getD_eq_getElem?_getD, hi]; rfl
  have hil := (List.getElem?_eq_some_iff.1 hi).1
  unfold e5
  refine fold_hit (P := fun (F : Nat → Nat → Bool) => F (r.left.toNat * (n + 1) + k) (s.n.toNat * (n + 1) + j) = true) (fun F r' h => e4_ge F _ h) l _ r hr fun F => ?_
  unfold e4
  refine fold_hit (P := fun (F : Nat → Nat → Bool) => F (r.left.toNat * (n + 1) + k) (s.n.toNat * (n + 1) + j) = true) (fun F k' h => e3_ge F _ h) _ _ k (List.mem_range.2 (by omega)) fun F => ?_
  unfold e3
  refine fold_hit (P := fun (F : Nat → Nat → Bool) => F (r.left.toNat * (n + 1) + k) (s.n.toNat * (n + 1) + j) = true) (fun F i' h => by show (if _ then F else e2 S n r k i' F (k + 1)) _ _ = true; split; exact h; exact e2_ge F _ h) _ _ i (List.mem_range.2 hil) fun F => ?_
  rw [hg, ht]
  simp only [Bool.false_eq_true, if_false]
  unfold e2
  refine fold_hit (P := fun (F : Nat → Nat → Bool) => F (r.left.toNat * (n + 1) + k) (s.n.toNat * (n + 1) + j) = true) (fun F j' h => e1_ge F _ h) _ _ j (List.mem_range.2 (by omega)) fun F => ?_
  unfold e1
  rw [hg, hS, hsp]
  exact updB_at _ _ _
end
/-- which nodes have infinitely many trees -/
def sizeK (N n : Nat) : Nat := N * (n + 1)
def clK (rules : List Rule) (S : Nat → Nat → Bool) (N n : Nat) : Nat → Nat → Bool := clo (sizeK N n) (e5 S n rules)
def MK (rules : List Rule) (S : Nat → Nat → Bool) (N n : Nat) : Nat → Nat → Bool := fun A k => manyK (clK rules S N n) (sizeK N n) (A * (n + 1) + k)
theorem node_lt {N n A k : Nat} (hA : A < N) (hk : k ≤ n) : A * (n + 1) + k < sizeK N n := by
  unfold sizeK
  have : (A + 1) * (n + 1) ≤ N * (n + 1) := Nat.mul_le_mul_right _ hA
  rw [Nat.add_mul, Nat.one_mul] at this
  omega
theorem ends_MK {rules : List Rule} {S : Nat → Nat → Bool} {N n : Nat} (hok : ∀ r ∈ rules, ∀ s ∈ r.right, s.term = false → 0 ≤ s.n ∧ s.n.toNat < N) : EndsK rules S (MK rules S N n) (clK rules S N n) N n (sizeK N n) := by
  intro A k r hA hk hM hr hl p s i a hp ht hS ha h1 h2
  have hs := hok r hr s (List.mem_of_getElem? hp) ht
  have hin : i ≤ n := by omega
  refine ⟨hs.2, hin, ?_⟩
  have hu := node_lt (N := N) hA hk
  have hv := node_lt (N := N) hs.2 hin
  have hsp : splitK S (r.right.take p) (r.right.drop (p + 1)) (k - i) = true := splitK_iff.2 ⟨a, by omega, h1, by rw [show k - i - a = k - a - i by omega]; exact h2⟩
  have hedge := e5_hit (n := n) hr hk hp ht (show i ≤ k by omega) hS hsp
  rw [hl, Int.toNat_natCast] at hedge
  have hT : clK rules S N n (A * (n + 1) + k) (s.n.toNat * (n + 1) + i) = true := clo_edge hu hv hedge
  have hvv := manyK_not hM hv (.inr hT)
  exact .inr (reachN_lt clo_trans hT hv hvv)

/-- a pass over the table of lengths -/
def p1 (r : Rule) (st : (Nat → Nat → Bool) × Bool) (k : Nat) : (Nat → Nat → Bool) × Bool := if (!st.1 r.left.toNat k && canK st.1 r.right k) = true then (updB st.1 r.left.toNat k, true) else st
def p2 (n : Nat) (st : (Nat → Nat → Bool) × Bool) (r : Rule) : (Nat → Nat → Bool) × Bool := (List.range (n + 1)).foldl (p1 r) st
def p3 (n : Nat) (l : List Rule) (S : Nat → Nat → Bool) : (Nat → Nat → Bool) × Bool := l.foldl (p2 n) (S, false)
def itP (n : Nat) (l : List Rule) : Nat → (Nat → Nat → Bool) → (Nat → Nat → Bool)
  | 0, S => S
  | m + 1, S => itP n l m (p3 n l S).1
end Cs
end Go.Proofs.Ytbnpemgmdnghgaa
