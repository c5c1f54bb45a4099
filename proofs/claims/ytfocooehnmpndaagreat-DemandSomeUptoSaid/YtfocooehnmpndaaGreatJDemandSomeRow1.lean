/- Own small laws: a slice value that reads as a list of one-cell values. Own small laws, more: rows of the call's own, written in place; what calls leave. Contracts of the library's generic functions over slices of ints: Equal, Delete. Nested data in memory: whole numbers, truth values, strings, slices and structs, read out of cells. Trees, in plain Lean, and how they read. Symbols and rules of grammars, in plain Lean, and how they read. Contracts of the library's generic functions over slices of ints: Clone, Grow of nil, Concat. The contracts of cmp.Compare, cmp.Or, slices.Compare of whole numbers. Grammars, in plain Lean: which are valid. Attribute systems: expressions, equations, in plain Lean, and how they read. How attribute systems read in memory; the contract of attr.size. Values of expressions, in plain Lean; functions of occurrences. The contracts of gram.Has, gram.Order, gram.Compare and of slices' functions of symbols and rules. -/
import Derived.WalkKit
import Derived.ProofKit
import Derived.Below
import Derived.Deep.Slices
import Derived.Lib.Hide
import Derived.Deep.RegionLaw
import Derived.Laws.IdiomCopy
import Derived.Deep.QuietTactic
import Derived.BigQuiet
import Derived.Outline
import Derived.Lib.SlicesDelete
import Derived.Lib.SliceRun
import Derived.Laws.AppendOwnNone
import Derived.Lib.AppendZerosOnto
import Derived.Test.YtfocooehnmpndaaGreatRows
import Derived.Maps.AppendAt
import Derived.Deep.AppendLies
import Derived.Deep.LoopGhost
import Derived.Deep.Cut
import Derived.Shelf.Abstract
import Derived.Deep.Onto
import Derived.Deep.DeepCutAuto
import Derived.Deep.RegionHeld3
namespace Go.Proofs.YtfocooehnmpndaaGreat
open Go.RowKit
def Sl (w : World) (v : Value) (L : List Value) : Prop :=
  ∃ a cap, v = .slice a L.length cap ∧ L.length ≤ cap ∧ cap ≤ maxLen ∧ (a = none → cap = 0) ∧ ∀ i (h : i < L.length), ∃ x, a = some x ∧ w.cell? (x.add i) = some L[i]
theorem Sl.cases {w : World} {v : Value} {L : List Value} (h : Sl w v L) :
    (L = [] ∧ ∃ a cap, v = .slice a 0 cap ∧ cap ≤ maxLen ∧ (a = none → cap = 0)) ∨
    ∃ b off cap, v = .slice (some ⟨b, off, none⟩) L.length cap ∧ 0 < L.length ∧ L.length ≤ cap ∧ cap ≤ maxLen ∧ ∀ i (h : i < L.length), w.cell? ⟨b, off + i, none⟩ = some L[i] := by
  obtain ⟨a, cap, rfl, hl, hc, hn, hx⟩ := h
  rcases Nat.eq_zero_or_pos L.length with h0 | h0
  · left
    obtain rfl := List.eq_nil_of_length_eq_zero h0
    exact ⟨rfl, a, cap, rfl, hc, hn⟩
  · right
    obtain ⟨⟨b, off, spot⟩, rfl, h1⟩ := hx 0 h0
    have hs : spot = none := by simpa [Addr.add] using World.cell?_spot h1
    subst hs
    refine ⟨b, off, cap, rfl, h0, hl, hc, fun i hi => ?_⟩
    obtain ⟨y, hy, h2⟩ := hx i hi
    cases hy
    rw [← h2]
    congr 1
    unfold Addr.add
    by_cases e : i = 0 <;> simp [e]
theorem nameIt {α : Type} (a : α) : ∃ x, Hid (a = x) := ⟨a, rfl⟩
theorem lt_of_cell {w : World} {x : Addr} {v : Value} (h : w.cell? x = some v) : x.block < w.heap.size := by
  unfold World.cell? at h
  split at h
  · rename_i e
    exact (Array.getElem?_eq_some_iff.1 e).1
  · cases h
theorem add_block (x : Addr) (i : Nat) : (x.add i).block = x.block := by
  unfold Addr.add
  by_cases e : i = 0 <;> simp [e]
theorem Sl.keep {w w' : World} {v : Value} {L : List Value} (h : Sl w v L) (hb : Below w.heap.size w w') : Sl w' v L := by
  obtain ⟨a, cap, rfl, hl, hc, hn, hx⟩ := h
  refine ⟨a, cap, rfl, hl, hc, hn, fun i hi => ?_⟩
  obtain ⟨x, rfl, h1⟩ := hx i hi
  exact ⟨x, rfl, by rw [← h1]; exact hb.cell (lt_of_cell h1)⟩
theorem Sl.at {w : World} {a : Option Addr} {n cap : Nat} {L : List Value} (h : Sl w (.slice a n cap) L) {k : Nat} (hk : k < n) :
    ∃ b off, a = some ⟨b, off, none⟩ ∧ ∀ i (h : i < L.length), w.cell? ⟨b, off + i, none⟩ = some L[i] := by
  rcases h.cases with ⟨_, a', c', e, _⟩ | ⟨b, off, c', e, _, _, _, hx⟩
  · cases e; omega
  · cases e; exact ⟨b, off, rfl, hx⟩
theorem Sl.len {w : World} {a : Option Addr} {n cap : Nat} {L : List Value} (h : Sl w (.slice a n cap) L) : n = L.length ∧ n ≤ cap ∧ cap ≤ maxLen := by
  obtain ⟨a', c', e, hl, hc, _, _⟩ := h
  cases e; exact ⟨rfl, hl, hc⟩
theorem Sl.form {w : World} {v : Value} {L : List Value} (h : Sl w v L) : ∃ a cap, v = .slice a L.length cap := by
  obtain ⟨a', c', e, _⟩ := h; exact ⟨a', c', e⟩
theorem sl_of_own {w : World} {B : Nat} {e : TypeId} {v : Value} {n : Nat} {xs : List Value} (h : w.ownsRow B e 1 v n xs) : Sl w v xs := by
  obtain ⟨hl, h⟩ := h
  rw [Nat.mul_one] at hl
  rcases h with ⟨rfl, rfl⟩ | ⟨g, cap, cur, rfl, hg, hh, hn, hc, hs, ht⟩
  · obtain rfl := List.eq_nil_of_length_eq_zero hl
    exact ⟨none, 0, rfl, by simp, by simp, fun _ => rfl, fun i hi => by simp at hi⟩
  · subst hl
    refine ⟨_, cap, rfl, hn, hc, (fun h => by cases h), fun i hi => ⟨_, rfl, ?_⟩⟩
    have : (⟨g, 0, none⟩ : Addr).add i = ⟨g, i, none⟩ := by unfold Addr.add; by_cases e : i = 0 <;> simp [e]
    rw [this]
    simp only [World.cell?, hh]
    rw [Nat.mul_one] at ht
    have h2 : xs[i]? = cur[i]? := by
      conv => lhs; rw [← ht]
      rw [List.getElem?_take, if_pos hi]; simp
    rw [List.getElem?_eq_getElem hi] at h2
    simpa using h2.symm
structure ElemT (P : Program) (t e : TypeId) (size bytes : Nat) : Prop where
  und : P.underlying t = some (.slice e)
  info : ∃ (i : TypeInfo) (z : Value), P.info? e = some i ∧ i.zero = some z ∧ i.size = size ∧ i.bytes = bytes ∧ z.cells.size = size
  pos : 0 < size
theorem ElemT.mk' {P : Program} {t e : TypeId} {size bytes : Nat} {z : Value} (h : P.underlying t = some (.slice e)) (hi : (P.info? e).map (fun i => (i.zero, i.size, i.bytes)) = some (some z, size, bytes)) (hz : z.cells.size = size) (hp : 0 < size) : ElemT P t e size bytes := by
  obtain ⟨i, h1, h2, h3, h4⟩ := info_parts hi
  exact ⟨h, ⟨i, z, h1, h2, h3, h4, hz⟩, hp⟩
theorem wp_app1 {P : Program} {ops : Array Oper} {rest : List Oper} {o : Oper} {a : Act} {Q : Exit → Act → World → Prop} {w0 : World} {t e : TypeId} {size bytes : Nat} (E : ElemT P t e size bytes)
    (hgd : o.guard = none) (s x : Operand) (ho : o.op = .call { callee := .builtin .append, args := #[s, x], argTypes := #[t, t] })
    {B : Nat} {v : Value} {n : Nat} {xs : List Value} {news : Array Value} (hown : w0.ownsRow B e size v n xs) (hs : a.eval s = v) (hx : a.eval x = .slice (some ⟨w0.heap.size, 0, none⟩) 1 1)
    (hn : news.size = size) (h1 : news.toList.all Value.oneCell' = true) (hb : (n + 1) * bytes ≤ 140737488355328) (hm : n + 1 ≤ maxLen) (hB : B ≤ w0.heap.size)
    (h : ∀ v' w', w'.ownsRow B e size v' (n + 1) (xs ++ news.toList) → w0.grownBy w' v.ownBlock → wpList P ops Q rest (a.put o.dst v') w') :
    wpList P ops Q (o :: rest) a (w0.alloc (.cells news e)) := by
  obtain ⟨hu, ⟨i, z, hi, hz, hsz, hby, hzs⟩, hp⟩ := E
  refine wpList_append_own (w0.alloc (.cells news e)) hgd s x t ho B e i z size bytes hu hi hz hsz hby hzs hp v n xs hs (hown.alloc _) ⟨w0.heap.size, 0, none⟩ 1 1 news.toList hx (by simp [hn]) ?_ (List.all_eq_true.1 h1) hm hb (by simp; omega) ?_
  · intro j u hj
    have : (⟨w0.heap.size, 0, none⟩ : Addr).add j = ⟨w0.heap.size, j, none⟩ := by unfold Addr.add; by_cases e : j = 0 <;> simp [e]
    rw [this]
    have hh : (w0.alloc (.cells news e)).heap[w0.heap.size]? = some (.cells news e (0, 0)) := heap_alloc_new w0 _
    simp only [World.cell?, hh]
    simpa using hj
  · intro v' w' h2 h3 _
    refine h v' w' h2 ?_
    have h4 := World.grownBy_alloc w0 (.cells news e) v.ownBlock
    exact ⟨h3.os.trans h4.os, h3.tape.trans h4.tape, h3.output.trans h4.output, Nat.le_trans h4.size h3.size, fun k hk hne => (h3.block k (Nat.lt_of_lt_of_le hk h4.size) hne).trans (h4.block k hk hne)⟩
section
open Go.ChangeShapes Go.WideShapes Go.Deep
variable {H : Type} {enc : TypeId × Value → H} {P : Program} {w : World}
end
end Go.Proofs.YtfocooehnmpndaaGreat
namespace Go.Proofs.YtfocooehnmpndaaGreat
open Go.RowKit
theorem own_keep {w w' : World} {B : Nat} {e : TypeId} {s : Nat} {v : Value} {n : Nat} {xs : List Value} (h : w.ownsRow B e s v n xs) (hb : Below w.heap.size w w') : w'.ownsRow B e s v n xs := by
  obtain ⟨h1, h2⟩ := h
  refine ⟨h1, ?_⟩
  rcases h2 with h2 | ⟨g, cap, cur, rfl, hg, hh, r⟩
  · exact .inl h2
  · refine .inr ⟨g, cap, cur, rfl, hg, ?_, r⟩
    rw [hb.block g (Array.getElem?_eq_some_iff.1 hh).1]; exact hh
theorem below_grown {w w' : World} {B : Nat} {row : Option Nat} (hg : w.grownBy w' row) (hB : B ≤ w.heap.size) (hr : ∀ k, row = some k → B ≤ k) : Below B w w' := (Below.refl B w).grown hg hB hr
theorem grown_below {w w' : World} (hb : Below w.heap.size w w') (row : Option Nat) : w.grownBy w' row := ⟨hb.os, hb.tape, hb.output, hb.size, fun k hk _ => hb.block k hk⟩
theorem grown_trans {a b c : World} {row : Option Nat} (h : a.grownBy b row) (k : b.grownBy c row) : a.grownBy c row :=
  ⟨k.os.trans h.os, k.tape.trans h.tape, k.output.trans h.output, Nat.le_trans h.size k.size, fun i hi hn => (k.block i (Nat.lt_of_lt_of_le hi h.size) hn).trans (h.block i hi hn)⟩
theorem below_drewN (w : World) (n : Nat) : Below w.heap.size w (w.drewN n) := ⟨rfl, rfl, rfl, Nat.le_refl _, fun _ _ => rfl⟩
theorem grown_cell (w : World) (a : Addr) (v : Value) : w.grownBy (w.setCell a v) (some a.block) := ⟨rfl, rfl, rfl, by simp [World.setCell], fun k _ hn => Below.heap_setCell _ _ _ _ (fun e => hn (by rw [e]))⟩
theorem grown_drew (w : World) (row : Option Nat) : w.grownBy w.drew row := ⟨rfl, rfl, rfl, Nat.le_refl _, fun _ _ _ => rfl⟩
theorem Sl.rest {w : World} {a : Option Addr} {n cap k : Nat} {L : List Value} (h : Sl w (.slice a n cap) L) (hk : k ≤ n) (hc : cap ≠ k) : Sl w (.slice (a.map fun x => x.add k) (n - k) (cap - k)) (L.drop k) := by
  obtain ⟨a', cap', e, hl, hcm, hn, hx⟩ := h
  cases e
  refine ⟨a.map (fun x => x.add k), cap - k, by simp, by simp; omega, by omega, fun h => ?_, fun i hi => ?_⟩
  · have := hn (by simpa using h); omega
  simp at hi
  obtain ⟨x, rfl, h1⟩ := hx (k + i) (by omega)
  exact ⟨x.add k, rfl, by rw [Deep.add_add, h1]; simp⟩
theorem Sl.start {w : World} {a : Option Addr} {n cap : Nat} {L : List Value} (h : Sl w (.slice a n cap) L) {j : Nat} (hj : j ≤ n) : Sl w (.slice a j cap) (L.take j) := by
  obtain ⟨a', cap', e, hl, hcm, hn, hx⟩ := h
  cases e
  refine ⟨a, cap, by simp [Nat.min_eq_left hj], by simp; omega, hcm, hn, fun k hk => ?_⟩
  simp at hk
  obtain ⟨x, rfl, h1⟩ := hx k (by omega)
  exact ⟨x, rfl, by rw [h1]; simp⟩
theorem own_len {w : World} {B : Nat} {e : TypeId} {s : Nat} {v : Value} {n : Nat} {xs : List Value} (h : w.ownsRow B e s v n xs) : ∃ a cap, v = .slice a n cap ∧ n ≤ cap ∧ cap ≤ maxLen := by
  rcases h.2 with ⟨rfl, rfl⟩ | ⟨g, cap, cur, rfl, _, _, h1, h2, _⟩
  · exact ⟨_, _, rfl, by simp, by simp⟩
  · exact ⟨_, _, rfl, h1, h2⟩
theorem bx_keep {w w' : World} {b : Nat} {o : Obj} (h : w.heap[b]? = some o) (hb : Below w.heap.size w w') : w'.heap[b]? = some o := by
  rw [hb.block b (Array.getElem?_eq_some_iff.1 h).1]; exact h
theorem bx_cells3 {w : World} {b : Nat} {x0 x1 x2 : Value} {T : TypeId} (h : w.heap[b]? = some (.cells #[x0, x1, x2] T (0, 0))) :
    w.cell? ⟨b, 0, none⟩ = some x0 ∧ w.cell? ⟨b, 0 + 1, none⟩ = some x1 ∧ w.cell? ⟨b, 0 + 2, none⟩ = some x2 := by
  refine ⟨?_, ?_, ?_⟩ <;> simp [World.cell?, h]
theorem bx_cells2 {w : World} {b : Nat} {x0 x1 : Value} {T : TypeId} (h : w.heap[b]? = some (.cells #[x0, x1] T (0, 0))) :
    w.cell? ⟨b, 0, none⟩ = some x0 ∧ w.cell? ⟨b, 0 + 1, none⟩ = some x1 := by
  refine ⟨?_, ?_⟩ <;> simp [World.cell?, h]
theorem bx_free2 {w : World} {b : Nat} {x0 x1 : Value} {T : TypeId} (h : w.heap[b]? = some (.cells #[x0, x1] T (0, 0))) :
    w.frozen? ⟨b, 0, none⟩ = false ∧ w.frozen? ⟨b, 0 + 1, none⟩ = false := by
  refine ⟨?_, ?_⟩ <;> simp [World.frozen?, h]
theorem bx_cells1 {w : World} {b : Nat} {x0 : Value} {T : TypeId} (h : w.heap[b]? = some (.cells #[x0] T (0, 0))) : w.cell? ⟨b, 0, none⟩ = some x0 := by
  simp [World.cell?, h]
theorem bx_free1 {w : World} {b : Nat} {x0 : Value} {T : TypeId} (h : w.heap[b]? = some (.cells #[x0] T (0, 0))) : w.frozen? ⟨b, 0, none⟩ = false := by
  simp [World.frozen?, h]
theorem bx_cells4 {w : World} {b : Nat} {x0 x1 x2 x3 : Value} {T : TypeId} (h : w.heap[b]? = some (.cells #[x0, x1, x2, x3] T (0, 0))) :
    w.cell? ⟨b, 0, none⟩ = some x0 ∧ w.cell? ⟨b, 0 + 1, none⟩ = some x1 ∧ w.cell? ⟨b, 0 + 2, none⟩ = some x2 ∧ w.cell? ⟨b, 0 + 3, none⟩ = some x3 := by
  refine ⟨?_, ?_, ?_, ?_⟩ <;> simp [World.cell?, h]
theorem bx_free4 {w : World} {b : Nat} {x0 x1 x2 x3 : Value} {T : TypeId} (h : w.heap[b]? = some (.cells #[x0, x1, x2, x3] T (0, 0))) :
    w.frozen? ⟨b, 0, none⟩ = false ∧ w.frozen? ⟨b, 0 + 1, none⟩ = false ∧ w.frozen? ⟨b, 0 + 2, none⟩ = false ∧ w.frozen? ⟨b, 0 + 3, none⟩ = false := by
  refine ⟨?_, ?_, ?_, ?_⟩ <;> simp [World.frozen?, h]
theorem bx_set {w : World} {b : Nat} {cs : Array Value} {T : TypeId} (h : w.heap[b]? = some (.cells cs T (0, 0))) (j : Nat) (v : Value) : (w.setCell ⟨b, j, none⟩ v).heap[b]? = some (.cells (cs.setIfInBounds j v) T (0, 0)) := by
  simp [World.setCell, Array.getElem?_modify, h]
theorem bx_other {w : World} {b c : Nat} {o : Obj} (h : w.heap[b]? = some o) (hne : b ≠ c) (j : Nat) (v : Value) : (w.setCell ⟨c, j, none⟩ v).heap[b]? = some o := by
  rw [Below.heap_setCell _ _ _ _ hne]; exact h
theorem bx_new (w : World) (o : Obj) (g : Nat) (hg : g = w.heap.size) : (w.alloc o).heap[g]? = some o := by subst hg; exact heap_alloc_new w o
end Go.Proofs.YtfocooehnmpndaaGreat
namespace Go.Proofs.YtfocooehnmpndaaGreat
open Go.RowKit
def ints (l : List Int) : List Value := l.map (Value.int .i64)
theorem ints_len (l : List Int) : (ints l).length = l.length := by simp [ints]
theorem ints_get (l : List Int) (i : Nat) (h : i < (ints l).length) : (ints l)[i] = .int .i64 (l[i]'(by simpa [ints] using h)) := by simp [ints]
theorem ints_append (a b : List Int) : ints (a ++ b) = ints a ++ ints b := by simp [ints]
theorem elInt : ElemT Tryz.prog 40 3 1 8 := ElemT.mk' (z := .int .i64 0) Tryz.underlying40 (by kernel_rfl) rfl (by decide)
end Go.Proofs.YtfocooehnmpndaaGreat
namespace Go.Proofs.YtfocooehnmpndaaGreat
open Go.RowKit
inductive D where
  | int (n : Int)
  | bool (b : Bool)
  | str (s : ByteArray)
  | sl (l : List D)
  | agg (l : List D)
mutual
def Rd (S : Nat → Prop) (w : World) : D → List Value → Prop
  | .int n, cs => cs = [.int .i64 n]
  | .bool b, cs => cs = [.bool b]
  | .str s, cs => cs = [.string s]
  | .sl ds, cs => ∃ a cap L, cs = [.slice a ds.length cap] ∧ ds.length ≤ cap ∧ cap ≤ maxLen ∧ (a = none → cap = 0) ∧ (∀ i (h : i < L.length), ∃ x, a = some x ∧ S x.block ∧ w.cell? (x.add i) = some L[i]) ∧ RdAll S w ds L
  | .agg ds, cs => RdAll S w ds cs
def RdAll (S : Nat → Prop) (w : World) : List D → List Value → Prop
  | [], cs => cs = []
  | d :: ds, cs => ∃ c1 c2, cs = c1 ++ c2 ∧ Rd S w d c1 ∧ RdAll S w ds c2
end
mutual
def D.cells : D → Nat
  | .int _ => 1
  | .bool _ => 1
  | .str _ => 1
  | .sl _ => 1
  | .agg l => D.cellsAll l
def D.cellsAll : List D → Nat
  | [] => 0
  | d :: l => D.cells d + D.cellsAll l
end
def AnyB : Nat → Prop := fun _ => True
mutual
theorem Rd.len {S : Nat → Prop} {w : World} : ∀ (d : D) (cs : List Value), Rd S w d cs → cs.length = d.cells
  | .int n, cs, h => by simp [Rd] at h; simp [h, D.cells]
  | .bool n, cs, h => by simp [Rd] at h; simp [h, D.cells]
  | .str n, cs, h => by simp [Rd] at h; simp [h, D.cells]
  | .sl ds, cs, h => by obtain ⟨a, cap, L, rfl, _⟩ := h; simp [D.cells]
  | .agg ds, cs, h => by rw [D.cells]; exact RdAll.len ds cs h
theorem RdAll.len {S : Nat → Prop} {w : World} : ∀ (ds : List D) (cs : List Value), RdAll S w ds cs → cs.length = D.cellsAll ds
  | [], cs, h => by simp [RdAll] at h; simp [h, D.cellsAll]
  | d :: ds, cs, h => by
    obtain ⟨c1, c2, rfl, h1, h2⟩ := h
    simp [D.cellsAll, Rd.len d c1 h1, RdAll.len ds c2 h2]
end
mutual
theorem Rd.keep {S S' : Nat → Prop} {w w' : World} (hS : ∀ k, S k → k < w.heap.size → S' k ∧ w'.heap[k]? = w.heap[k]?) : ∀ (d : D) (cs : List Value), Rd S w d cs → Rd S' w' d cs
  | .int n, cs, h => h
  | .bool n, cs, h => h
  | .str n, cs, h => h
  | .sl ds, cs, h => by
    obtain ⟨a, cap, L, rfl, h1, h2, h3, h4, h5⟩ := h
    refine ⟨a, cap, L, rfl, h1, h2, h3, fun i hi => ?_, RdAll.keep hS ds L h5⟩
    obtain ⟨x, rfl, hx, hc⟩ := h4 i hi
    have hlt := lt_of_cell hc
    rw [add_block] at hlt
    obtain ⟨k1, k2⟩ := hS _ hx hlt
    refine ⟨x, rfl, k1, ?_⟩
    rw [← hc]
    exact World.cell?_of_block (w := w) (by rw [add_block]; exact k2)
  | .agg ds, cs, h => RdAll.keep hS ds cs h
theorem RdAll.keep {S S' : Nat → Prop} {w w' : World} (hS : ∀ k, S k → k < w.heap.size → S' k ∧ w'.heap[k]? = w.heap[k]?) : ∀ (ds : List D) (cs : List Value), RdAll S w ds cs → RdAll S' w' ds cs
  | [], cs, h => h
  | d :: ds, cs, h => by
    obtain ⟨c1, c2, rfl, h1, h2⟩ := h
    exact ⟨c1, c2, rfl, Rd.keep hS d c1 h1, RdAll.keep hS ds c2 h2⟩
end
theorem Rd.below {S : Nat → Prop} {w w' : World} {d : D} {cs : List Value} (h : Rd S w d cs) (hb : Below w.heap.size w w') : Rd S w' d cs :=
  Rd.keep (fun k hk hlt => ⟨hk, hb.block k hlt⟩) d cs h
theorem RdAll.below {S : Nat → Prop} {w w' : World} {d : List D} {cs : List Value} (h : RdAll S w d cs) (hb : Below w.heap.size w w') : RdAll S w' d cs :=
  RdAll.keep (fun k hk hlt => ⟨hk, hb.block k hlt⟩) d cs h
theorem Rd.mono {S S' : Nat → Prop} {w : World} {d : D} {cs : List Value} (h : Rd S w d cs) (hs : ∀ k, S k → k < w.heap.size → S' k) : Rd S' w d cs :=
  Rd.keep (fun k hk hlt => ⟨hs k hk hlt, rfl⟩) d cs h
theorem RdAll.mono {S S' : Nat → Prop} {w : World} {d : List D} {cs : List Value} (h : RdAll S w d cs) (hs : ∀ k, S k → k < w.heap.size → S' k) : RdAll S' w d cs :=
  RdAll.keep (fun k hk hlt => ⟨hs k hk hlt, rfl⟩) d cs h
theorem Rd.any {S : Nat → Prop} {w : World} {d : D} {cs : List Value} (h : Rd S w d cs) : Rd AnyB w d cs := h.mono fun _ _ _ => trivial
theorem RdAll.any {S : Nat → Prop} {w : World} {d : List D} {cs : List Value} (h : RdAll S w d cs) : RdAll AnyB w d cs := h.mono fun _ _ _ => trivial
theorem RdAll.append {S : Nat → Prop} {w : World} : ∀ {ds es : List D} {c1 c2 : List Value}, RdAll S w ds c1 → RdAll S w es c2 → RdAll S w (ds ++ es) (c1 ++ c2)
  | [], es, c1, c2, h, k => by simp [RdAll] at h; subst h; simpa using k
  | d :: ds, es, c1, c2, h, k => by
    obtain ⟨a, b, rfl, h1, h2⟩ := h
    exact ⟨a, b ++ c2, by simp, h1, RdAll.append h2 k⟩
theorem RdAll.split {S : Nat → Prop} {w : World} : ∀ {ds es : List D} {c : List Value}, RdAll S w (ds ++ es) c → ∃ c1 c2, c = c1 ++ c2 ∧ RdAll S w ds c1 ∧ RdAll S w es c2
  | [], es, c, h => ⟨[], c, rfl, by simp [RdAll], h⟩
  | d :: ds, es, c, h => by
    obtain ⟨a, b, rfl, h1, h2⟩ := h
    obtain ⟨c1, c2, rfl, h3, h4⟩ := RdAll.split h2
    exact ⟨a ++ c1, c2, by simp, ⟨a, c1, rfl, h1, h3⟩, h4⟩
theorem RdAll.one {S : Nat → Prop} {w : World} {d : D} {c : List Value} (h : Rd S w d c) : RdAll S w [d] c := ⟨c, [], by simp, h, by simp [RdAll]⟩
theorem RdAll.one_iff {S : Nat → Prop} {w : World} {d : D} {c : List Value} : RdAll S w [d] c ↔ Rd S w d c := by
  constructor
  · rintro ⟨c1, c2, rfl, h, h2⟩
    simp [RdAll] at h2
    subst h2
    simpa using h
  · exact RdAll.one
theorem cellsAll_eq {k : Nat} : ∀ {ds : List D}, (∀ d ∈ ds, d.cells = k) → D.cellsAll ds = ds.length * k
  | [], _ => by simp [D.cellsAll]
  | d :: ds, h => by
    rw [D.cellsAll, h d List.mem_cons_self, cellsAll_eq fun x hx => h x (List.mem_cons_of_mem _ hx)]
    simp [Nat.add_mul]; omega
theorem RdAll.get {S : Nat → Prop} {w : World} {k : Nat} : ∀ {ds : List D} {L : List Value}, RdAll S w ds L → (∀ d ∈ ds, d.cells = k) → ∀ i (hi : i < ds.length), Rd S w ds[i] ((L.drop (i * k)).take k)
  | [], L, h, hk, i, hi => by simp at hi
  | d :: ds, L, h, hk, i, hi => by
    obtain ⟨c1, c2, rfl, h1, h2⟩ := h
    have hl : c1.length = k := by rw [Rd.len d c1 h1]; exact hk d List.mem_cons_self
    cases i with
    | zero => simpa [List.take_left' hl] using h1
    | succ i =>
      have := RdAll.get h2 (fun x hx => hk x (List.mem_cons_of_mem _ hx)) i (by simpa using hi)
      rw [show (i + 1) * k = c1.length + i * k by rw [hl, Nat.add_mul]; omega]
      have e : (c1 ++ c2).drop (c1.length + i * k) = c2.drop (i * k) := by rw [← List.drop_drop]; simp
      rw [e]
      simpa using this
theorem add_at (b off n : Nat) : (⟨b, off, none⟩ : Addr).add n = ⟨b, off + n, none⟩ := by unfold Addr.add; by_cases e : n = 0 <;> simp [e]
theorem Rd.form {S : Nat → Prop} {w : World} {ds : List D} {v : Value} (h : Rd S w (.sl ds) [v]) : ∃ a cap, v = .slice a ds.length cap ∧ ds.length ≤ cap ∧ cap ≤ maxLen := by
  obtain ⟨a, cap, L, e, h1, h2, _⟩ := h
  simp at e
  exact ⟨a, cap, e, h1, h2⟩
theorem Rd.bounds {S : Nat → Prop} {w : World} {ds : List D} {a : Option Addr} {n cap : Nat} (h : Rd S w (.sl ds) [.slice a n cap]) : n = ds.length ∧ n ≤ cap ∧ cap ≤ maxLen := by
  obtain ⟨a, cap, e, h1, h2⟩ := h.form
  cases e
  exact ⟨rfl, h1, h2⟩
theorem Rd.at {S : Nat → Prop} {w : World} {ds : List D} {a : Option Addr} {n cap k : Nat} (h : Rd S w (.sl ds) [.slice a n cap]) (hk : ∀ d ∈ ds, d.cells = k) (hp : 0 < k) {i : Nat} (hi : i < ds.length) :
    ∃ b off cs, a = some ⟨b, off, none⟩ ∧ S b ∧ b < w.heap.size ∧ Rd S w ds[i] cs ∧ cs.length = k ∧ ∀ j (h : j < cs.length), w.cell? ⟨b, off + (i * k + j), none⟩ = some cs[j] := by
  obtain ⟨a', cap', L, e, h1, h2, h3, h4, h5⟩ := h
  simp at e
  obtain ⟨rfl, rfl, rfl⟩ := e
  have hL : L.length = ds.length * k := by rw [RdAll.len ds L h5, cellsAll_eq hk]
  have hpos : 0 < L.length := by rw [hL]; exact Nat.mul_pos (by omega) hp
  obtain ⟨⟨b, off, spot⟩, rfl, hS, hc⟩ := h4 0 hpos
  have hs : spot = none := by simpa [Addr.add] using World.cell?_spot hc
  subst hs
  have hlt := lt_of_cell hc
  rw [add_block] at hlt
  have hik : (i + 1) * k ≤ ds.length * k := Nat.mul_le_mul_right _ hi
  rw [Nat.add_mul, Nat.one_mul] at hik
  refine ⟨b, off, (L.drop (i * k)).take k, rfl, hS, hlt, RdAll.get h5 hk i hi, by simp; omega, fun j hj => ?_⟩
  simp at hj
  obtain ⟨y, hy, _, h6⟩ := h4 (i * k + j) (by omega)
  cases hy
  rw [add_at] at h6
  rw [h6]
  simp
theorem rd_of_own {S : Nat → Prop} {w : World} {B : Nat} {e : TypeId} {size : Nat} {v : Value} {n : Nat} {xs : List Value} {ds : List D} (h : w.ownsRow B e size v n xs) (hd : RdAll S w ds xs) (hn : ds.length = n) (hS : ∀ k, v.ownBlock = some k → S k) : Rd S w (.sl ds) [v] := by
  have hcell := fun {g : Nat} (hg : v.ownBlock = some g) => h.cells hg
  obtain ⟨hl, h⟩ := h
  subst hn
  rcases h with ⟨rfl, h0⟩ | ⟨g, cap, cur, rfl, hg, hh, hn, hc, hs, ht⟩
  · have : xs = [] := List.eq_nil_of_length_eq_zero (by rw [hl, h0]; simp)
    subst this
    exact ⟨none, 0, [], by rw [h0], by omega, by simp [maxLen], fun _ => rfl, fun i hi => by simp at hi, hd⟩
  · refine ⟨_, cap, xs, rfl, hn, hc, (fun h => by cases h), fun i hi => ⟨_, rfl, hS g rfl, ?_⟩, hd⟩
    exact hcell rfl i _ (List.getElem?_eq_getElem hi)
theorem own_step {S : Nat → Prop} {w w3 : World} {v v' : Value} {ds es : List D} {xs news : List Value}
    (h1 : RdAll (fun k => S k ∧ v.ownBlock ≠ some k) w ds xs) (h2 : RdAll (fun k => S k ∧ v.ownBlock ≠ some k) w es news)
    (hg : w.grownBy w3 v.ownBlock) (hat : v'.ownBlock = v.ownBlock ∨ ∃ k, v'.ownBlock = some k ∧ w.heap.size ≤ k) : RdAll (fun k => S k ∧ v'.ownBlock ≠ some k) w3 (ds ++ es) (xs ++ news) := by
  have hS : ∀ k, (S k ∧ v.ownBlock ≠ some k) → k < w.heap.size → (S k ∧ v'.ownBlock ≠ some k) ∧ w3.heap[k]? = w.heap[k]? := by
    intro k hk hlt
    refine ⟨⟨hk.1, ?_⟩, hg.block k hlt (fun e => hk.2 e.symm)⟩
    rcases hat with e | ⟨j, e, hj⟩
    · rw [e]; exact hk.2
    · rw [e]; intro h; cases h; omega
  exact RdAll.append (RdAll.keep hS ds xs h1) (RdAll.keep hS es news h2)
theorem wp_app1at {P : Program} {ops : Array Oper} {rest : List Oper} {o : Oper} {a : Act} {Q : Exit → Act → World → Prop} {w0 : World} {t e : TypeId} {size bytes : Nat} (E : ElemT P t e size bytes)
    (hgd : o.guard = none) (s x : Operand) (ho : o.op = .call { callee := .builtin .append, args := #[s, x], argTypes := #[t, t] })
    {B : Nat} {v : Value} {n : Nat} {xs : List Value} {news : Array Value} (hown : w0.ownsRow B e size v n xs) (hs : a.eval s = v) {g0 : Nat} (hx : a.eval x = .slice (some ⟨g0, 0, none⟩) 1 1) (hg0 : g0 = w0.heap.size)
    (hn : news.size = size) (h1 : news.toList.all Value.oneCell' = true) (hb : (n + 1) * bytes ≤ 140737488355328) (hm : n + 1 ≤ maxLen) (hB : B ≤ w0.heap.size)
    (h : ∀ v' w', w'.ownsRow B e size v' (n + 1) (xs ++ news.toList) → w0.grownBy w' v.ownBlock → (v'.ownBlock = v.ownBlock ∨ ∃ k, v'.ownBlock = some k ∧ w0.heap.size ≤ k) → wpList P ops Q rest (a.put o.dst v') w') :
    wpList P ops Q (o :: rest) a (w0.alloc (.cells news e)) := by
  subst hg0
  obtain ⟨hu, ⟨i, z, hi, hz, hsz, hby, hzs⟩, hp⟩ := E
  refine wpList_append_own_at (w0.alloc (.cells news e)) hgd s x t ho B e i z size bytes hu hi hz hsz hby hzs hp v n xs hs (hown.alloc _) ⟨w0.heap.size, 0, none⟩ 1 1 news.toList hx (by simp [hn]) ?_ (List.all_eq_true.1 h1) hm hb (by simp; omega) ?_
  · intro j u hj
    have : (⟨w0.heap.size, 0, none⟩ : Addr).add j = ⟨w0.heap.size, j, none⟩ := by unfold Addr.add; by_cases e : j = 0 <;> simp [e]
    rw [this]
    have hh : (w0.alloc (.cells news e)).heap[w0.heap.size]? = some (.cells news e (0, 0)) := heap_alloc_new w0 _
    simp only [World.cell?, hh]
    simpa using hj
  · intro v' w' h2 h3 _ h5
    refine h v' w' h2 ?_ ?_
    · have h4 := World.grownBy_alloc w0 (.cells news e) v.ownBlock
      exact ⟨h3.os.trans h4.os, h3.tape.trans h4.tape, h3.output.trans h4.output, Nat.le_trans h4.size h3.size, fun k hk hne => (h3.block k (Nat.lt_of_lt_of_le hk h4.size) hne).trans (h4.block k hk hne)⟩
    · rcases h5 with h5 | h5
      · exact .inl h5
      · exact .inr ⟨_, h5, by simp⟩
theorem step_app1 {P : Program} {ops : Array Oper} {o : Oper} {a : Act} {K : Act → World → Prop} {Q : Exit → Act → World → Prop} {E' : Prop} {w0 : World} {t e : TypeId} {size bytes : Nat} (E : ElemT P t e size bytes)
    (hgd : o.guard = none) (s x : Operand) (ho : o.op = .call { callee := .builtin .append, args := #[s, x], argTypes := #[t, t] })
    {B : Nat} {v : Value} {n : Nat} {xs : List Value} {news : Array Value} (hown : w0.ownsRow B e size v n xs) (hs : a.eval s = v) {g0 : Nat} (hx : a.eval x = .slice (some ⟨g0, 0, none⟩) 1 1) (hg0 : g0 = w0.heap.size)
    (hn : news.size = size) (h1 : news.toList.all Value.oneCell' = true) (hb : (n + 1) * bytes ≤ 140737488355328) (hm : n + 1 ≤ maxLen) (hB : B ≤ w0.heap.size)
    (h : ∀ g cap w', w'.ownsRow B e size (.slice (some ⟨g, 0, none⟩) (n + 1) cap) (n + 1) (xs ++ news.toList) → w0.grownBy w' v.ownBlock → (v.ownBlock = some g ∨ w0.heap.size ≤ g) → g < w'.heap.size → K (a.put o.dst (.slice (some ⟨g, 0, none⟩) (n + 1) cap)) w') :
    if Region.wanted o (yielded ops a.tmps) = true then Oper.wp P o a (w0.alloc (.cells news e)) K Q else E' := by
  subst hg0
  obtain ⟨hu, ⟨i, z, hi, hz, hsz, hby, hzs⟩, hp⟩ := E
  refine step_append_lies (w0.alloc (.cells news e)) hgd s x t ho B e i z size bytes hu hi hz hsz hby hzs hp v n xs hs (hown.alloc _) ⟨w0.heap.size, 0, none⟩ 1 1 news.toList hx (by simp [hn]) ?_ (List.all_eq_true.1 h1) (by omega) hm hb (by simp; omega) (w0.heap.size + 1) (by simp) ?_
  · exact World.news_of_block (heap_alloc_new w0 _)
  · intro g cap w' h2 h3 h5 h6
    refine h g cap w' h2 ?_ ?_ h6
    · have h4 := World.grownBy_alloc w0 (.cells news e) v.ownBlock
      exact ⟨h3.os.trans h4.os, h3.tape.trans h4.tape, h3.output.trans h4.output, Nat.le_trans h4.size h3.size, fun k hk hne => (h3.block k (Nat.lt_of_lt_of_le hk h4.size) hne).trans (h4.block k hk hne)⟩
    · rcases h5 with h5 | h5
      · exact .inl h5
      · exact .inr (by omega)
theorem rdAll_ints {S : Nat → Prop} {w : World} : ∀ (l : List Int) (cs : List Value), RdAll S w (l.map .int) cs ↔ cs = ints l
  | [], cs => by simp [RdAll, ints]
  | x :: l, cs => by
    simp only [List.map_cons, RdAll, Rd]
    constructor
    · rintro ⟨c1, c2, rfl, rfl, h⟩
      rw [rdAll_ints] at h
      simp [h, ints]
    · rintro rfl
      exact ⟨[.int .i64 x], ints l, by simp [ints], rfl, (rdAll_ints l _).2 rfl⟩
def D.ints (l : List Int) : D := .sl (l.map .int)
theorem sl_rd {S : Nat → Prop} {w : World} {v : Value} {l : List Int} (h : Rd S w (D.ints l) [v]) : Sl w v (ints l) := by
  obtain ⟨a, cap, L, e, h1, h2, h3, h4, h5⟩ := h
  rw [rdAll_ints] at h5
  subst h5
  simp at e h1
  subst e
  refine ⟨a, cap, by simp [ints], by simpa [ints] using h1, h2, h3, fun i hi => ?_⟩
  obtain ⟨x, e, _, h5⟩ := h4 i hi
  exact ⟨x, e, h5⟩
end Go.Proofs.YtfocooehnmpndaaGreat
namespace Go.Proofs.YtfocooehnmpndaaGreat
open Go.RowKit
inductive Tree where
  | node (rule term : Int) (kids : List Tree)
def Tree.rule : Tree → Int | .node r _ _ => r
def Tree.term : Tree → Int | .node _ t _ => t
def Tree.kids : Tree → List Tree | .node _ _ k => k
def kidsOf (t : Tree) : List Tree := if t.rule = -1 then [] else t.kids
mutual
def Tree.d : Tree → D
  | .node r t ks => .agg [.int r, .int t, .sl (Tree.dL ks)]
def Tree.dL : List Tree → List D
  | [] => []
  | k :: ks => Tree.d k :: Tree.dL ks
end
theorem dL_map : ∀ ks : List Tree, Tree.dL ks = ks.map Tree.d
  | [] => rfl
  | k :: ks => by simp [Tree.dL, dL_map ks]
theorem Tree.d_eq (t : Tree) : t.d = .agg [.int t.rule, .int t.term, .sl (t.kids.map Tree.d)] := by
  cases t; simp [Tree.d, dL_map, Tree.rule, Tree.term, Tree.kids]
theorem Tree.d_cells (t : Tree) : t.d.cells = 3 := by rw [Tree.d_eq]; simp [D.cells, D.cellsAll]
theorem trees_cells (ts : List Tree) : ∀ d ∈ ts.map Tree.d, d.cells = 3 := by
  intro d hd
  simp at hd
  obtain ⟨t, _, rfl⟩ := hd
  exact t.d_cells
mutual
def nodes : Tree → List Tree
  | .node r t ks => .node r t ks :: (if r = -1 then [] else nodesL ks)
def nodesL : List Tree → List Tree
  | [] => []
  | k :: ks => nodes k ++ nodesL ks
end
theorem nodes_eq (t : Tree) : nodes t = t :: nodesL (kidsOf t) := by
  cases t with
  | node r t ks =>
    rw [nodes]
    by_cases h : r = -1 <;> simp [kidsOf, Tree.rule, Tree.kids, h, nodesL]
theorem nodesL_append : ∀ (a b : List Tree), nodesL (a ++ b) = nodesL a ++ nodesL b
  | [], b => by simp [nodesL]
  | x :: a, b => by simp [nodesL, nodesL_append a b]
theorem nodesL_take {ks : List Tree} {i : Nat} (h : i < ks.length) : nodesL (ks.take (i + 1)) = nodesL (ks.take i) ++ nodes ks[i] := by
  rw [List.take_succ_eq_append_getElem h, nodesL_append]; simp [nodesL]
theorem nodes_pos (t : Tree) : 0 < (nodes t).length := by rw [nodes_eq]; simp
theorem nodesL_take_le (ks : List Tree) (i : Nat) : (nodesL (ks.take i)).length ≤ (nodesL ks).length := by
  conv => rhs; rw [← List.take_append_drop i ks, nodesL_append]
  simp
theorem nodesL_kid {ks : List Tree} {i : Nat} (h : i < ks.length) : (nodesL (ks.take i)).length + (nodes ks[i]).length ≤ (nodesL ks).length := by
  have := nodesL_take_le ks (i + 1)
  rw [nodesL_take h] at this
  simpa using this
theorem nodesL_split {ks : List Tree} {i : Nat} (h : i < ks.length) : nodesL ks = nodesL (ks.take i) ++ (nodes ks[i] ++ nodesL (ks.drop (i + 1))) := by
  conv => lhs; rw [← List.take_append_drop i ks, nodesL_append, List.drop_eq_getElem_cons h, nodesL]
def upTo (p : Tree → Bool) : List Tree → List Tree
  | [] => []
  | x :: l => if p x then x :: upTo p l else [x]
theorem upTo_all {p : Tree → Bool} : ∀ {l : List Tree}, l.all p = true → upTo p l = l
  | [], _ => rfl
  | x :: l, h => by
    simp at h
    rw [upTo, if_pos h.1, upTo_all (by simpa using h.2)]
theorem upTo_append {p : Tree → Bool} : ∀ {l m : List Tree}, l.all p = true → upTo p (l ++ m) = l ++ upTo p m
  | [], _, _ => rfl
  | x :: l, m, h => by
    simp at h
    rw [List.cons_append, upTo, if_pos h.1, upTo_append (by simpa using h.2), List.cons_append]
theorem upTo_stop {p : Tree → Bool} : ∀ {l m : List Tree}, l.all p = false → upTo p (l ++ m) = upTo p l
  | [], _, h => by simp at h
  | x :: l, m, h => by
    rw [List.cons_append, upTo, upTo]
    by_cases hx : p x = true
    · rw [if_pos hx, if_pos hx, upTo_stop (by simpa [hx] using h)]
    · rw [if_neg hx, if_neg hx]
structure Keeps (S : Nat → Prop) (w w' : World) : Prop where
  os : w'.os = w.os
  tape : w'.tape = w.tape
  output : w'.output = w.output
  size : w.heap.size ≤ w'.heap.size
  block : ∀ k, k < w.heap.size → ¬ S k → w'.heap[k]? = w.heap[k]?
theorem Keeps.below {S : Nat → Prop} {w w' : World} {B : Nat} (h : Keeps S w w') (hS : ∀ k, S k → B ≤ k) (hB : B ≤ w.heap.size) : Below B w w' :=
  ⟨h.os, h.tape, h.output, h.size, fun k hk => h.block k (by omega) (fun hs => by have := hS k hs; omega)⟩
theorem Below.keeps {S : Nat → Prop} {w w' : World} (h : Below w.heap.size w w') : Keeps S w w' := ⟨h.os, h.tape, h.output, h.size, fun k hk _ => h.block k hk⟩
theorem Keeps.trans {S S' : Nat → Prop} {a b c : World} (h : Keeps S a b) (k : Keeps S' b c) (hs : ∀ k, S' k → S k ∨ a.heap.size ≤ k) : Keeps S a c :=
  ⟨k.os.trans h.os, k.tape.trans h.tape, k.output.trans h.output, Nat.le_trans h.size k.size, fun i hi hn => (k.block i (Nat.lt_of_lt_of_le hi h.size) (fun e => (hs i e).elim (fun e => hn e) (fun e => by omega))).trans (h.block i hi hn)⟩
theorem Keeps.cells {S : Nat → Prop} {w w' : World} (h : Keeps S w w') {b : Nat} {o : Obj} (hb : w.heap[b]? = some o) (hS : ¬ S b) : w'.heap[b]? = some o := by
  rw [h.block b (Array.getElem?_eq_some_iff.1 hb).1 hS]; exact hb
theorem Rd.tree {S : Nat → Prop} {w : World} {t : Tree} {cs : List Value} (h : Rd S w t.d cs) : ∃ v, cs = [.int .i64 t.rule, .int .i64 t.term, v] ∧ Rd S w (.sl (t.kids.map Tree.d)) [v] := by
  rw [Tree.d_eq] at h
  obtain ⟨c1, c2, rfl, h1, c3, c4, rfl, h2, h3⟩ := h
  rw [RdAll.one_iff] at h3
  simp [Rd] at h1 h2
  subst h1 h2
  have h4 := h3
  obtain ⟨a, cap, L, e, _⟩ := h3
  subst e
  exact ⟨_, rfl, h4⟩
theorem rd_tree {S : Nat → Prop} {w : World} {t : Tree} {v : Value} (h : Rd S w (.sl (t.kids.map Tree.d)) [v]) : Rd S w t.d [.int .i64 t.rule, .int .i64 t.term, v] := by
  rw [Tree.d_eq]
  exact ⟨[.int .i64 t.rule], [.int .i64 t.term, v], rfl, rfl, [.int .i64 t.term], [v], rfl, rfl, RdAll.one h⟩
theorem Rd.kid {S : Nat → Prop} {w : World} {ks : List Tree} {a : Option Addr} {n cap i : Nat} (h : Rd S w (.sl (ks.map Tree.d)) [.slice a n cap]) (hi : i < ks.length) :
    ∃ b off v, a = some ⟨b, off, none⟩ ∧ S b ∧ b < w.heap.size ∧ w.cell? ⟨b, off + i * 3, none⟩ = some (.int .i64 ks[i].rule) ∧ w.cell? ⟨b, off + i * 3 + 1, none⟩ = some (.int .i64 ks[i].term) ∧ w.cell? ⟨b, off + i * 3 + 2, none⟩ = some v ∧ Rd S w (.sl (ks[i].kids.map Tree.d)) [v] := by
  obtain ⟨b, off, cs, ha, hS, hlt, hr, hl, hc⟩ := h.at (trees_cells ks) (by decide) (i := i) (by simpa using hi)
  simp at hr
  obtain ⟨v, rfl, hk⟩ := hr.tree
  exact ⟨b, off, v, ha, hS, hlt, by simpa using hc 0 (by simp), by simpa [Nat.add_assoc] using hc 1 (by simp), by simpa [Nat.add_assoc] using hc 2 (by simp), hk⟩
end Go.Proofs.YtfocooehnmpndaaGreat
namespace Go.Proofs.YtfocooehnmpndaaGreat
open Go.RowKit
structure Sym where
  term : Bool
  n : Int
  deriving DecidableEq
structure Rule where
  left : Int
  right : List Sym
  deriving DecidableEq
def Sym.d (s : Sym) : D := .agg [.bool s.term, .int s.n]
def Rule.d (r : Rule) : D := .agg [.int r.left, .sl (r.right.map Sym.d)]
theorem syms_cells (l : List Sym) : ∀ d ∈ l.map Sym.d, d.cells = 2 := by
  intro d hd
  simp at hd
  obtain ⟨t, _, rfl⟩ := hd
  simp [Sym.d, D.cells, D.cellsAll]
theorem rules_cells (l : List Rule) : ∀ d ∈ l.map Rule.d, d.cells = 2 := by
  intro d hd
  simp at hd
  obtain ⟨t, _, rfl⟩ := hd
  simp [Rule.d, D.cells, D.cellsAll]
theorem Rd.sym {S : Nat → Prop} {w : World} {s : Sym} {cs : List Value} (h : Rd S w s.d cs) : cs = [.bool s.term, .int .i64 s.n] := by
  obtain ⟨c1, c2, rfl, h1, h2⟩ := h
  rw [RdAll.one_iff] at h2
  simp [Rd] at h1 h2
  subst h1 h2
  rfl
theorem rd_sym {S : Nat → Prop} {w : World} (s : Sym) : Rd S w s.d [.bool s.term, .int .i64 s.n] := ⟨[.bool s.term], [.int .i64 s.n], rfl, rfl, RdAll.one rfl⟩
theorem Rd.rule {S : Nat → Prop} {w : World} {r : Rule} {cs : List Value} (h : Rd S w r.d cs) : ∃ v, cs = [.int .i64 r.left, v] ∧ Rd S w (.sl (r.right.map Sym.d)) [v] := by
  obtain ⟨c1, c2, rfl, h1, h2⟩ := h
  rw [RdAll.one_iff] at h2
  simp [Rd] at h1
  subst h1
  have h4 := h2
  obtain ⟨a, cap, L, e, _⟩ := h2
  subst e
  exact ⟨_, rfl, h4⟩
theorem rd_rule {S : Nat → Prop} {w : World} {r : Rule} {v : Value} (h : Rd S w (.sl (r.right.map Sym.d)) [v]) : Rd S w r.d [.int .i64 r.left, v] := ⟨[.int .i64 r.left], [v], rfl, rfl, RdAll.one h⟩
theorem Rd.sym_at {S : Nat → Prop} {w : World} {l : List Sym} {a : Option Addr} {n cap i : Nat} (h : Rd S w (.sl (l.map Sym.d)) [.slice a n cap]) (hi : i < l.length) :
    ∃ b off, a = some ⟨b, off, none⟩ ∧ S b ∧ b < w.heap.size ∧ w.cell? ⟨b, off + i * 2, none⟩ = some (.bool l[i].term) ∧ w.cell? ⟨b, off + i * 2 + 1, none⟩ = some (.int .i64 l[i].n) := by
  obtain ⟨b, off, cs, ha, hS, hlt, hr, hl, hc⟩ := h.at (syms_cells l) (by decide) (i := i) (by simpa using hi)
  simp at hr
  obtain rfl := hr.sym
  exact ⟨b, off, ha, hS, hlt, by simpa using hc 0 (by simp), by simpa [Nat.add_assoc] using hc 1 (by simp)⟩
theorem Rd.rule_at {S : Nat → Prop} {w : World} {l : List Rule} {a : Option Addr} {n cap i : Nat} (h : Rd S w (.sl (l.map Rule.d)) [.slice a n cap]) (hi : i < l.length) :
    ∃ b off v, a = some ⟨b, off, none⟩ ∧ S b ∧ b < w.heap.size ∧ w.cell? ⟨b, off + i * 2, none⟩ = some (.int .i64 l[i].left) ∧ w.cell? ⟨b, off + i * 2 + 1, none⟩ = some v ∧ Rd S w (.sl (l[i].right.map Sym.d)) [v] := by
  obtain ⟨b, off, cs, ha, hS, hlt, hr, hl, hc⟩ := h.at (rules_cells l) (by decide) (i := i) (by simpa using hi)
  simp at hr
  obtain ⟨v, rfl, hk⟩ := hr.rule
  exact ⟨b, off, v, ha, hS, hlt, by simpa using hc 0 (by simp), by simpa [Nat.add_assoc] using hc 1 (by simp), hk⟩
theorem elSym : ElemT Tryz.prog 79 78 2 16 := ElemT.mk' (z := .agg #[.bool false, .int .i64 0]) Tryz.underlying79 (by kernel_rfl) rfl (by decide)
theorem elRule : ElemT Tryz.prog 22 81 2 32 := ElemT.mk' (z := .agg #[.int .i64 0, .slice none 0 0]) Tryz.underlying22 (by kernel_rfl) rfl (by decide)
end Go.Proofs.YtfocooehnmpndaaGreat
namespace Go.Proofs.YtfocooehnmpndaaGreat
open Go.RowKit
end Go.Proofs.YtfocooehnmpndaaGreat
namespace Go.Proofs.YtfocooehnmpndaaGreat
open Go.RowKit
theorem sl_lit {w : World} {v : Array Value} {e : TypeId} {g : Nat} (hg : g = w.heap.size) (h : v.size ≤ maxLen) : Sl (w.alloc (.cells v e)) (.slice (some ⟨g, 0, none⟩) v.size v.size) v.toList := by
  subst hg
  refine ⟨some ⟨w.heap.size, 0, none⟩, v.size, by simp, by simp, h, (fun h => by cases h), fun i hi => ⟨_, rfl, ?_⟩⟩
  have : (⟨w.heap.size, 0, none⟩ : Addr).add i = ⟨w.heap.size, i, none⟩ := by unfold Addr.add; by_cases e : i = 0 <;> simp [e]
  rw [this]
  have hh : (w.alloc (.cells v e)).heap[w.heap.size]? = some (.cells v e (0, 0)) := heap_alloc_new w _
  simp only [World.cell?, hh]
  simp at hi ⊢
end Go.Proofs.YtfocooehnmpndaaGreat
namespace Go.Proofs.YtfocooehnmpndaaGreat
open Go.RowKit
def cmp3 (a b : Int) : Int := if a < b then -1 else if b < a then 1 else 0
def orL : List Int → Int
  | [] => 0
  | x :: l => if x = 0 then orL l else x
set_option maxHeartbeats 400000 in
theorem isNaN (x : Int) (w : World) : Calls Tryz.prog 122 #[.int .i64 x] w fun e w' => e = .returned (.bool false) ∧ w = w' := by
  have h : (x != x) = false := by simp
  go_enter Tryz.func122, Tryz.ntmps122
  go_wp2
  go_ret
  exact ⟨rfl, rfl⟩
set_option maxHeartbeats 400000 in
theorem compareInt (x y : Int) (w : World) : Calls Tryz.prog 102 #[.int .i64 x, .int .i64 y] w fun e w' => e = .returned (.int .i64 (cmp3 x y)) ∧ w = w' := by
  obtain ⟨c, HC⟩ := nameIt (cmp3 x y)
  have hc : (x < y ∧ c = -1) ∨ (¬ x < y ∧ y < x ∧ c = 1) ∨ (¬ x < y ∧ ¬ y < x ∧ c = 0) := by
    have := HC.out
    unfold cmp3 at this
    split at this
    · exact .inl ⟨by assumption, this.symm⟩
    · split at this
      · exact .inr (.inl ⟨by assumption, by assumption, this.symm⟩)
      · exact .inr (.inr ⟨by assumption, by assumption, this.symm⟩)
  rw [HC.out]
  rcases hc with ⟨h1, rfl⟩ | ⟨h1, h2, rfl⟩ | ⟨h1, h2, rfl⟩
  all_goals
    go_enter Tryz.func102, Tryz.ntmps102
    go_wp2_with (go_at_call 122; (with_reducible refine (isNaN _ _).mono ?_); rintro e w' ⟨rfl, rfl⟩)
    go_ret
    exact ⟨rfl, rfl⟩
set_option maxHeartbeats 1000000 in
theorem orInt (v : Value) (l : List Int) (w : World) (hl : Sl w v (ints l)) :
    Calls Tryz.prog 101 #[v] w fun e w' => e = .returned (.int .i64 (orL l)) ∧ w = w' := by
  obtain ⟨a, cap, rfl⟩ := hl.form
  rw [ints_len] at hl
  rw [ints_len]
  have hc := hl.len.2
  unfold maxLen at hc
  obtain ⟨hc1, hc2⟩ := hc
  have HL := Lib.hid hl
  clear hl
  go_enter Tryz.func101, Tryz.ntmps101
  go_wp2
  go_loopg [8] l.length (fun gg v8 wr => ∃ i : Nat, i ≤ l.length ∧ l.length - i ≤ gg ∧ v8 = .int .i64 i ∧ wr = w ∧ Hid (orL (l.drop i) = orL l))
  case atStart => exact ⟨0, by omega, by omega, rfl, rfl, rfl⟩
  case round =>
    obtain ⟨i, hi, hg, rfl, rfl, HE⟩ := hrel
    by_cases hlt : i < l.length
    · have hlt' : (i : Int) < (l.length : Int) := by omega
      obtain ⟨ba, oa, hae, hca⟩ := HL.out.at hlt
      have c1 := hca i (by rw [ints_len]; exact hlt)
      rw [ints_get] at c1
      have h1 := HE.out
      rw [List.drop_eq_getElem_cons hlt, orL] at h1
      obtain ⟨x, HX⟩ := nameIt (l[i]'hlt)
      rw [HX.out] at c1 h1
      have H1 := Lib.hid h1
      subst hae
      clear hca h1
      by_cases h0 : x = 0
      · subst h0
        have h2 := H1.out
        rw [if_pos rfl] at h2
        have HE2 := Lib.hid h2
        clear h2
        go_wp2
        go_roundg (l.length - (i + 1))
        case measure => omega
        case rel => exact ⟨i + 1, by omega, by omega, by go_num, rfl, HE2⟩
      · have h2 := H1.out
        rw [if_neg h0] at h2
        have HE2 := Lib.hid h2
        have hcb : (x != 0) = true := by simpa using h0
        clear h2 h0
        go_wp2
        go_ret
        exact ⟨by rw [← HE2.out]; rfl, rfl⟩
    · have hlt' : ¬ (i : Int) < (l.length : Int) := by omega
      have HE2 : Hid (orL l = 0) := by show _ = _; rw [← HE.out, List.drop_of_length_le (by omega), orL]
      go_wp2
      go_ret
      exact ⟨by rw [HE2.out]; rfl, rfl⟩
end Go.Proofs.YtfocooehnmpndaaGreat
namespace Go.Proofs.YtfocooehnmpndaaGreat
open Go.RowKit
structure Gram where
  terms : Int
  nons : Int
  start : Int
  rules : List Rule
  deriving DecidableEq
def Gram.d (g : Gram) : D := .agg [.int g.terms, .int g.nons, .int g.start, .sl (g.rules.map Rule.d)]
def hasS (g : Gram) (s : Sym) : Bool := decide (0 ≤ s.n) && (s.term && decide (s.n < g.terms) || !s.term && decide (s.n < g.nons))
def ordS (a b : Sym) : Int := if a.term = b.term then cmp3 a.n b.n else if a.term then -1 else 1
def cmpS : List Sym → List Sym → Int
  | [], [] => 0
  | [], _ :: _ => -1
  | _ :: _, [] => 1
  | x :: l, y :: m => if ordS x y = 0 then cmpS l m else ordS x y
def cmpR (a b : Rule) : Int := orL [cmp3 a.left b.left, cmpS a.right b.right]
def faultR (g : Gram) (i : Nat) (r : Rule) : Int :=
  if r.left < 0 ∨ g.nons ≤ r.left then 3 else if 4 < r.right.length then 2 else if r.right.any (fun s => !hasS g s) then 3 else if (g.rules.take i).any (fun x => cmpR x r == 0) then 6 else 0
def faultsFrom (g : Gram) : Nat → List Rule → Int
  | _, [] => 0
  | i, r :: l => if faultR g i r = 0 then faultsFrom g (i + 1) l else faultR g i r
def badHead (g : Gram) : Bool := decide (g.terms < 1) || decide (8 < g.terms) || decide (g.nons < 1) || decide (10 < g.nons) || decide (g.start < 0) || decide (g.nons ≤ g.start)
def checkG (g : Gram) : Int := if badHead g then 1 else if 32 < g.rules.length then 2 else faultsFrom g 0 g.rules
theorem faultsFrom_at {g : Gram} {i : Nat} (h : i < g.rules.length) : faultsFrom g i (g.rules.drop i) = if faultR g i g.rules[i] = 0 then faultsFrom g (i + 1) (g.rules.drop (i + 1)) else faultR g i g.rules[i] := by
  rw [List.drop_eq_getElem_cons h, faultsFrom]
theorem faultsFrom_zero {g : Gram} : ∀ {l : List Rule} {i : Nat}, faultsFrom g i l = 0 → ∀ r ∈ l, 0 ≤ r.left ∧ r.left < g.nons ∧ r.right.length ≤ 4 ∧ ∀ s ∈ r.right, hasS g s = true
  | [], i, _, r, hr => by simp at hr
  | x :: l, i, h, r, hr => by
    rw [faultsFrom] at h
    by_cases h0 : faultR g i x = 0
    · rw [if_pos h0] at h
      rcases List.mem_cons.1 hr with rfl | hr
      · unfold faultR at h0
        by_cases h1 : r.left < 0 ∨ g.nons ≤ r.left
        · rw [if_pos h1] at h0; simp at h0
        · rw [if_neg h1] at h0
          by_cases h2 : 4 < r.right.length
          · rw [if_pos h2] at h0; simp at h0
          · rw [if_neg h2] at h0
            by_cases h3 : r.right.any (fun s => !hasS g s) = true
            · rw [if_pos h3] at h0; simp at h0
            · refine ⟨by omega, by omega, by omega, fun s hs => ?_⟩
              simp at h3
              exact h3 s hs
      · exact faultsFrom_zero h r hr
    · rw [if_neg h0] at h; exact absurd h h0
theorem checkG_zero {g : Gram} (h : checkG g = 0) : (1 ≤ g.terms ∧ g.terms ≤ 8 ∧ 1 ≤ g.nons ∧ g.nons ≤ 10 ∧ 0 ≤ g.start ∧ g.start < g.nons) ∧ g.rules.length ≤ 32 ∧ ∀ r ∈ g.rules, 0 ≤ r.left ∧ r.left < g.nons ∧ r.right.length ≤ 4 ∧ ∀ s ∈ r.right, hasS g s = true := by
  unfold checkG at h
  by_cases h1 : badHead g = true
  · rw [if_pos h1] at h; simp at h
  · rw [if_neg h1] at h
    by_cases h2 : 32 < g.rules.length
    · rw [if_pos h2] at h; simp at h
    · rw [if_neg h2] at h
      refine ⟨?_, by omega, faultsFrom_zero h⟩
      simp [badHead] at h1
      omega
end Go.Proofs.YtfocooehnmpndaaGreat
namespace Go.Proofs.YtfocooehnmpndaaGreat
open Go.RowKit
namespace At
structure Ref where
  at' : Int
  attr : Int
  deriving DecidableEq
inductive Expr where
  | node (kind n : Int) (ref : Ref) (args : List Expr)
def Expr.kind : Expr → Int | .node k _ _ _ => k
def Expr.n : Expr → Int | .node _ n _ _ => n
def Expr.ref : Expr → Ref | .node _ _ r _ => r
def Expr.args : Expr → List Expr | .node _ _ _ l => l
structure Attr where
  non : Int
  inh : Bool
  deriving DecidableEq
structure Eqn where
  rule : Int
  to' : Ref
  is' : Expr
structure Sys where
  attrs : List Attr
  eqs : List Eqn
def Ref.d (r : Ref) : D := .agg [.int r.at', .int r.attr]
mutual
def Expr.d : Expr → D
  | .node k n r l => .agg [.int k, .int n, r.d, .sl (Expr.dL l)]
def Expr.dL : List Expr → List D
  | [] => []
  | x :: l => Expr.d x :: Expr.dL l
end
theorem dL_map : ∀ l : List Expr, Expr.dL l = l.map Expr.d
  | [] => rfl
  | x :: l => by simp [Expr.dL, dL_map l]
theorem Expr.d_eq (x : Expr) : x.d = .agg [.int x.kind, .int x.n, x.ref.d, .sl (x.args.map Expr.d)] := by
  cases x; simp [Expr.d, dL_map, Expr.kind, Expr.n, Expr.ref, Expr.args]
theorem Expr.d_cells (x : Expr) : x.d.cells = 5 := by rw [Expr.d_eq]; simp [D.cells, D.cellsAll, Ref.d]
theorem exprs_cells (l : List Expr) : ∀ d ∈ l.map Expr.d, d.cells = 5 := by
  intro d hd
  simp at hd
  obtain ⟨t, _, rfl⟩ := hd
  exact t.d_cells
def Attr.d (a : Attr) : D := .agg [.int a.non, .bool a.inh]
def Eqn.d (q : Eqn) : D := .agg [.int q.rule, q.to'.d, q.is'.d]
theorem attrs_cells (l : List Attr) : ∀ d ∈ l.map Attr.d, d.cells = 2 := by
  intro d hd
  simp at hd
  obtain ⟨t, _, rfl⟩ := hd
  simp [Attr.d, D.cells, D.cellsAll]
theorem Eqn.d_cells (q : Eqn) : q.d.cells = 8 := by simp [Eqn.d, Ref.d, D.cells, D.cellsAll, Expr.d_cells]
theorem eqs_cells (l : List Eqn) : ∀ d ∈ l.map Eqn.d, d.cells = 8 := by
  intro d hd
  simp at hd
  obtain ⟨t, _, rfl⟩ := hd
  exact t.d_cells
mutual
def Expr.size : Expr → Nat
  | .node _ _ _ l => 1 + sizeL l
def sizeL : List Expr → Nat
  | [] => 0
  | x :: l => Expr.size x + sizeL l
end
theorem Expr.size_eq (x : Expr) : x.size = 1 + sizeL x.args := by cases x; simp [Expr.size, Expr.args]
theorem Expr.size_pos (x : Expr) : 0 < x.size := by rw [Expr.size_eq]; omega
theorem sizeL_append : ∀ (a b : List Expr), sizeL (a ++ b) = sizeL a + sizeL b
  | [], b => by simp [sizeL]
  | x :: a, b => by simp [sizeL, sizeL_append a b]; omega
theorem sizeL_take {l : List Expr} {i : Nat} (h : i < l.length) : sizeL (l.take (i + 1)) = sizeL (l.take i) + l[i].size := by
  rw [List.take_succ_eq_append_getElem h, sizeL_append]; simp [sizeL]
theorem sizeL_take_le (l : List Expr) (i : Nat) : sizeL (l.take i) ≤ sizeL l := by
  conv => rhs; rw [← List.take_append_drop i l, sizeL_append]
  omega
theorem sizeL_kid {l : List Expr} {i : Nat} (h : i < l.length) : sizeL (l.take i) + l[i].size ≤ sizeL l := by
  have := sizeL_take_le l (i + 1)
  rw [sizeL_take h] at this
  exact this
theorem sizeL_len : ∀ (l : List Expr), l.length ≤ sizeL l
  | [] => by simp
  | x :: l => by have := sizeL_len l; have := x.size_pos; simp [sizeL]; omega
mutual
def enodes : Expr → List Expr
  | .node k n r l => .node k n r l :: enodesL l
def enodesL : List Expr → List Expr
  | [] => []
  | x :: l => enodes x ++ enodesL l
end
theorem enodes_eq (x : Expr) : enodes x = x :: enodesL x.args := by cases x; simp [enodes, Expr.args]
theorem enodesL_append : ∀ (a b : List Expr), enodesL (a ++ b) = enodesL a ++ enodesL b
  | [], b => by simp [enodesL]
  | x :: a, b => by simp [enodesL, enodesL_append a b]
theorem enodesL_take {l : List Expr} {i : Nat} (h : i < l.length) : enodesL (l.take (i + 1)) = enodesL (l.take i) ++ enodes l[i] := by
  rw [List.take_succ_eq_append_getElem h, enodesL_append]; simp [enodesL]
mutual
theorem enodes_len : ∀ x : Expr, (enodes x).length = x.size
  | .node k n r l => by rw [enodes, Expr.size, List.length_cons, enodesL_len l]; omega
theorem enodesL_len : ∀ l : List Expr, (enodesL l).length = sizeL l
  | [] => rfl
  | x :: l => by rw [enodesL, sizeL, List.length_append, enodes_len x, enodesL_len l]
end
def there (al : List Attr) (r : Rule) (x : Ref) : Bool :=
  decide (0 ≤ x.attr ∧ x.attr < al.length ∧ 0 ≤ x.at' ∧ x.at' ≤ r.right.length) &&
  match al[x.attr.toNat]? with
  | some a => if x.at' = 0 then decide (a.non = r.left) else decide (r.right[(x.at' - 1).toNat]? = some ⟨false, a.non⟩)
  | none => false
def inhAt (al : List Attr) (i : Int) : Bool := match al[i.toNat]? with | some a => a.inh | none => false
def defs (al : List Attr) (r : Rule) (x : Ref) : Bool := there al r x && (inhAt al x.attr == decide (0 < x.at'))
def okArgs (kind : Int) (m : Nat) : Bool :=
  if kind = 0 ∨ kind = 1 then m == 0 else if kind = 2 ∨ kind = 3 then true else if kind = 4 then decide (1 ≤ m) else if kind = 5 then m == 2 else if kind = 6 then m == 3 else false
def okNode (al : List Attr) (r : Rule) (x : Expr) : Bool :=
  okArgs x.kind x.args.length && (if x.kind = 0 then decide (0 ≤ x.n ∧ x.n < 1000003) else decide (x.n = 0)) && (if x.kind = 1 then there al r x.ref else decide (x.ref = ⟨0, 0⟩))
def valid (al : List Attr) (r : Rule) (x : Expr) : Bool := (enodes x).all (okNode al r)
theorem valid_eq (al : List Attr) (r : Rule) (x : Expr) : valid al r x = (okNode al r x && x.args.all (valid al r)) := by
  unfold valid
  rw [enodes_eq, List.all_cons]
  congr 1
  generalize x.args = l
  induction l with
  | nil => rfl
  | cons y l ih => rw [enodesL, List.all_append, List.all_cons, ih]
def cntA (al : List Attr) (n : Int) : Nat := (al.filter fun a => a.non = n).length
def attrErr (g : Gram) (al : List Attr) (i : Nat) (a : Attr) : Int :=
  if a.non < 0 ∨ g.nons ≤ a.non then 1 else if a.inh ∧ a.non = g.start then 3 else if 3 < cntA (al.take (i + 1)) a.non then 2 else 0
def attrsFrom (g : Gram) (al : List Attr) : Nat → List Attr → Int
  | _, [] => 0
  | i, a :: l => if attrErr g al i a ≠ 0 then attrErr g al i a else attrsFrom g al (i + 1) l
def attrsErr (g : Gram) (al : List Attr) : Int := attrsFrom g al 0 al
theorem attrsFrom_at {g : Gram} {al : List Attr} {i : Nat} (h : i < al.length) : attrsFrom g al i (al.drop i) = if attrErr g al i al[i] ≠ 0 then attrErr g al i al[i] else attrsFrom g al (i + 1) (al.drop (i + 1)) := by
  rw [List.drop_eq_getElem_cons h, attrsFrom]
theorem attrsFrom_zero {g : Gram} {al : List Attr} : ∀ {l : List Attr} {i : Nat}, attrsFrom g al i l = 0 → ∀ a ∈ l, 0 ≤ a.non ∧ a.non < g.nons
  | [], _, _, a, ha => by simp at ha
  | x :: l, i, h, a, ha => by
    rw [attrsFrom] at h
    by_cases h0 : attrErr g al i x = 0
    · rw [if_neg (by simpa using h0)] at h
      rcases List.mem_cons.1 ha with rfl | ha
      · unfold attrErr at h0
        by_cases h1 : a.non < 0 ∨ g.nons ≤ a.non
        · rw [if_pos h1] at h0; simp at h0
        · omega
      · exact attrsFrom_zero h a ha
    · rw [if_pos h0] at h; exact absurd h h0
def had (es : List Eqn) (rule : Int) (x : Ref) : Bool := es.any fun q => decide (q.rule = rule ∧ q.to' = x)
def eqErr (g : Gram) (s : Sys) (i : Nat) (q : Eqn) : Int :=
  match g.rules[q.rule.toNat]? with
  | none => 1
  | some r => if q.rule < 0 then 1 else if 30 < q.is'.size then 2 else if defs s.attrs r q.to' = false ∨ valid s.attrs r q.is' = false then 3 else if had (s.eqs.take i) q.rule q.to' then 6 else 0
def eqsFrom (g : Gram) (s : Sys) : Nat → List Eqn → Int
  | _, [] => 0
  | i, q :: l => if eqErr g s i q ≠ 0 then eqErr g s i q else eqsFrom g s (i + 1) l
theorem eqsFrom_at {g : Gram} {s : Sys} {i : Nat} (h : i < s.eqs.length) : eqsFrom g s i (s.eqs.drop i) = if eqErr g s i s.eqs[i] ≠ 0 then eqErr g s i s.eqs[i] else eqsFrom g s (i + 1) (s.eqs.drop (i + 1)) := by
  rw [List.drop_eq_getElem_cons h, eqsFrom]
def lacksAt (s : Sys) (i : Nat) (r : Rule) (k a : Nat) : Bool := defs s.attrs r ⟨k, a⟩ && !had s.eqs i ⟨k, a⟩
def lacks (g : Gram) (s : Sys) : Prop := ∃ i k a, ∃ h : i < g.rules.length, k < g.rules[i].right.length + 1 ∧ a < s.attrs.length ∧ lacksAt s i g.rules[i] k a = true
open Classical in
noncomputable def sysErr (g : Gram) (s : Sys) : Int :=
  if attrsErr g s.attrs ≠ 0 then attrsErr g s.attrs else if 200 < s.eqs.length then 2 else if eqsFrom g s 0 s.eqs ≠ 0 then eqsFrom g s 0 s.eqs else if lacks g s then 5 else 0
noncomputable def checkS (g : Gram) (s : Sys) : Int := if checkG g ≠ 0 then checkG g else sysErr g s
end At
end Go.Proofs.YtfocooehnmpndaaGreat
namespace Go.Proofs.YtfocooehnmpndaaGreat
open Go.RowKit
namespace At
theorem bx_cells5 {w : World} {b : Nat} {x0 x1 x2 x3 x4 : Value} {T : TypeId} (h : w.heap[b]? = some (.cells #[x0, x1, x2, x3, x4] T (0, 0))) :
    w.cell? ⟨b, 0, none⟩ = some x0 ∧ w.cell? ⟨b, 0 + 1, none⟩ = some x1 ∧ w.cell? ⟨b, 0 + 2, none⟩ = some x2 ∧ w.cell? ⟨b, 0 + 3, none⟩ = some x3 ∧ w.cell? ⟨b, 0 + 4, none⟩ = some x4 := by
  refine ⟨?_, ?_, ?_, ?_, ?_⟩ <;> simp [World.cell?, h]
theorem rd_ref {S : Nat → Prop} {w : World} (r : Ref) : Rd S w r.d [.int .i64 r.at', .int .i64 r.attr] := ⟨[.int .i64 r.at'], [.int .i64 r.attr], rfl, rfl, RdAll.one rfl⟩
theorem Rd.ref {S : Nat → Prop} {w : World} {r : Ref} {cs : List Value} (h : Rd S w r.d cs) : cs = [.int .i64 r.at', .int .i64 r.attr] := by
  obtain ⟨c1, c2, rfl, h1, h2⟩ := h
  rw [RdAll.one_iff] at h2
  simp [Rd] at h1 h2
  subst h1 h2
  rfl
theorem Rd.expr {S : Nat → Prop} {w : World} {x : Expr} {cs : List Value} (h : Rd S w x.d cs) : ∃ v, cs = [.int .i64 x.kind, .int .i64 x.n, .int .i64 x.ref.at', .int .i64 x.ref.attr, v] ∧ Rd S w (.sl (x.args.map Expr.d)) [v] := by
  rw [Expr.d_eq] at h
  obtain ⟨c1, c2, rfl, h1, c3, c4, rfl, h2, c5, c6, rfl, h3, h4⟩ := h
  rw [RdAll.one_iff] at h4
  have h3' := Rd.ref h3
  simp [Rd] at h1 h2
  subst h1 h2 h3'
  have h5 := h4
  obtain ⟨a, cap, L, e, _⟩ := h4
  subst e
  exact ⟨_, rfl, h5⟩
theorem rd_expr {S : Nat → Prop} {w : World} {x : Expr} {v : Value} (h : Rd S w (.sl (x.args.map Expr.d)) [v]) : Rd S w x.d [.int .i64 x.kind, .int .i64 x.n, .int .i64 x.ref.at', .int .i64 x.ref.attr, v] := by
  rw [Expr.d_eq]
  exact ⟨[_], [_, _, _, v], rfl, rfl, [_], [_, _, v], rfl, rfl, [_, _], [v], rfl, rd_ref _, RdAll.one h⟩
theorem Rd.arg {S : Nat → Prop} {w : World} {l : List Expr} {a : Option Addr} {n cap i : Nat} (h : Rd S w (.sl (l.map Expr.d)) [.slice a n cap]) (hi : i < l.length) :
    ∃ b off v, a = some ⟨b, off, none⟩ ∧ S b ∧ b < w.heap.size ∧ w.cell? ⟨b, off + i * 5, none⟩ = some (.int .i64 l[i].kind) ∧ w.cell? ⟨b, off + i * 5 + 1, none⟩ = some (.int .i64 l[i].n) ∧ w.cell? ⟨b, off + i * 5 + 2, none⟩ = some (.int .i64 l[i].ref.at') ∧ w.cell? ⟨b, off + i * 5 + 3, none⟩ = some (.int .i64 l[i].ref.attr) ∧ w.cell? ⟨b, off + i * 5 + 4, none⟩ = some v ∧ Rd S w (.sl (l[i].args.map Expr.d)) [v] := by
  obtain ⟨b, off, cs, ha, hS, hlt, hr, hl, hc⟩ := h.at (exprs_cells l) (by decide) (i := i) (by simpa using hi)
  simp at hr
  obtain ⟨v, rfl, hk⟩ := Rd.expr hr
  exact ⟨b, off, v, ha, hS, hlt, by simpa using hc 0 (by simp), by simpa [Nat.add_assoc] using hc 1 (by simp), by simpa [Nat.add_assoc] using hc 2 (by simp), by simpa [Nat.add_assoc] using hc 3 (by simp), by simpa [Nat.add_assoc] using hc 4 (by simp), hk⟩
def SizePost (x : Expr) (w : World) (e : Ending) (w' : World) : Prop := e = .returned (.int .i64 (min x.size 31 : Nat)) ∧ Below w.heap.size w w'
set_option maxHeartbeats 2000000 in
set_option maxRecDepth 100000 in
theorem sizeE : ∀ (m : Nat) (x : Expr) (v : Value) (w : World), x.size ≤ m → Rd AnyB w (.sl (x.args.map Expr.d)) [v] →
    Calls Tryz.prog 94 #[.agg #[.int .i64 x.kind, .int .i64 x.n, .int .i64 x.ref.at', .int .i64 x.ref.attr, v]] w (SizePost x w) := by
  intro m
  induction m with
  | zero => intro x v w hm; have := x.size_pos; omega
  | succ m ih =>
  intro x v w hm hv
  obtain ⟨a, cap, rfl, hc1, hc2⟩ := hv.form
  have HV := Lib.hid hv
  have HM := Lib.hid hm
  have IH := Lib.hid ih
  have HSZ := Lib.hid x.size_eq
  have HFIN : Hid (∀ z W, (min x.size 31 : Nat) = z → Below w.heap.size w W → SizePost x w (.returned (.int .i64 (z : Nat))) W) := fun z W h1 h2 => ⟨by rw [h1], h2⟩
  obtain ⟨q0, HQ0⟩ := nameIt x.kind
  obtain ⟨q1, HQ1⟩ := nameIt x.n
  obtain ⟨q2, HQ2⟩ := nameIt x.ref.at'
  obtain ⟨q3, HQ3⟩ := nameIt x.ref.attr
  obtain ⟨K, HKN⟩ := nameIt x.args
  rw [List.length_map, HKN.out] at hc1 HV
  rw [HKN.out] at HSZ
  rw [HQ0.out, HQ1.out, HQ2.out, HQ3.out, List.length_map, HKN.out]
  unfold maxLen at hc2
  clear hv hm ih
  obtain ⟨w0, HW0⟩ := nameIt (w.alloc (.cells #[.int .i64 q0, .int .i64 q1, .int .i64 q2, .int .i64 q3, .slice a K.length cap] 86))
  have HB0 : Hid (Below w.heap.size w w0) := by rw [← HW0.out]; exact (Below.refl _ _).alloc (Nat.le_refl _) _
  have X0 : Hid (w0.heap[w.heap.size]? = some (.cells #[.int .i64 q0, .int .i64 q1, .int .i64 q2, .int .i64 q3, .slice a K.length cap] 86 (0, 0))) := by rw [← HW0.out]; exact bx_new _ _ _ rfl
  obtain ⟨x0, x1, x2, x3, x4⟩ := bx_cells5 X0.out
  go_enter Tryz.func94, Tryz.ntmps94
  go_upto_region 1 with fail
  rw [HW0.out]
  go_wp2_with fail
  clear x0 x1 x2 x3 x4
  go_loopg [3, 9] K.length (fun gg v3 v9 wr => ∃ (i s : Nat), i ≤ K.length ∧ K.length - i ≤ gg ∧ v9 = .int .i64 i ∧ v3 = .int .i64 s ∧ s ≤ 30 ∧ Hid (s = 1 + sizeL (K.take i)) ∧ Hid (Below w.heap.size w wr))
  case atStart => exact ⟨0, 1, by omega, by omega, rfl, rfl, by omega, Lib.hid (by simp [sizeL]), HB0⟩
  case round =>
    obtain ⟨i, s, hi, hg, rfl, rfl, hs30, HS, HB⟩ := hrel
    by_cases hlt : i < K.length
    · have hlt' : (i : Int) < (K.length : Int) := by omega
      obtain ⟨b, off, v, hae, -, hbl, e0, e1, e2, e3, e4, hkid⟩ := Rd.arg (HV.out.below HB.out) hlt
      obtain ⟨av, cv, rfl, -, -⟩ := hkid.form
      obtain ⟨nv, HNV⟩ := nameIt (K[i].args.map Expr.d).length
      rw [HNV.out] at e4 hkid
      have hms : K[i].size ≤ m := by
        have h1 := HM.out
        rw [HSZ.out] at h1
        have := sizeL_kid hlt
        omega
      have HTK := Lib.hid (sizeL_take hlt)
      have HKID := Lib.hid (sizeL_kid hlt)
      obtain ⟨w1, HW1⟩ := nameIt (wr.alloc (.cells #[.int .i64 K[i].kind, .int .i64 K[i].n, .int .i64 K[i].ref.at', .int .i64 K[i].ref.attr, .slice av nv cv] 86))
      have hb1 : Below wr.heap.size wr w1 := by rw [← HW1.out]; exact (Below.refl _ _).alloc (Nat.le_refl _) _
      have X1 : Hid (w1.heap[wr.heap.size]? = some (.cells #[.int .i64 K[i].kind, .int .i64 K[i].n, .int .i64 K[i].ref.at', .int .i64 K[i].ref.attr, .slice av nv cv] 86 (0, 0))) := by rw [← HW1.out]; exact bx_new _ _ _ rfl
      have hih := IH.out K[i] _ w1 hms (hkid.below hb1)
      obtain ⟨kid, HKI⟩ := nameIt (K[i]'hlt)
      rw [HKI.out] at e0 e1 e2 e3 hih HTK HKID X1 HW1
      obtain ⟨p0, HP0⟩ := nameIt kid.kind
      obtain ⟨p1, HP1⟩ := nameIt kid.n
      obtain ⟨p2, HP2⟩ := nameIt kid.ref.at'
      obtain ⟨p3, HP3⟩ := nameIt kid.ref.attr
      rw [HP0.out] at e0 hih X1 HW1
      rw [HP1.out] at e1 hih X1 HW1
      rw [HP2.out] at e2 hih X1 HW1
      rw [HP3.out] at e3 hih X1 HW1
      have HC : Hid (Calls Tryz.prog 94 #[.agg #[.int .i64 p0, .int .i64 p1, .int .i64 p2, .int .i64 p3, .slice av nv cv]] w1 (fun e w' => ∃ z : Nat, e = .returned (.int .i64 z) ∧ z ≤ 31 ∧ Hid (z = min kid.size 31) ∧ Below w1.heap.size w1 w')) := hih.mono fun e w' h => ⟨_, h.1, by omega, rfl, h.2⟩
      have HB1 : Hid (Below w.heap.size w w1) := HB.out.trans (hb1.mono HB.out.size)
      obtain ⟨y0, y1, y2, y3, y4⟩ := bx_cells5 X1.out
      subst hae
      clear hih hkid hms hb1
      go_upto_region 5 with fail
      rw [HW1.out]
      clear e0 e1 e2 e3 e4
      go_wp2_with fail
      refine HC.out.mono ?_
      rintro e w2 ⟨z, rfl, hz31, HZ, hb2⟩
      have HB2 : Hid (Below w.heap.size w w2) := HB1.out.trans (hb2.mono HB1.out.size)
      clear hb2 y0 y1 y2 y3 y4
      by_cases hbig : 30 < s + z
      · have hbig' : (30 : Int) < (s : Int) + (z : Int) := by omega
        have HE : Hid ((min x.size 31 : Nat) = 31) := by
          show _ = _
          have h1 := HS.out
          have h2 := HZ.out
          have h3 := HKID.out
          have h4 := HSZ.out
          omega
        go_wp2_with fail
        go_ret
        exact HFIN.out 31 _ HE.out HB2.out
      · have hbig' : ¬ (30 : Int) < (s : Int) + (z : Int) := by omega
        have HS2 : Hid (s + z = 1 + sizeL (K.take (i + 1))) := by
          show _ = _
          have h1 := HS.out
          have h2 := HZ.out
          have h3 := HTK.out
          omega
        go_wp2_with fail
        go_roundg (K.length - (i + 1))
        case measure => omega
        case rel => exact ⟨i + 1, s + z, by omega, by omega, by go_num, by go_num, by omega, HS2, HB2⟩
    · have hlt' : ¬ (i : Int) < (K.length : Int) := by omega
      have HE : Hid ((min x.size 31 : Nat) = s) := by
        show _ = _
        have h1 := HS.out
        rw [List.take_of_length_le (by omega)] at h1
        have h4 := HSZ.out
        omega
      go_wp2_with fail
      go_ret
      exact HFIN.out s _ HE.out HB.out
end At
end Go.Proofs.YtfocooehnmpndaaGreat
namespace Go.Proofs.YtfocooehnmpndaaGreat
open Go.RowKit
namespace At
def inM (v : Int) : Prop := 0 ≤ v ∧ v < 1000003
def maxF (vs : List Int) : Int := vs.foldl max (vs.headD 0)
def comb (k n g : Int) (vs : List Int) : Int :=
  if k = 1 then g else if k = 2 then vs.sum % 1000003 else if k = 3 then vs.foldl (fun a v => a * v % 1000003) 1 else if k = 4 then maxF vs
  else if k = 5 then (if vs[0]?.getD 0 < vs[1]?.getD 0 then 1 else 0) else if k = 6 then (if vs[0]?.getD 0 ≠ 0 then vs[1]?.getD 0 else vs[2]?.getD 0) else n
theorem comb_0 (n g : Int) (vs : List Int) : comb 0 n g vs = n := by simp [comb]
theorem comb_1 (n g : Int) (vs : List Int) : comb 1 n g vs = g := by simp [comb]
theorem comb_2 (n g : Int) (vs : List Int) : comb 2 n g vs = vs.sum % 1000003 := by simp [comb]
theorem comb_3 (n g : Int) (vs : List Int) : comb 3 n g vs = vs.foldl (fun a v => a * v % 1000003) 1 := by simp [comb]
theorem comb_4 (n g : Int) (vs : List Int) : comb 4 n g vs = maxF vs := by simp [comb]
theorem comb_5 (n g : Int) (vs : List Int) : comb 5 n g vs = if vs[0]?.getD 0 < vs[1]?.getD 0 then 1 else 0 := by simp [comb]
theorem comb_6 (n g : Int) (vs : List Int) : comb 6 n g vs = if vs[0]?.getD 0 ≠ 0 then vs[1]?.getD 0 else vs[2]?.getD 0 := by simp [comb]
mutual
def worth (get : Ref → Int) : Expr → Int
  | .node k n r l => comb k n (get r) (worthL get l)
def worthL (get : Ref → Int) : List Expr → List Int
  | [] => []
  | x :: l => worth get x :: worthL get l
end
theorem worth_eq (get : Ref → Int) (x : Expr) : worth get x = comb x.kind x.n (get x.ref) (worthL get x.args) := by cases x; simp [worth, Expr.kind, Expr.n, Expr.ref, Expr.args]
theorem worthL_map (get : Ref → Int) : ∀ l, worthL get l = l.map (worth get)
  | [] => rfl
  | x :: l => by simp [worthL, worthL_map get l]
def okRefV (r : Ref) : Prop := 0 ≤ r.at' ∧ r.at' ≤ 1000 ∧ 0 ≤ r.attr ∧ r.attr ≤ 2000000
def okV (RP : Ref → Prop) (y : Expr) : Prop := okArgs y.kind y.args.length = true ∧ (y.kind = 0 → inM y.n) ∧ (y.kind = 1 → RP y.ref)
def okX (RP : Ref → Prop) (x : Expr) : Prop := ∀ y ∈ enodes x, okV RP y
theorem okX.self {RP : Ref → Prop} {x : Expr} (h : okX RP x) : okV RP x := h x (by rw [enodes_eq]; exact List.mem_cons_self)
theorem mem_enodesL {l : List Expr} {x : Expr} (hx : x ∈ l) {y : Expr} (hy : y ∈ enodes x) : y ∈ enodesL l := by
  induction l with
  | nil => cases hx
  | cons a l ih =>
    rw [enodesL]
    rcases List.mem_cons.1 hx with rfl | hx
    · exact List.mem_append_left _ hy
    · exact List.mem_append_right _ (ih hx)
theorem okX.kid {RP : Ref → Prop} {x y : Expr} (h : okX RP x) (hy : y ∈ x.args) : okX RP y := fun z hz => h z (by rw [enodes_eq]; exact List.mem_cons_of_mem _ (mem_enodesL hy hz))
theorem emod_inM (a : Int) : inM (a % 1000003) := ⟨Int.emod_nonneg _ (by decide), Int.emod_lt_of_pos _ (by decide)⟩
theorem fold_mul_inM : ∀ (vs : List Int) (a : Int), inM a → (∀ v ∈ vs, inM v) → inM (vs.foldl (fun a v => a * v % 1000003) a)
  | [], a, h, _ => h
  | v :: vs, a, h, hv => fold_mul_inM vs _ (emod_inM _) (fun u hu => hv u (List.mem_cons_of_mem _ hu))
theorem fold_max_inM : ∀ (vs : List Int) (a : Int), inM a → (∀ v ∈ vs, inM v) → inM (vs.foldl max a)
  | [], a, h, _ => h
  | v :: vs, a, h, hv => fold_max_inM vs _ (by
    have := hv v List.mem_cons_self
    unfold inM at *
    rw [Int.max_def]
    split <;> omega) (fun u hu => hv u (List.mem_cons_of_mem _ hu))
theorem getD_inM {vs : List Int} (h : ∀ v ∈ vs, inM v) (i : Nat) : inM (vs[i]?.getD 0) := by
  rcases Nat.lt_or_ge i vs.length with hi | hi
  · rw [List.getElem?_eq_getElem hi]; exact h _ (List.getElem_mem hi)
  · rw [List.getElem?_eq_none hi]; exact ⟨by decide, by decide⟩
theorem comb_inM {k n g : Int} {vs : List Int} (hk : okArgs k vs.length = true) (hn : k = 0 → inM n) (hg : k = 1 → inM g) (hv : ∀ v ∈ vs, inM v) : inM (comb k n g vs) := by
  unfold comb
  by_cases h1 : k = 1
  · rw [if_pos h1]; exact hg h1
  rw [if_neg h1]
  by_cases h2 : k = 2
  · rw [if_pos h2]; exact emod_inM _
  rw [if_neg h2]
  by_cases h3 : k = 3
  · rw [if_pos h3]; exact fold_mul_inM _ _ ⟨by decide, by decide⟩ hv
  rw [if_neg h3]
  by_cases h4 : k = 4
  · rw [if_pos h4]
    unfold maxF
    cases vs with
    | nil => exact ⟨by decide, by decide⟩
    | cons v vs => exact fold_max_inM _ _ (hv v List.mem_cons_self) hv
  rw [if_neg h4]
  by_cases h5 : k = 5
  · rw [if_pos h5]; split <;> exact ⟨by decide, by decide⟩
  rw [if_neg h5]
  by_cases h6 : k = 6
  · rw [if_pos h6]; split <;> exact getD_inM hv _
  rw [if_neg h6]
  by_cases h0 : k = 0
  · exact hn h0
  · exfalso
    unfold okArgs at hk
    rw [if_neg (by omega), if_neg (by omega), if_neg h4, if_neg h5, if_neg h6] at hk
    cases hk
theorem worth_inM {RP : Ref → Prop} {get : Ref → Int} (hg : ∀ r, RP r → inM (get r)) : ∀ (m : Nat) (x : Expr), x.size ≤ m → okX RP x → inM (worth get x) := by
  intro m
  induction m with
  | zero => intro x hm; have := x.size_pos; omega
  | succ m ih =>
    intro x hm hx
    rw [worth_eq]
    obtain ⟨h1, h2, h3⟩ := hx.self
    refine comb_inM (by rw [worthL_map, List.length_map]; exact h1) h2 (fun h => hg _ (h3 h)) ?_
    rw [worthL_map]
    intro v hv
    obtain ⟨y, hy, rfl⟩ := List.mem_map.1 hv
    obtain ⟨i, hi, rfl⟩ := List.getElem_of_mem hy
    have := sizeL_kid hi
    rw [Expr.size_eq] at hm
    exact ih _ (by omega) (hx.kid (List.getElem_mem hi))
theorem worthL_inM {RP : Ref → Prop} {get : Ref → Int} (hg : ∀ r, RP r → inM (get r)) {x : Expr} (hx : okX RP x) : ∀ v ∈ worthL get x.args, inM v := by
  rw [worthL_map]
  intro v hv
  obtain ⟨y, hy, rfl⟩ := List.mem_map.1 hv
  exact worth_inM hg y.size y (Nat.le_refl _) (hx.kid hy)
def GetAt (RP : Ref → Prop) (g : Nat) (lb : Array Value) (get : Ref → Int) (w : World) : Prop :=
  ∀ (W : World) (r : Ref), RP r → Below w.heap.size w W → Calls Tryz.prog g (#[.agg #[.int .i64 r.at', .int .i64 r.attr]] ++ lb) W fun e w' => e = .returned (.int .i64 (get r)) ∧ Below W.heap.size W w'
theorem GetAt.below {RP : Ref → Prop} {g : Nat} {lb : Array Value} {get : Ref → Int} {w w' : World} (h : GetAt RP g lb get w) (hb : Below w.heap.size w w') : GetAt RP g lb get w' := fun W r hr hW => h W r hr (hb.trans (hW.mono hb.size))
theorem sum_take {vs : List Int} {i : Nat} (h : i < vs.length) : (vs.take (i + 1)).sum = (vs.take i).sum + vs[i] := by
  rw [List.take_succ_eq_append_getElem h, List.sum_append]; simp
theorem sum_range {vs : List Int} (h : ∀ v ∈ vs, inM v) (i : Nat) (hi : i ≤ vs.length) : 0 ≤ (vs.take i).sum ∧ (vs.take i).sum ≤ i * 1000003 := by
  induction i with
  | zero => simp
  | succ i ih =>
    have h1 := ih (by omega)
    rw [sum_take (by omega)]
    have h2 := h _ (List.getElem_mem (show i < vs.length by omega))
    unfold inM at h2
    omega
theorem fold_take {β : Type} {f : β → Int → β} {vs : List Int} {i : Nat} {a : β} (h : i < vs.length) : (vs.take (i + 1)).foldl f a = f ((vs.take i).foldl f a) vs[i] := by
  rw [List.take_succ_eq_append_getElem h, List.foldl_append]; rfl
theorem tmod_nn {a : Int} (h : 0 ≤ a) : a.tmod 1000003 = a % 1000003 := Int.tmod_eq_emod_of_nonneg h
end At
end Go.Proofs.YtfocooehnmpndaaGreat
namespace Go.Proofs.YtfocooehnmpndaaGreat
open Go.RowKit
def idxG {α : Type} (p : α → Bool) (l : List α) : Int := if l.any p then (l.findIdx p : Int) else -1
theorem idxG_hit {α : Type} {p : α → Bool} {l : List α} {i : Nat} (hi : i < l.length) (h : p l[i] = true) (hn : ∀ j (h : j < l.length), j < i → p l[j] = false) : idxG p l = i := by
  have h1 : l.any p = true := List.any_eq_true.2 ⟨l[i], List.getElem_mem hi, h⟩
  rw [idxG, if_pos h1]
  have : l.findIdx p = i := by
    rw [List.findIdx_eq hi]
    exact ⟨h, fun j hj => by simp [hn j (by omega) hj]⟩
  rw [this]
theorem idxG_none {α : Type} {p : α → Bool} {l : List α} (hn : ∀ j (h : j < l.length), p l[j] = false) : idxG p l = -1 := by
  have h1 : l.any p = false := by
    rw [List.any_eq_false]
    intro x hx
    obtain ⟨j, hj, rfl⟩ := List.getElem_of_mem hx
    simp [hn j hj]
  rw [idxG, if_neg (by simp [h1])]
theorem idxG_ge {α : Type} (p : α → Bool) (l : List α) : decide (0 ≤ idxG p l) = l.any p := by
  unfold idxG
  cases h : l.any p <;> simp [h]
def PredSym (g : Nat) (lb : Array Value) (l : List Sym) (p : Sym → Bool) (w : World) : Prop :=
  ∀ (W : World) (x : Sym), x ∈ l → Below w.heap.size w W → Calls Tryz.prog g (#[.agg #[.bool x.term, .int .i64 x.n]] ++ lb) W fun e w' => e = .returned (.bool (p x)) ∧ Below W.heap.size W w'
def PredRule (g : Nat) (lb : Array Value) (l : List Rule) (p : Rule → Bool) (w : World) : Prop :=
  ∀ (W : World) (x : Rule) (v : Value), x ∈ l → Below w.heap.size w W → Rd AnyB W (.sl (x.right.map Sym.d)) [v] → Calls Tryz.prog g (#[.agg #[.int .i64 x.left, v]] ++ lb) W fun e w' => e = .returned (.bool (p x)) ∧ Below W.heap.size W w'
set_option maxHeartbeats 1000000 in
theorem indexFuncSym (g : Nat) (lb : Array Value) (p : Sym → Bool) (a : Option Addr) (cap : Nat) (l : List Sym) (w : World) (eg : ∀ args w, (callFunc g args).run Tryz.prog w = .ok (.enter g args) w)
    (hf : PredSym g lb l p w) (hl : Rd AnyB w (.sl (l.map Sym.d)) [.slice a l.length cap]) :
    Calls Tryz.prog 99 #[.slice a l.length cap, .func (.func g) #[] lb] w fun e w' => e = .returned (.int .i64 (idxG p l)) ∧ Below w.heap.size w w' := by
  have HL := Lib.hid hl
  have HF := Lib.hid hf
  have hc := hl.bounds.2
  unfold maxLen at hc
  obtain ⟨hc1, hc2⟩ := hc
  clear hl hf
  go_enter Tryz.func99, Tryz.ntmps99
  go_wp2
  go_loopg [8] l.length (fun gg v8 wr => ∃ i : Nat, i ≤ l.length ∧ l.length - i ≤ gg ∧ v8 = .int .i64 i ∧ Hid (Below w.heap.size w wr) ∧ Hid (∀ j (h : j < l.length), j < i → p l[j] = false))
  case atStart => exact ⟨0, by omega, by omega, rfl, Below.refl _ _, fun j _ hj => by omega⟩
  case round =>
    obtain ⟨i, hi, hg, rfl, HB, HN⟩ := hrel
    by_cases hlt : i < l.length
    · have hlt' : (i : Int) < (l.length : Int) := by omega
      obtain ⟨b, off, hae, -, -, c0, c1⟩ := (HL.out.below HB.out).sym_at hlt
      obtain ⟨x, HX⟩ := nameIt (l[i]'hlt)
      rw [HX.out] at c0 c1
      have hcall := HF.out wr x (by rw [← HX.out]; exact List.getElem_mem hlt) HB.out
      obtain ⟨q0, HQ0⟩ := nameIt x.term
      obtain ⟨q1, HQ1⟩ := nameIt x.n
      rw [HQ0.out] at c0 hcall
      rw [HQ1.out] at c1 hcall
      have HC := Lib.hid hcall
      clear hcall
      subst hae
      go_wp2_with fail
      refine HC.out.mono ?_
      rintro e w6 ⟨rfl, hb6⟩
      have HB6 := Lib.hid (HB.out.trans (hb6.mono HB.out.size))
      clear hb6 c0 c1
      cases hp : p x with
      | true =>
        have HE : Hid (idxG p l = i) := idxG_hit hlt (by rw [HX.out]; exact hp) HN.out
        clear hp
        go_wp2
        go_ret
        exact ⟨by rw [HE.out]; rfl, HB6.out⟩
      | false =>
        have HN2 : Hid (∀ j (h : j < l.length), j < i + 1 → p l[j] = false) := by
          intro j h hj
          by_cases e : j = i
          · subst e; rw [HX.out]; exact hp
          · exact HN.out j h (by omega)
        clear hp
        go_wp2
        go_roundg (l.length - (i + 1))
        case measure => omega
        case rel => exact ⟨i + 1, by omega, by omega, by go_num, HB6, HN2⟩
    · have hlt' : ¬ (i : Int) < (l.length : Int) := by omega
      have HE : Hid (idxG p l = -1) := idxG_none fun j hj => HN.out j hj (by omega)
      go_wp2
      go_ret
      exact ⟨by rw [HE.out]; rfl, HB.out⟩
set_option maxHeartbeats 1000000 in
theorem containsFuncSym (g : Nat) (lb : Array Value) (p : Sym → Bool) (a : Option Addr) (cap : Nat) (l : List Sym) (w : World) (eg : ∀ args w, (callFunc g args).run Tryz.prog w = .ok (.enter g args) w)
    (hf : PredSym g lb l p w) (hl : Rd AnyB w (.sl (l.map Sym.d)) [.slice a l.length cap]) :
    Calls Tryz.prog 63 #[.slice a l.length cap, .func (.func g) #[] lb] w fun e w' => e = .returned (.bool (l.any p)) ∧ Below w.heap.size w w' := by
  have HL := Lib.hid hl
  have HF := Lib.hid hf
  have HG := Lib.hid eg
  clear hl hf eg
  go_enter Tryz.func63, Tryz.ntmps63
  go_wp2_with fail
  refine (indexFuncSym g lb p a cap l w HG.out HF.out HL.out).mono ?_
  rintro e w1 ⟨rfl, hb⟩
  have HB := Lib.hid hb
  clear hb
  go_wp2
  go_ret
  exact ⟨by rw [idxG_ge]; rfl, HB.out⟩
set_option maxHeartbeats 1000000 in
theorem indexFuncRule (g : Nat) (lb : Array Value) (p : Rule → Bool) (a : Option Addr) (cap : Nat) (l : List Rule) (w : World) (eg : ∀ args w, (callFunc g args).run Tryz.prog w = .ok (.enter g args) w)
    (hf : PredRule g lb l p w) (hl : Rd AnyB w (.sl (l.map Rule.d)) [.slice a l.length cap]) :
    Calls Tryz.prog 100 #[.slice a l.length cap, .func (.func g) #[] lb] w fun e w' => e = .returned (.int .i64 (idxG p l)) ∧ Below w.heap.size w w' := by
  have HL := Lib.hid hl
  have HF := Lib.hid hf
  have hc := hl.bounds.2
  unfold maxLen at hc
  obtain ⟨hc1, hc2⟩ := hc
  clear hl hf
  go_enter Tryz.func100, Tryz.ntmps100
  go_wp2
  go_loopg [8] l.length (fun gg v8 wr => ∃ i : Nat, i ≤ l.length ∧ l.length - i ≤ gg ∧ v8 = .int .i64 i ∧ Hid (Below w.heap.size w wr) ∧ Hid (∀ j (h : j < l.length), j < i → p l[j] = false))
  case atStart => exact ⟨0, by omega, by omega, rfl, Below.refl _ _, fun j _ hj => by omega⟩
  case round =>
    obtain ⟨i, hi, hg, rfl, HB, HN⟩ := hrel
    by_cases hlt : i < l.length
    · have hlt' : (i : Int) < (l.length : Int) := by omega
      obtain ⟨b, off, vr, hae, -, -, c0, c1, hkr⟩ := (HL.out.below HB.out).rule_at hlt
      obtain ⟨ar, cr, rfl, -, -⟩ := hkr.form
      rw [List.length_map] at c1 hkr
      obtain ⟨x, HX⟩ := nameIt (l[i]'hlt)
      rw [HX.out] at c0 c1 hkr
      have hcall := HF.out wr x _ (by rw [← HX.out]; exact List.getElem_mem hlt) HB.out hkr
      obtain ⟨q0, HQ0⟩ := nameIt x.left
      obtain ⟨q1, HQ1⟩ := nameIt x.right.length
      rw [HQ0.out] at c0 hcall
      rw [HQ1.out] at c1 hcall
      have HC := Lib.hid hcall
      clear hcall hkr
      subst hae
      go_wp2_with fail
      refine HC.out.mono ?_
      rintro e w6 ⟨rfl, hb6⟩
      have HB6 := Lib.hid (HB.out.trans (hb6.mono HB.out.size))
      clear hb6 c0 c1
      cases hp : p x with
      | true =>
        have HE : Hid (idxG p l = i) := idxG_hit hlt (by rw [HX.out]; exact hp) HN.out
        clear hp
        go_wp2
        go_ret
        exact ⟨by rw [HE.out]; rfl, HB6.out⟩
      | false =>
        have HN2 : Hid (∀ j (h : j < l.length), j < i + 1 → p l[j] = false) := by
          intro j h hj
          by_cases e : j = i
          · subst e; rw [HX.out]; exact hp
          · exact HN.out j h (by omega)
        clear hp
        go_wp2
        go_roundg (l.length - (i + 1))
        case measure => omega
        case rel => exact ⟨i + 1, by omega, by omega, by go_num, HB6, HN2⟩
    · have hlt' : ¬ (i : Int) < (l.length : Int) := by omega
      have HE : Hid (idxG p l = -1) := idxG_none fun j hj => HN.out j hj (by omega)
      go_wp2
      go_ret
      exact ⟨by rw [HE.out]; rfl, HB.out⟩
set_option maxHeartbeats 1000000 in
theorem containsFuncRule (g : Nat) (lb : Array Value) (p : Rule → Bool) (a : Option Addr) (cap : Nat) (l : List Rule) (w : World) (eg : ∀ args w, (callFunc g args).run Tryz.prog w = .ok (.enter g args) w)
    (hf : PredRule g lb l p w) (hl : Rd AnyB w (.sl (l.map Rule.d)) [.slice a l.length cap]) :
    Calls Tryz.prog 66 #[.slice a l.length cap, .func (.func g) #[] lb] w fun e w' => e = .returned (.bool (l.any p)) ∧ Below w.heap.size w w' := by
  have HL := Lib.hid hl
  have HF := Lib.hid hf
  have HG := Lib.hid eg
  clear hl hf eg
  go_enter Tryz.func66, Tryz.ntmps66
  go_wp2_with fail
  refine (indexFuncRule g lb p a cap l w HG.out HF.out HL.out).mono ?_
  rintro e w1 ⟨rfl, hb⟩
  have HB := Lib.hid hb
  clear hb
  go_wp2
  go_ret
  exact ⟨by rw [idxG_ge]; rfl, HB.out⟩
set_option maxHeartbeats 1000000 in
theorem orderS (x y : Sym) (w : World) : Calls Tryz.prog 104 #[.agg #[.bool x.term, .int .i64 x.n], .agg #[.bool y.term, .int .i64 y.n]] w fun e w' => e = .returned (.int .i64 (ordS x y)) ∧ Below w.heap.size w w' := by
  obtain ⟨x0, x1⟩ := x
  obtain ⟨y0, y1⟩ := y
  dsimp only
  cases x0 <;> cases y0
  · have HC := Lib.hid (fun W => compareInt x1 y1 W)
    have HO : Hid (ordS ⟨false, x1⟩ ⟨false, y1⟩ = cmp3 x1 y1) := by show _ = _; simp [ordS]
    go_enter Tryz.func104, Tryz.ntmps104
    go_wp2_with fail
    refine (HC.out _).mono ?_
    rintro e w' ⟨rfl, rfl⟩
    go_wp2_with fail
    go_ret
    exact ⟨by rw [HO.out]; rfl, ((Below.refl _ _).alloc (Nat.le_refl _) _).alloc (by simp) _⟩
  · have HO : Hid (ordS ⟨false, x1⟩ ⟨true, y1⟩ = 1) := by show _ = _; simp [ordS]
    go_enter Tryz.func104, Tryz.ntmps104
    go_wp2_with fail
    go_ret
    exact ⟨by rw [HO.out]; rfl, ((Below.refl _ _).alloc (Nat.le_refl _) _).alloc (by simp) _⟩
  · have HO : Hid (ordS ⟨true, x1⟩ ⟨false, y1⟩ = -1) := by show _ = _; simp [ordS]
    go_enter Tryz.func104, Tryz.ntmps104
    go_wp2_with fail
    go_ret
    exact ⟨by rw [HO.out]; rfl, ((Below.refl _ _).alloc (Nat.le_refl _) _).alloc (by simp) _⟩
  · have HC := Lib.hid (fun W => compareInt x1 y1 W)
    have HO : Hid (ordS ⟨true, x1⟩ ⟨true, y1⟩ = cmp3 x1 y1) := by show _ = _; simp [ordS]
    go_enter Tryz.func104, Tryz.ntmps104
    go_wp2_with fail
    refine (HC.out _).mono ?_
    rintro e w' ⟨rfl, rfl⟩
    go_wp2_with fail
    go_ret
    exact ⟨by rw [HO.out]; rfl, ((Below.refl _ _).alloc (Nat.le_refl _) _).alloc (by simp) _⟩
theorem cmpS_at {l m : List Sym} {i : Nat} (h : i < l.length) (h2 : i < m.length) : cmpS (l.drop i) (m.drop i) = if ordS l[i] m[i] = 0 then cmpS (l.drop (i + 1)) (m.drop (i + 1)) else ordS l[i] m[i] := by
  rw [List.drop_eq_getElem_cons h, List.drop_eq_getElem_cons h2, cmpS]
theorem cmpS_long {l m : List Sym} {i : Nat} (h : i < l.length) (h2 : m.length ≤ i) : cmpS (l.drop i) (m.drop i) = 1 := by
  rw [List.drop_eq_getElem_cons h, List.drop_of_length_le h2, cmpS]
theorem cmpS_short {l m : List Sym} {i : Nat} (h : l.length ≤ i) (h2 : i < m.length) : cmpS (l.drop i) (m.drop i) = -1 := by
  rw [List.drop_eq_getElem_cons h2, List.drop_of_length_le h, cmpS]
theorem cmpS_end {l m : List Sym} {i : Nat} (h : l.length ≤ i) (h2 : m.length ≤ i) : cmpS (l.drop i) (m.drop i) = 0 := by
  rw [List.drop_of_length_le h2, List.drop_of_length_le h, cmpS]
set_option maxHeartbeats 1000000 in
theorem compareSyms (a a' : Option Addr) (cap cap' : Nat) (l m : List Sym) (w : World) (hl : Rd AnyB w (.sl (l.map Sym.d)) [.slice a l.length cap]) (hm : Rd AnyB w (.sl (m.map Sym.d)) [.slice a' m.length cap']) :
    Calls Tryz.prog 103 #[.slice a l.length cap, .slice a' m.length cap', .func (.func 104) #[] #[]] w fun e w' => e = .returned (.int .i64 (cmpS l m)) ∧ Below w.heap.size w w' := by
  have HL := Lib.hid hl
  have HM := Lib.hid hm
  have hc := hl.bounds.2
  have hc' := hm.bounds.2
  unfold maxLen at hc hc'
  obtain ⟨hc1, hc2⟩ := hc
  obtain ⟨hc3, hc4⟩ := hc'
  clear hl hm
  go_enter Tryz.func103, Tryz.ntmps103
  go_wp2_with fail
  go_loopg [13] l.length (fun gg v13 wr => ∃ i : Nat, i ≤ l.length ∧ l.length - i ≤ gg ∧ v13 = .int .i64 i ∧ Hid (Below w.heap.size w wr) ∧ Hid (cmpS (l.drop i) (m.drop i) = cmpS l m))
  case atStart => exact ⟨0, by omega, by omega, rfl, Below.refl _ _, rfl⟩
  case round =>
    obtain ⟨i, hi, hg, rfl, HB, HE⟩ := hrel
    by_cases hlt : i < l.length
    · have hlt' : (i : Int) < (l.length : Int) := by omega
      obtain ⟨b, off, hae, -, -, c0, c1⟩ := (HL.out.below HB.out).sym_at hlt
      by_cases hlt2 : i < m.length
      · have hlt2' : (i : Int) < (m.length : Int) := by omega
        obtain ⟨b', off', hae', -, -, d0, d1⟩ := (HM.out.below HB.out).sym_at hlt2
        have h1 := HE.out
        rw [cmpS_at hlt hlt2] at h1
        obtain ⟨x, HX⟩ := nameIt (l[i]'hlt)
        obtain ⟨y, HY⟩ := nameIt (m[i]'hlt2)
        rw [HX.out] at c0 c1 h1
        rw [HY.out] at d0 d1 h1
        have hcall := fun W => orderS x y W
        obtain ⟨c, HC⟩ := nameIt (ordS x y)
        obtain ⟨q0, HQ0⟩ := nameIt x.term
        obtain ⟨q1, HQ1⟩ := nameIt x.n
        obtain ⟨p0, HP0⟩ := nameIt y.term
        obtain ⟨p1, HP1⟩ := nameIt y.n
        rw [HC.out] at h1 hcall
        rw [HQ0.out] at c0 hcall
        rw [HQ1.out] at c1 hcall
        rw [HP0.out] at d0 hcall
        rw [HP1.out] at d1 hcall
        have H1 := Lib.hid h1
        have HCA := Lib.hid hcall
        have hne := lt_of_cell d0
        subst hae hae'
        clear h1 hcall
        have hbb := ((Below.refl wr.heap.size wr).alloc (Nat.le_refl _) (.cells #[.bool q0, .int .i64 q1] 78)).alloc (by simp) (.cells #[.bool p0, .int .i64 p1] 78)
        have HBB := Lib.hid (HB.out.trans (hbb.mono HB.out.size))
        clear hbb
        go_wp2_with fail
        refine (HCA.out _).mono ?_
        rintro e w6 ⟨rfl, hb6⟩
        have HB6 := Lib.hid (HBB.out.trans (hb6.mono HBB.out.size))
        clear hb6 c0 c1 d0 d1
        by_cases h0 : c = 0
        · subst h0
          have h2 := H1.out
          rw [if_pos rfl] at h2
          have HE2 := Lib.hid h2
          clear h2
          go_wp2_with fail
          go_roundg (l.length - (i + 1))
          case measure => omega
          case rel => exact ⟨i + 1, by omega, by omega, by go_num, HB6, HE2⟩
        · have h2 := H1.out
          rw [if_neg h0] at h2
          have HE2 := Lib.hid h2
          have hcb : (c != 0) = true := by simpa using h0
          clear h2 h0
          go_wp2_with fail
          go_ret
          exact ⟨by rw [← HE2.out]; rfl, HB6.out⟩
      · have hlt2' : (m.length : Int) ≤ (i : Int) := by omega
        have HE2 : Hid (cmpS l m = 1) := by show _ = _; rw [← HE.out]; exact cmpS_long hlt (by omega)
        subst hae
        go_wp2_with fail
        go_ret
        exact ⟨by rw [HE2.out]; rfl, HB.out.alloc HB.out.size _⟩
    · have hlt' : ¬ (i : Int) < (l.length : Int) := by omega
      by_cases hlt2 : l.length < m.length
      · have HE2 : Hid (cmpS l m = -1) := by show _ = _; rw [← HE.out]; exact cmpS_short (by omega) (by omega)
        have hlt3 : (l.length : Int) < (m.length : Int) := by omega
        go_wp2_with fail
        go_ret
        exact ⟨by rw [HE2.out]; rfl, HB.out⟩
      · have HE2 : Hid (cmpS l m = 0) := by show _ = _; rw [← HE.out]; exact cmpS_end (by omega) (by omega)
        have hlt3 : ¬ (l.length : Int) < (m.length : Int) := by omega
        go_wp2_with fail
        go_ret
        exact ⟨by rw [HE2.out]; rfl, HB.out⟩
end Go.Proofs.YtfocooehnmpndaaGreat
