/- Own small laws: a slice value that reads as a list of one-cell values. Own small laws, more: rows of the call's own, written in place; what calls leave. Contracts of the library's generic functions over slices of ints: Equal, Delete. Nested data in memory: whole numbers, truth values, strings, slices and structs, read out of cells. Trees, in plain Lean, and how they read. Symbols and rules of grammars, in plain Lean, and how they read. Contracts of the library's generic functions over slices of ints: Clone, Grow of nil, Concat. The contracts of cmp.Compare, cmp.Or, slices.Compare of whole numbers. Grammars, in plain Lean: which are valid. The contracts of gram.Has, gram.Order, gram.Compare and of slices' functions of symbols and rules. The contract of gram.Check. -/
import Derived.WalkKit
import Derived.ProofKit
import Derived.Below
import Derived.Deep.Slices
import Derived.Lib.Hide
import Derived.Deep.RegionLaw
import Derived.Laws.IdiomCopy
import Derived.Deep.QuietTactic
import Derived.BigQuiet
import Derived.Outline
import Derived.Lib.SlicesDelete
import Derived.Lib.SliceRun
import Derived.Laws.AppendOwnNone
import Derived.Lib.AppendZerosOnto
import Derived.Test.YtgcfpbjifjklbaaDoorRows
import Derived.Maps.AppendAt
import Derived.Deep.AppendLies
import Derived.Deep.LoopGhost
import Derived.Deep.Cut
import Derived.Shelf.Abstract
import Derived.Deep.Onto
import Derived.Deep.RegionHeld3
import Derived.Deep.DeepCutAuto
namespace Go.Proofs.YtgcfpbjifjklbaaDoor
open Go.RowKit
def Sl (w : World) (v : Value) (L : List Value) : Prop :=
  ∃ a cap, v = .slice a L.length cap ∧ L.length ≤ cap ∧ cap ≤ maxLen ∧ (a = none → cap = 0) ∧ ∀ i (h : i < L.length), ∃ x, a = some x ∧ w.cell? (x.add i) = some L[i]
theorem Sl.cases {w : World} {v : Value} {L : List Value} (h : Sl w v L) :
    (L = [] ∧ ∃ a cap, v = .slice a 0 cap ∧ cap ≤ maxLen ∧ (a = none → cap = 0)) ∨
    ∃ b off cap, v = .slice (some ⟨b, off, none⟩) L.length cap ∧ 0 < L.length ∧ L.length ≤ cap ∧ cap ≤ maxLen ∧ ∀ i (h : i < L.length), w.cell? ⟨b, off + i, none⟩ = some L[i] := by
  obtain ⟨a, cap, rfl, hl, hc, hn, hx⟩ := h
  rcases Nat.eq_zero_or_pos L.length with h0 | h0
  · left
    obtain rfl := List.eq_nil_of_length_eq_zero h0
    exact ⟨rfl, a, cap, rfl, hc, hn⟩
  · right
    obtain ⟨⟨b, off, spot⟩, rfl, h1⟩ := hx 0 h0
    have hs : spot = none := by simpa [Addr.add] using World.cell?_spot h1
    subst hs
    refine ⟨b, off, cap, rfl, h0, hl, hc, fun i hi => ?_⟩
    obtain ⟨y, hy, h2⟩ := hx i hi
    cases hy
    rw [← h2]
    congr 1
    unfold Addr.add
    by_cases e : i = 0 <;> simp [e]
theorem nameIt {α : Type} (a : α) : ∃ x, Hid (a = x) := ⟨a, rfl⟩
theorem lt_of_cell {w : World} {x : Addr} {v : Value} (h : w.cell? x = some v) : x.block < w.heap.size := by
  unfold World.cell? at h
  split at h
  · rename_i e
    exact (Array.getElem?_eq_some_iff.1 e).1
  · cases h
theorem add_block (x : Addr) (i : Nat) : (x.add i).block = x.block := by
  unfold Addr.add
  by_cases e : i = 0 <;> simp [e]
theorem Sl.keep {w w' : World} {v : Value} {L : List Value} (h : Sl w v L) (hb : Below w.heap.size w w') : Sl w' v L := by
  obtain ⟨a, cap, rfl, hl, hc, hn, hx⟩ := h
  refine ⟨a, cap, rfl, hl, hc, hn, fun i hi => ?_⟩
  obtain ⟨x, rfl, h1⟩ := hx i hi
  exact ⟨x, rfl, by rw [← h1]; exact hb.cell (lt_of_cell h1)⟩
theorem Sl.at {w : World} {a : Option Addr} {n cap : Nat} {L : List Value} (h : Sl w (.slice a n cap) L) {k : Nat} (hk : k < n) :
    ∃ b off, a = some ⟨b, off, none⟩ ∧ ∀ i (h : i < L.length), w.cell? ⟨b, off + i, none⟩ = some L[i] := by
  rcases h.cases with ⟨_, a', c', e, _⟩ | ⟨b, off, c', e, _, _, _, hx⟩
  · cases e; omega
  · cases e; exact ⟨b, off, rfl, hx⟩
theorem Sl.len {w : World} {a : Option Addr} {n cap : Nat} {L : List Value} (h : Sl w (.slice a n cap) L) : n = L.length ∧ n ≤ cap ∧ cap ≤ maxLen := by
  obtain ⟨a', c', e, hl, hc, _, _⟩ := h
  cases e; exact ⟨rfl, hl, hc⟩
theorem Sl.form {w : World} {v : Value} {L : List Value} (h : Sl w v L) : ∃ a cap, v = .slice a L.length cap := by
  obtain ⟨a', c', e, _⟩ := h; exact ⟨a', c', e⟩
theorem sl_of_own {w : World} {B : Nat} {e : TypeId} {v : Value} {n : Nat} {xs : List Value} (h : w.ownsRow B e 1 v n xs) : Sl w v xs := by
  obtain ⟨hl, h⟩ := h
  rw [Nat.mul_one] at hl
  rcases h with ⟨rfl, rfl⟩ | ⟨g, cap, cur, rfl, hg, hh, hn, hc, hs, ht⟩
  · obtain rfl := List.eq_nil_of_length_eq_zero hl
    exact ⟨none, 0, rfl, by simp, by simp, fun _ => rfl, fun i hi => by simp at hi⟩
  · subst hl
    refine ⟨_, cap, rfl, hn, hc, (fun h => by cases h), fun i hi => ⟨_, rfl, ?_⟩⟩
    have : (⟨g, 0, none⟩ : Addr).add i = ⟨g, i, none⟩ := by unfold Addr.add; by_cases e : i = 0 <;> simp [e]
    rw [this]
    simp only [World.cell?, hh]
    rw [Nat.mul_one] at ht
    have h2 : xs[i]? = cur[i]? := by
      conv => lhs; rw [← ht]
      rw [List.getElem?_take, if_pos hi]; simp
    rw [List.getElem?_eq_getElem hi] at h2
    simpa using h2.symm
structure ElemT (P : Program) (t e : TypeId) (size bytes : Nat) : Prop where
  und : P.underlying t = some (.slice e)
  info : ∃ (i : TypeInfo) (z : Value), P.info? e = some i ∧ i.zero = some z ∧ i.size = size ∧ i.bytes = bytes ∧ z.cells.size = size
  pos : 0 < size
theorem ElemT.mk' {P : Program} {t e : TypeId} {size bytes : Nat} {z : Value} (h : P.underlying t = some (.slice e)) (hi : (P.info? e).map (fun i => (i.zero, i.size, i.bytes)) = some (some z, size, bytes)) (hz : z.cells.size = size) (hp : 0 < size) : ElemT P t e size bytes := by
  obtain ⟨i, h1, h2, h3, h4⟩ := info_parts hi
  exact ⟨h, ⟨i, z, h1, h2, h3, h4, hz⟩, hp⟩
section
open Go.ChangeShapes Go.WideShapes Go.Deep
variable {H : Type} {enc : TypeId × Value → H} {P : Program} {w : World}
end
end Go.Proofs.YtgcfpbjifjklbaaDoor
namespace Go.Proofs.YtgcfpbjifjklbaaDoor
open Go.RowKit
theorem own_keep {w w' : World} {B : Nat} {e : TypeId} {s : Nat} {v : Value} {n : Nat} {xs : List Value} (h : w.ownsRow B e s v n xs) (hb : Below w.heap.size w w') : w'.ownsRow B e s v n xs := by
  obtain ⟨h1, h2⟩ := h
  refine ⟨h1, ?_⟩
  rcases h2 with h2 | ⟨g, cap, cur, rfl, hg, hh, r⟩
  · exact .inl h2
  · refine .inr ⟨g, cap, cur, rfl, hg, ?_, r⟩
    rw [hb.block g (Array.getElem?_eq_some_iff.1 hh).1]; exact hh
theorem grown_below {w w' : World} (hb : Below w.heap.size w w') (row : Option Nat) : w.grownBy w' row := ⟨hb.os, hb.tape, hb.output, hb.size, fun k hk _ => hb.block k hk⟩
theorem grown_trans {a b c : World} {row : Option Nat} (h : a.grownBy b row) (k : b.grownBy c row) : a.grownBy c row :=
  ⟨k.os.trans h.os, k.tape.trans h.tape, k.output.trans h.output, Nat.le_trans h.size k.size, fun i hi hn => (k.block i (Nat.lt_of_lt_of_le hi h.size) hn).trans (h.block i hi hn)⟩
theorem below_drewN (w : World) (n : Nat) : Below w.heap.size w (w.drewN n) := ⟨rfl, rfl, rfl, Nat.le_refl _, fun _ _ => rfl⟩
theorem grown_cell (w : World) (a : Addr) (v : Value) : w.grownBy (w.setCell a v) (some a.block) := ⟨rfl, rfl, rfl, by simp [World.setCell], fun k _ hn => Below.heap_setCell _ _ _ _ (fun e => hn (by rw [e]))⟩
theorem Sl.start {w : World} {a : Option Addr} {n cap : Nat} {L : List Value} (h : Sl w (.slice a n cap) L) {j : Nat} (hj : j ≤ n) : Sl w (.slice a j cap) (L.take j) := by
  obtain ⟨a', cap', e, hl, hcm, hn, hx⟩ := h
  cases e
  refine ⟨a, cap, by simp [Nat.min_eq_left hj], by simp; omega, hcm, hn, fun k hk => ?_⟩
  simp at hk
  obtain ⟨x, rfl, h1⟩ := hx k (by omega)
  exact ⟨x, rfl, by rw [h1]; simp⟩
theorem own_len {w : World} {B : Nat} {e : TypeId} {s : Nat} {v : Value} {n : Nat} {xs : List Value} (h : w.ownsRow B e s v n xs) : ∃ a cap, v = .slice a n cap ∧ n ≤ cap ∧ cap ≤ maxLen := by
  rcases h.2 with ⟨rfl, rfl⟩ | ⟨g, cap, cur, rfl, _, _, h1, h2, _⟩
  · exact ⟨_, _, rfl, by simp, by simp⟩
  · exact ⟨_, _, rfl, h1, h2⟩
theorem wp_appS {P : Program} {ops : Array Oper} {rest : List Oper} {o : Oper} {a : Act} {Q : Exit → Act → World → Prop} {w : World} {t e : TypeId} {bytes : Nat} (E : ElemT P t e 1 bytes)
    (hgd : o.guard = none) (s x : Operand) (ho : o.op = .call { callee := .builtin .append, args := #[s, x], argTypes := #[t, t] })
    {B : Nat} {v u : Value} {n : Nat} {xs L : List Value} (hown : w.ownsRow B e 1 v n xs) (hs : a.eval s = v) (hsl : Sl w u L) (hx : a.eval x = u)
    (h1 : ∀ z ∈ L, z.oneCell' = true) (hb : (n + L.length) * bytes ≤ 140737488355328) (hm : n + L.length ≤ maxLen) (hB : B ≤ w.heap.size)
    (h : ∀ v' w', w'.ownsRow B e 1 v' (n + L.length) (xs ++ L) → w.grownBy w' v.ownBlock → wpList P ops Q rest (a.put o.dst v') w') :
    wpList P ops Q (o :: rest) a w := by
  obtain ⟨hu, ⟨i, z, hi, hz, hsz, hby, hzs⟩, hp⟩ := E
  obtain ⟨a', cap, rfl, hl, hc, hn, hcell⟩ := hsl
  cases a' with
  | none =>
    obtain rfl : cap = 0 := hn rfl
    have hL : L = [] := List.eq_nil_of_length_eq_zero (by omega)
    subst hL
    refine wpList_append_own_none hgd s x t ho B e i 1 hu hi v n xs hs hown hx (h v w (by simpa using hown) ?_)
    exact ⟨rfl, rfl, rfl, Nat.le_refl _, fun _ _ _ => rfl⟩
  | some ad =>
    refine wpList_append_own w hgd s x t ho B e i z 1 bytes hu hi hz hsz hby hzs hp v n xs hs hown ad L.length cap L hx (by simp) ?_ h1 hm hb hB fun v' w' h2 h3 _ => h v' w' h2 h3
    intro j y hj
    obtain ⟨hj1, hj2⟩ := List.getElem?_eq_some_iff.1 hj
    obtain ⟨y', hy, h2⟩ := hcell j hj1
    cases hy
    rw [h2, hj2]
theorem bx_keep {w w' : World} {b : Nat} {o : Obj} (h : w.heap[b]? = some o) (hb : Below w.heap.size w w') : w'.heap[b]? = some o := by
  rw [hb.block b (Array.getElem?_eq_some_iff.1 h).1]; exact h
theorem bx_cells3 {w : World} {b : Nat} {x0 x1 x2 : Value} {T : TypeId} (h : w.heap[b]? = some (.cells #[x0, x1, x2] T (0, 0))) :
    w.cell? ⟨b, 0, none⟩ = some x0 ∧ w.cell? ⟨b, 0 + 1, none⟩ = some x1 ∧ w.cell? ⟨b, 0 + 2, none⟩ = some x2 := by
  refine ⟨?_, ?_, ?_⟩ <;> simp [World.cell?, h]
theorem bx_free3 {w : World} {b : Nat} {x0 x1 x2 : Value} {T : TypeId} (h : w.heap[b]? = some (.cells #[x0, x1, x2] T (0, 0))) :
    w.frozen? ⟨b, 0, none⟩ = false ∧ w.frozen? ⟨b, 0 + 1, none⟩ = false ∧ w.frozen? ⟨b, 0 + 2, none⟩ = false := by
  refine ⟨?_, ?_, ?_⟩ <;> simp [World.frozen?, h]
theorem bx_cells2 {w : World} {b : Nat} {x0 x1 : Value} {T : TypeId} (h : w.heap[b]? = some (.cells #[x0, x1] T (0, 0))) :
    w.cell? ⟨b, 0, none⟩ = some x0 ∧ w.cell? ⟨b, 0 + 1, none⟩ = some x1 := by
  refine ⟨?_, ?_⟩ <;> simp [World.cell?, h]
theorem bx_free2 {w : World} {b : Nat} {x0 x1 : Value} {T : TypeId} (h : w.heap[b]? = some (.cells #[x0, x1] T (0, 0))) :
    w.frozen? ⟨b, 0, none⟩ = false ∧ w.frozen? ⟨b, 0 + 1, none⟩ = false := by
  refine ⟨?_, ?_⟩ <;> simp [World.frozen?, h]
theorem bx_cells1 {w : World} {b : Nat} {x0 : Value} {T : TypeId} (h : w.heap[b]? = some (.cells #[x0] T (0, 0))) : w.cell? ⟨b, 0, none⟩ = some x0 := by
  simp [World.cell?, h]
theorem bx_free1 {w : World} {b : Nat} {x0 : Value} {T : TypeId} (h : w.heap[b]? = some (.cells #[x0] T (0, 0))) : w.frozen? ⟨b, 0, none⟩ = false := by
  simp [World.frozen?, h]
theorem bx_cells4 {w : World} {b : Nat} {x0 x1 x2 x3 : Value} {T : TypeId} (h : w.heap[b]? = some (.cells #[x0, x1, x2, x3] T (0, 0))) :
    w.cell? ⟨b, 0, none⟩ = some x0 ∧ w.cell? ⟨b, 0 + 1, none⟩ = some x1 ∧ w.cell? ⟨b, 0 + 2, none⟩ = some x2 ∧ w.cell? ⟨b, 0 + 3, none⟩ = some x3 := by
  refine ⟨?_, ?_, ?_, ?_⟩ <;> simp [World.cell?, h]
theorem bx_set {w : World} {b : Nat} {cs : Array Value} {T : TypeId} (h : w.heap[b]? = some (.cells cs T (0, 0))) (j : Nat) (v : Value) : (w.setCell ⟨b, j, none⟩ v).heap[b]? = some (.cells (cs.setIfInBounds j v) T (0, 0)) := by
  simp [World.setCell, Array.getElem?_modify, h]
theorem bx_other {w : World} {b c : Nat} {o : Obj} (h : w.heap[b]? = some o) (hne : b ≠ c) (j : Nat) (v : Value) : (w.setCell ⟨c, j, none⟩ v).heap[b]? = some o := by
  rw [Below.heap_setCell _ _ _ _ hne]; exact h
theorem bx_new (w : World) (o : Obj) (g : Nat) (hg : g = w.heap.size) : (w.alloc o).heap[g]? = some o := by subst hg; exact heap_alloc_new w o
end Go.Proofs.YtgcfpbjifjklbaaDoor
namespace Go.Proofs.YtgcfpbjifjklbaaDoor
open Go.RowKit
def ints (l : List Int) : List Value := l.map (Value.int .i64)
theorem ints_len (l : List Int) : (ints l).length = l.length := by simp [ints]
theorem ints_get (l : List Int) (i : Nat) (h : i < (ints l).length) : (ints l)[i] = .int .i64 (l[i]'(by simpa [ints] using h)) := by simp [ints]
theorem elInt : ElemT Tryd.prog 37 3 1 8 := ElemT.mk' (z := .int .i64 0) Tryd.underlying37 (by kernel_rfl) rfl (by decide)
end Go.Proofs.YtgcfpbjifjklbaaDoor
namespace Go.Proofs.YtgcfpbjifjklbaaDoor
open Go.RowKit
inductive D where
  | int (n : Int)
  | bool (b : Bool)
  | str (s : ByteArray)
  | sl (l : List D)
  | agg (l : List D)
mutual
def Rd (S : Nat → Prop) (w : World) : D → List Value → Prop
  | .int n, cs => cs = [.int .i64 n]
  | .bool b, cs => cs = [.bool b]
  | .str s, cs => cs = [.string s]
  | .sl ds, cs => ∃ a cap L, cs = [.slice a ds.length cap] ∧ ds.length ≤ cap ∧ cap ≤ maxLen ∧ (a = none → cap = 0) ∧ (∀ i (h : i < L.length), ∃ x, a = some x ∧ S x.block ∧ w.cell? (x.add i) = some L[i]) ∧ RdAll S w ds L
  | .agg ds, cs => RdAll S w ds cs
def RdAll (S : Nat → Prop) (w : World) : List D → List Value → Prop
  | [], cs => cs = []
  | d :: ds, cs => ∃ c1 c2, cs = c1 ++ c2 ∧ Rd S w d c1 ∧ RdAll S w ds c2
end
mutual
def D.cells : D → Nat
  | .int _ => 1
  | .bool _ => 1
  | .str _ => 1
  | .sl _ => 1
  | .agg l => D.cellsAll l
def D.cellsAll : List D → Nat
  | [] => 0
  | d :: l => D.cells d + D.cellsAll l
end
def AnyB : Nat → Prop := fun _ => True
mutual
theorem Rd.len {S : Nat → Prop} {w : World} : ∀ (d : D) (cs : List Value), Rd S w d cs → cs.length = d.cells
  | .int n, cs, h => by simp [Rd] at h; simp [h, D.cells]
  | .bool n, cs, h => by simp [Rd] at h; simp [h, D.cells]
  | .str n, cs, h => by simp [Rd] at h; simp [h, D.cells]
  | .sl ds, cs, h => by obtain ⟨a, cap, L, rfl, _⟩ := h; simp [D.cells]
  | .agg ds, cs, h => by rw [D.cells]; exact RdAll.len ds cs h
theorem RdAll.len {S : Nat → Prop} {w : World} : ∀ (ds : List D) (cs : List Value), RdAll S w ds cs → cs.length = D.cellsAll ds
  | [], cs, h => by simp [RdAll] at h; simp [h, D.cellsAll]
  | d :: ds, cs, h => by
    obtain ⟨c1, c2, rfl, h1, h2⟩ := h
    simp [D.cellsAll, Rd.len d c1 h1, RdAll.len ds c2 h2]
end
mutual
theorem Rd.keep {S S' : Nat → Prop} {w w' : World} (hS : ∀ k, S k → k < w.heap.size → S' k ∧ w'.heap[k]? = w.heap[k]?) : ∀ (d : D) (cs : List Value), Rd S w d cs → Rd S' w' d cs
  | .int n, cs, h => h
  | .bool n, cs, h => h
  | .str n, cs, h => h
  | .sl ds, cs, h => by
    obtain ⟨a, cap, L, rfl, h1, h2, h3, h4, h5⟩ := h
    refine ⟨a, cap, L, rfl, h1, h2, h3, fun i hi => ?_, RdAll.keep hS ds L h5⟩
    obtain ⟨x, rfl, hx, hc⟩ := h4 i hi
    have hlt := lt_of_cell hc
    rw [add_block] at hlt
    obtain ⟨k1, k2⟩ := hS _ hx hlt
    refine ⟨x, rfl, k1, ?_⟩
    rw [← hc]
    exact World.cell?_of_block (w := w) (by rw [add_block]; exact k2)
  | .agg ds, cs, h => RdAll.keep hS ds cs h
theorem RdAll.keep {S S' : Nat → Prop} {w w' : World} (hS : ∀ k, S k → k < w.heap.size → S' k ∧ w'.heap[k]? = w.heap[k]?) : ∀ (ds : List D) (cs : List Value), RdAll S w ds cs → RdAll S' w' ds cs
  | [], cs, h => h
  | d :: ds, cs, h => by
    obtain ⟨c1, c2, rfl, h1, h2⟩ := h
    exact ⟨c1, c2, rfl, Rd.keep hS d c1 h1, RdAll.keep hS ds c2 h2⟩
end
theorem Rd.below {S : Nat → Prop} {w w' : World} {d : D} {cs : List Value} (h : Rd S w d cs) (hb : Below w.heap.size w w') : Rd S w' d cs :=
  Rd.keep (fun k hk hlt => ⟨hk, hb.block k hlt⟩) d cs h
theorem RdAll.below {S : Nat → Prop} {w w' : World} {d : List D} {cs : List Value} (h : RdAll S w d cs) (hb : Below w.heap.size w w') : RdAll S w' d cs :=
  RdAll.keep (fun k hk hlt => ⟨hk, hb.block k hlt⟩) d cs h
theorem Rd.mono {S S' : Nat → Prop} {w : World} {d : D} {cs : List Value} (h : Rd S w d cs) (hs : ∀ k, S k → k < w.heap.size → S' k) : Rd S' w d cs :=
  Rd.keep (fun k hk hlt => ⟨hs k hk hlt, rfl⟩) d cs h
theorem RdAll.mono {S S' : Nat → Prop} {w : World} {d : List D} {cs : List Value} (h : RdAll S w d cs) (hs : ∀ k, S k → k < w.heap.size → S' k) : RdAll S' w d cs :=
  RdAll.keep (fun k hk hlt => ⟨hs k hk hlt, rfl⟩) d cs h
theorem Rd.any {S : Nat → Prop} {w : World} {d : D} {cs : List Value} (h : Rd S w d cs) : Rd AnyB w d cs := h.mono fun _ _ _ => trivial
theorem RdAll.any {S : Nat → Prop} {w : World} {d : List D} {cs : List Value} (h : RdAll S w d cs) : RdAll AnyB w d cs := h.mono fun _ _ _ => trivial
theorem RdAll.append {S : Nat → Prop} {w : World} : ∀ {ds es : List D} {c1 c2 : List Value}, RdAll S w ds c1 → RdAll S w es c2 → RdAll S w (ds ++ es) (c1 ++ c2)
  | [], es, c1, c2, h, k => by simp [RdAll] at h; subst h; simpa using k
  | d :: ds, es, c1, c2, h, k => by
    obtain ⟨a, b, rfl, h1, h2⟩ := h
    exact ⟨a, b ++ c2, by simp, h1, RdAll.append h2 k⟩
theorem RdAll.split {S : Nat → Prop} {w : World} : ∀ {ds es : List D} {c : List Value}, RdAll S w (ds ++ es) c → ∃ c1 c2, c = c1 ++ c2 ∧ RdAll S w ds c1 ∧ RdAll S w es c2
  | [], es, c, h => ⟨[], c, rfl, by simp [RdAll], h⟩
  | d :: ds, es, c, h => by
    obtain ⟨a, b, rfl, h1, h2⟩ := h
    obtain ⟨c1, c2, rfl, h3, h4⟩ := RdAll.split h2
    exact ⟨a ++ c1, c2, by simp, ⟨a, c1, rfl, h1, h3⟩, h4⟩
theorem RdAll.one {S : Nat → Prop} {w : World} {d : D} {c : List Value} (h : Rd S w d c) : RdAll S w [d] c := ⟨c, [], by simp, h, by simp [RdAll]⟩
theorem RdAll.one_iff {S : Nat → Prop} {w : World} {d : D} {c : List Value} : RdAll S w [d] c ↔ Rd S w d c := by
  constructor
  · rintro ⟨c1, c2, rfl, h, h2⟩
    simp [RdAll] at h2
    subst h2
    simpa using h
  · exact RdAll.one
theorem cellsAll_eq {k : Nat} : ∀ {ds : List D}, (∀ d ∈ ds, d.cells = k) → D.cellsAll ds = ds.length * k
  | [], _ => by simp [D.cellsAll]
  | d :: ds, h => by
    rw [D.cellsAll, h d List.mem_cons_self, cellsAll_eq fun x hx => h x (List.mem_cons_of_mem _ hx)]
    simp [Nat.add_mul]; omega
theorem RdAll.get {S : Nat → Prop} {w : World} {k : Nat} : ∀ {ds : List D} {L : List Value}, RdAll S w ds L → (∀ d ∈ ds, d.cells = k) → ∀ i (hi : i < ds.length), Rd S w ds[i] ((L.drop (i * k)).take k)
  | [], L, h, hk, i, hi => by simp at hi
  | d :: ds, L, h, hk, i, hi => by
    obtain ⟨c1, c2, rfl, h1, h2⟩ := h
    have hl : c1.length = k := by rw [Rd.len d c1 h1]; exact hk d List.mem_cons_self
    cases i with
    | zero => simpa [List.take_left' hl] using h1
    | succ i =>
      have := RdAll.get h2 (fun x hx => hk x (List.mem_cons_of_mem _ hx)) i (by simpa using hi)
      rw [show (i + 1) * k = c1.length + i * k by rw [hl, Nat.add_mul]; omega]
      have e : (c1 ++ c2).drop (c1.length + i * k) = c2.drop (i * k) := by rw [← List.drop_drop]; simp
      rw [e]
      simpa using this
theorem add_at (b off n : Nat) : (⟨b, off, none⟩ : Addr).add n = ⟨b, off + n, none⟩ := by unfold Addr.add; by_cases e : n = 0 <;> simp [e]
theorem Rd.form {S : Nat → Prop} {w : World} {ds : List D} {v : Value} (h : Rd S w (.sl ds) [v]) : ∃ a cap, v = .slice a ds.length cap ∧ ds.length ≤ cap ∧ cap ≤ maxLen := by
  obtain ⟨a, cap, L, e, h1, h2, _⟩ := h
  simp at e
  exact ⟨a, cap, e, h1, h2⟩
theorem Rd.bounds {S : Nat → Prop} {w : World} {ds : List D} {a : Option Addr} {n cap : Nat} (h : Rd S w (.sl ds) [.slice a n cap]) : n = ds.length ∧ n ≤ cap ∧ cap ≤ maxLen := by
  obtain ⟨a, cap, e, h1, h2⟩ := h.form
  cases e
  exact ⟨rfl, h1, h2⟩
theorem Rd.at {S : Nat → Prop} {w : World} {ds : List D} {a : Option Addr} {n cap k : Nat} (h : Rd S w (.sl ds) [.slice a n cap]) (hk : ∀ d ∈ ds, d.cells = k) (hp : 0 < k) {i : Nat} (hi : i < ds.length) :
    ∃ b off cs, a = some ⟨b, off, none⟩ ∧ S b ∧ b < w.heap.size ∧ Rd S w ds[i] cs ∧ cs.length = k ∧ ∀ j (h : j < cs.length), w.cell? ⟨b, off + (i * k + j), none⟩ = some cs[j] := by
  obtain ⟨a', cap', L, e, h1, h2, h3, h4, h5⟩ := h
  simp at e
  obtain ⟨rfl, rfl, rfl⟩ := e
  have hL : L.length = ds.length * k := by rw [RdAll.len ds L h5, cellsAll_eq hk]
  have hpos : 0 < L.length := by rw [hL]; exact Nat.mul_pos (by omega) hp
  obtain ⟨⟨b, off, spot⟩, rfl, hS, hc⟩ := h4 0 hpos
  have hs : spot = none := by simpa [Addr.add] using World.cell?_spot hc
  subst hs
  have hlt := lt_of_cell hc
  rw [add_block] at hlt
  have hik : (i + 1) * k ≤ ds.length * k := Nat.mul_le_mul_right _ hi
  rw [Nat.add_mul, Nat.one_mul] at hik
  refine ⟨b, off, (L.drop (i * k)).take k, rfl, hS, hlt, RdAll.get h5 hk i hi, by simp; omega, fun j hj => ?_⟩
  simp at hj
  obtain ⟨y, hy, _, h6⟩ := h4 (i * k + j) (by omega)
  cases hy
  rw [add_at] at h6
  rw [h6]
  simp
theorem rd_of_own {S : Nat → Prop} {w : World} {B : Nat} {e : TypeId} {size : Nat} {v : Value} {n : Nat} {xs : List Value} {ds : List D} (h : w.ownsRow B e size v n xs) (hd : RdAll S w ds xs) (hn : ds.length = n) (hS : ∀ k, v.ownBlock = some k → S k) : Rd S w (.sl ds) [v] := by
  have hcell := fun {g : Nat} (hg : v.ownBlock = some g) => h.cells hg
  obtain ⟨hl, h⟩ := h
  subst hn
  rcases h with ⟨rfl, h0⟩ | ⟨g, cap, cur, rfl, hg, hh, hn, hc, hs, ht⟩
  · have : xs = [] := List.eq_nil_of_length_eq_zero (by rw [hl, h0]; simp)
    subst this
    exact ⟨none, 0, [], by rw [h0], by omega, by simp [maxLen], fun _ => rfl, fun i hi => by simp at hi, hd⟩
  · refine ⟨_, cap, xs, rfl, hn, hc, (fun h => by cases h), fun i hi => ⟨_, rfl, hS g rfl, ?_⟩, hd⟩
    exact hcell rfl i _ (List.getElem?_eq_getElem hi)
theorem own_step {S : Nat → Prop} {w w3 : World} {v v' : Value} {ds es : List D} {xs news : List Value}
    (h1 : RdAll (fun k => S k ∧ v.ownBlock ≠ some k) w ds xs) (h2 : RdAll (fun k => S k ∧ v.ownBlock ≠ some k) w es news)
    (hg : w.grownBy w3 v.ownBlock) (hat : v'.ownBlock = v.ownBlock ∨ ∃ k, v'.ownBlock = some k ∧ w.heap.size ≤ k) : RdAll (fun k => S k ∧ v'.ownBlock ≠ some k) w3 (ds ++ es) (xs ++ news) := by
  have hS : ∀ k, (S k ∧ v.ownBlock ≠ some k) → k < w.heap.size → (S k ∧ v'.ownBlock ≠ some k) ∧ w3.heap[k]? = w.heap[k]? := by
    intro k hk hlt
    refine ⟨⟨hk.1, ?_⟩, hg.block k hlt (fun e => hk.2 e.symm)⟩
    rcases hat with e | ⟨j, e, hj⟩
    · rw [e]; exact hk.2
    · rw [e]; intro h; cases h; omega
  exact RdAll.append (RdAll.keep hS ds xs h1) (RdAll.keep hS es news h2)
theorem wp_app1at {P : Program} {ops : Array Oper} {rest : List Oper} {o : Oper} {a : Act} {Q : Exit → Act → World → Prop} {w0 : World} {t e : TypeId} {size bytes : Nat} (E : ElemT P t e size bytes)
    (hgd : o.guard = none) (s x : Operand) (ho : o.op = .call { callee := .builtin .append, args := #[s, x], argTypes := #[t, t] })
    {B : Nat} {v : Value} {n : Nat} {xs : List Value} {news : Array Value} (hown : w0.ownsRow B e size v n xs) (hs : a.eval s = v) {g0 : Nat} (hx : a.eval x = .slice (some ⟨g0, 0, none⟩) 1 1) (hg0 : g0 = w0.heap.size)
    (hn : news.size = size) (h1 : news.toList.all Value.oneCell' = true) (hb : (n + 1) * bytes ≤ 140737488355328) (hm : n + 1 ≤ maxLen) (hB : B ≤ w0.heap.size)
    (h : ∀ v' w', w'.ownsRow B e size v' (n + 1) (xs ++ news.toList) → w0.grownBy w' v.ownBlock → (v'.ownBlock = v.ownBlock ∨ ∃ k, v'.ownBlock = some k ∧ w0.heap.size ≤ k) → wpList P ops Q rest (a.put o.dst v') w') :
    wpList P ops Q (o :: rest) a (w0.alloc (.cells news e)) := by
  subst hg0
  obtain ⟨hu, ⟨i, z, hi, hz, hsz, hby, hzs⟩, hp⟩ := E
  refine wpList_append_own_at (w0.alloc (.cells news e)) hgd s x t ho B e i z size bytes hu hi hz hsz hby hzs hp v n xs hs (hown.alloc _) ⟨w0.heap.size, 0, none⟩ 1 1 news.toList hx (by simp [hn]) ?_ (List.all_eq_true.1 h1) hm hb (by simp; omega) ?_
  · intro j u hj
    have : (⟨w0.heap.size, 0, none⟩ : Addr).add j = ⟨w0.heap.size, j, none⟩ := by unfold Addr.add; by_cases e : j = 0 <;> simp [e]
    rw [this]
    have hh : (w0.alloc (.cells news e)).heap[w0.heap.size]? = some (.cells news e (0, 0)) := heap_alloc_new w0 _
    simp only [World.cell?, hh]
    simpa using hj
  · intro v' w' h2 h3 _ h5
    refine h v' w' h2 ?_ ?_
    · have h4 := World.grownBy_alloc w0 (.cells news e) v.ownBlock
      exact ⟨h3.os.trans h4.os, h3.tape.trans h4.tape, h3.output.trans h4.output, Nat.le_trans h4.size h3.size, fun k hk hne => (h3.block k (Nat.lt_of_lt_of_le hk h4.size) hne).trans (h4.block k hk hne)⟩
    · rcases h5 with h5 | h5
      · exact .inl h5
      · exact .inr ⟨_, h5, by simp⟩
theorem rdAll_ints {S : Nat → Prop} {w : World} : ∀ (l : List Int) (cs : List Value), RdAll S w (l.map .int) cs ↔ cs = ints l
  | [], cs => by simp [RdAll, ints]
  | x :: l, cs => by
    simp only [List.map_cons, RdAll, Rd]
    constructor
    · rintro ⟨c1, c2, rfl, rfl, h⟩
      rw [rdAll_ints] at h
      simp [h, ints]
    · rintro rfl
      exact ⟨[.int .i64 x], ints l, by simp [ints], rfl, (rdAll_ints l _).2 rfl⟩
def D.ints (l : List Int) : D := .sl (l.map .int)
theorem sl_rd {S : Nat → Prop} {w : World} {v : Value} {l : List Int} (h : Rd S w (D.ints l) [v]) : Sl w v (ints l) := by
  obtain ⟨a, cap, L, e, h1, h2, h3, h4, h5⟩ := h
  rw [rdAll_ints] at h5
  subst h5
  simp at e h1
  subst e
  refine ⟨a, cap, by simp [ints], by simpa [ints] using h1, h2, h3, fun i hi => ?_⟩
  obtain ⟨x, e, _, h5⟩ := h4 i hi
  exact ⟨x, e, h5⟩
end Go.Proofs.YtgcfpbjifjklbaaDoor
namespace Go.Proofs.YtgcfpbjifjklbaaDoor
open Go.RowKit
inductive Tree where
  | node (rule term : Int) (kids : List Tree)
def Tree.rule : Tree → Int | .node r _ _ => r
def Tree.term : Tree → Int | .node _ t _ => t
def Tree.kids : Tree → List Tree | .node _ _ k => k
def kidsOf (t : Tree) : List Tree := if t.rule = -1 then [] else t.kids
mutual
def Tree.d : Tree → D
  | .node r t ks => .agg [.int r, .int t, .sl (Tree.dL ks)]
def Tree.dL : List Tree → List D
  | [] => []
  | k :: ks => Tree.d k :: Tree.dL ks
end
theorem dL_map : ∀ ks : List Tree, Tree.dL ks = ks.map Tree.d
  | [] => rfl
  | k :: ks => by simp [Tree.dL, dL_map ks]
theorem Tree.d_eq (t : Tree) : t.d = .agg [.int t.rule, .int t.term, .sl (t.kids.map Tree.d)] := by
  cases t; simp [Tree.d, dL_map, Tree.rule, Tree.term, Tree.kids]
theorem Tree.d_cells (t : Tree) : t.d.cells = 3 := by rw [Tree.d_eq]; simp [D.cells, D.cellsAll]
theorem trees_cells (ts : List Tree) : ∀ d ∈ ts.map Tree.d, d.cells = 3 := by
  intro d hd
  simp at hd
  obtain ⟨t, _, rfl⟩ := hd
  exact t.d_cells
mutual
def nodes : Tree → List Tree
  | .node r t ks => .node r t ks :: (if r = -1 then [] else nodesL ks)
def nodesL : List Tree → List Tree
  | [] => []
  | k :: ks => nodes k ++ nodesL ks
end
theorem nodes_eq (t : Tree) : nodes t = t :: nodesL (kidsOf t) := by
  cases t with
  | node r t ks =>
    rw [nodes]
    by_cases h : r = -1 <;> simp [kidsOf, Tree.rule, Tree.kids, h, nodesL]
theorem nodesL_append : ∀ (a b : List Tree), nodesL (a ++ b) = nodesL a ++ nodesL b
  | [], b => by simp [nodesL]
  | x :: a, b => by simp [nodesL, nodesL_append a b]
theorem nodesL_take {ks : List Tree} {i : Nat} (h : i < ks.length) : nodesL (ks.take (i + 1)) = nodesL (ks.take i) ++ nodes ks[i] := by
  rw [List.take_succ_eq_append_getElem h, nodesL_append]; simp [nodesL]
theorem nodes_pos (t : Tree) : 0 < (nodes t).length := by rw [nodes_eq]; simp
theorem nodesL_take_le (ks : List Tree) (i : Nat) : (nodesL (ks.take i)).length ≤ (nodesL ks).length := by
  conv => rhs; rw [← List.take_append_drop i ks, nodesL_append]
  simp
theorem nodesL_kid {ks : List Tree} {i : Nat} (h : i < ks.length) : (nodesL (ks.take i)).length + (nodes ks[i]).length ≤ (nodesL ks).length := by
  have := nodesL_take_le ks (i + 1)
  rw [nodesL_take h] at this
  simpa using this
theorem nodesL_split {ks : List Tree} {i : Nat} (h : i < ks.length) : nodesL ks = nodesL (ks.take i) ++ (nodes ks[i] ++ nodesL (ks.drop (i + 1))) := by
  conv => lhs; rw [← List.take_append_drop i ks, nodesL_append, List.drop_eq_getElem_cons h, nodesL]
def upTo (p : Tree → Bool) : List Tree → List Tree
  | [] => []
  | x :: l => if p x then x :: upTo p l else [x]
theorem upTo_all {p : Tree → Bool} : ∀ {l : List Tree}, l.all p = true → upTo p l = l
  | [], _ => rfl
  | x :: l, h => by
    simp at h
    rw [upTo, if_pos h.1, upTo_all (by simpa using h.2)]
theorem upTo_append {p : Tree → Bool} : ∀ {l m : List Tree}, l.all p = true → upTo p (l ++ m) = l ++ upTo p m
  | [], _, _ => rfl
  | x :: l, m, h => by
    simp at h
    rw [List.cons_append, upTo, if_pos h.1, upTo_append (by simpa using h.2), List.cons_append]
theorem upTo_stop {p : Tree → Bool} : ∀ {l m : List Tree}, l.all p = false → upTo p (l ++ m) = upTo p l
  | [], _, h => by simp at h
  | x :: l, m, h => by
    rw [List.cons_append, upTo, upTo]
    by_cases hx : p x = true
    · rw [if_pos hx, if_pos hx, upTo_stop (by simpa [hx] using h)]
    · rw [if_neg hx, if_neg hx]
structure Keeps (S : Nat → Prop) (w w' : World) : Prop where
  os : w'.os = w.os
  tape : w'.tape = w.tape
  output : w'.output = w.output
  size : w.heap.size ≤ w'.heap.size
  block : ∀ k, k < w.heap.size → ¬ S k → w'.heap[k]? = w.heap[k]?
theorem Keeps.below {S : Nat → Prop} {w w' : World} {B : Nat} (h : Keeps S w w') (hS : ∀ k, S k → B ≤ k) (hB : B ≤ w.heap.size) : Below B w w' :=
  ⟨h.os, h.tape, h.output, h.size, fun k hk => h.block k (by omega) (fun hs => by have := hS k hs; omega)⟩
theorem Below.keeps {S : Nat → Prop} {w w' : World} (h : Below w.heap.size w w') : Keeps S w w' := ⟨h.os, h.tape, h.output, h.size, fun k hk _ => h.block k hk⟩
theorem Keeps.trans {S S' : Nat → Prop} {a b c : World} (h : Keeps S a b) (k : Keeps S' b c) (hs : ∀ k, S' k → S k ∨ a.heap.size ≤ k) : Keeps S a c :=
  ⟨k.os.trans h.os, k.tape.trans h.tape, k.output.trans h.output, Nat.le_trans h.size k.size, fun i hi hn => (k.block i (Nat.lt_of_lt_of_le hi h.size) (fun e => (hs i e).elim (fun e => hn e) (fun e => by omega))).trans (h.block i hi hn)⟩
theorem Keeps.cells {S : Nat → Prop} {w w' : World} (h : Keeps S w w') {b : Nat} {o : Obj} (hb : w.heap[b]? = some o) (hS : ¬ S b) : w'.heap[b]? = some o := by
  rw [h.block b (Array.getElem?_eq_some_iff.1 hb).1 hS]; exact hb
theorem Rd.tree {S : Nat → Prop} {w : World} {t : Tree} {cs : List Value} (h : Rd S w t.d cs) : ∃ v, cs = [.int .i64 t.rule, .int .i64 t.term, v] ∧ Rd S w (.sl (t.kids.map Tree.d)) [v] := by
  rw [Tree.d_eq] at h
  obtain ⟨c1, c2, rfl, h1, c3, c4, rfl, h2, h3⟩ := h
  rw [RdAll.one_iff] at h3
  simp [Rd] at h1 h2
  subst h1 h2
  have h4 := h3
  obtain ⟨a, cap, L, e, _⟩ := h3
  subst e
  exact ⟨_, rfl, h4⟩
theorem rd_tree {S : Nat → Prop} {w : World} {t : Tree} {v : Value} (h : Rd S w (.sl (t.kids.map Tree.d)) [v]) : Rd S w t.d [.int .i64 t.rule, .int .i64 t.term, v] := by
  rw [Tree.d_eq]
  exact ⟨[.int .i64 t.rule], [.int .i64 t.term, v], rfl, rfl, [.int .i64 t.term], [v], rfl, rfl, RdAll.one h⟩
theorem Rd.kid {S : Nat → Prop} {w : World} {ks : List Tree} {a : Option Addr} {n cap i : Nat} (h : Rd S w (.sl (ks.map Tree.d)) [.slice a n cap]) (hi : i < ks.length) :
    ∃ b off v, a = some ⟨b, off, none⟩ ∧ S b ∧ b < w.heap.size ∧ w.cell? ⟨b, off + i * 3, none⟩ = some (.int .i64 ks[i].rule) ∧ w.cell? ⟨b, off + i * 3 + 1, none⟩ = some (.int .i64 ks[i].term) ∧ w.cell? ⟨b, off + i * 3 + 2, none⟩ = some v ∧ Rd S w (.sl (ks[i].kids.map Tree.d)) [v] := by
  obtain ⟨b, off, cs, ha, hS, hlt, hr, hl, hc⟩ := h.at (trees_cells ks) (by decide) (i := i) (by simpa using hi)
  simp at hr
  obtain ⟨v, rfl, hk⟩ := hr.tree
  exact ⟨b, off, v, ha, hS, hlt, by simpa using hc 0 (by simp), by simpa [Nat.add_assoc] using hc 1 (by simp), by simpa [Nat.add_assoc] using hc 2 (by simp), hk⟩
end Go.Proofs.YtgcfpbjifjklbaaDoor
namespace Go.Proofs.YtgcfpbjifjklbaaDoor
open Go.RowKit
structure Sym where
  term : Bool
  n : Int
  deriving DecidableEq
structure Rule where
  left : Int
  right : List Sym
  deriving DecidableEq
def Sym.d (s : Sym) : D := .agg [.bool s.term, .int s.n]
def Rule.d (r : Rule) : D := .agg [.int r.left, .sl (r.right.map Sym.d)]
theorem syms_cells (l : List Sym) : ∀ d ∈ l.map Sym.d, d.cells = 2 := by
  intro d hd
  simp at hd
  obtain ⟨t, _, rfl⟩ := hd
  simp [Sym.d, D.cells, D.cellsAll]
theorem rules_cells (l : List Rule) : ∀ d ∈ l.map Rule.d, d.cells = 2 := by
  intro d hd
  simp at hd
  obtain ⟨t, _, rfl⟩ := hd
  simp [Rule.d, D.cells, D.cellsAll]
theorem Rd.sym {S : Nat → Prop} {w : World} {s : Sym} {cs : List Value} (h : Rd S w s.d cs) : cs = [.bool s.term, .int .i64 s.n] := by
  obtain ⟨c1, c2, rfl, h1, h2⟩ := h
  rw [RdAll.one_iff] at h2
  simp [Rd] at h1 h2
  subst h1 h2
  rfl
theorem rd_sym {S : Nat → Prop} {w : World} (s : Sym) : Rd S w s.d [.bool s.term, .int .i64 s.n] := ⟨[.bool s.term], [.int .i64 s.n], rfl, rfl, RdAll.one rfl⟩
theorem Rd.rule {S : Nat → Prop} {w : World} {r : Rule} {cs : List Value} (h : Rd S w r.d cs) : ∃ v, cs = [.int .i64 r.left, v] ∧ Rd S w (.sl (r.right.map Sym.d)) [v] := by
  obtain ⟨c1, c2, rfl, h1, h2⟩ := h
  rw [RdAll.one_iff] at h2
  simp [Rd] at h1
  subst h1
  have h4 := h2
  obtain ⟨a, cap, L, e, _⟩ := h2
  subst e
  exact ⟨_, rfl, h4⟩
theorem rd_rule {S : Nat → Prop} {w : World} {r : Rule} {v : Value} (h : Rd S w (.sl (r.right.map Sym.d)) [v]) : Rd S w r.d [.int .i64 r.left, v] := ⟨[.int .i64 r.left], [v], rfl, rfl, RdAll.one h⟩
theorem Rd.sym_at {S : Nat → Prop} {w : World} {l : List Sym} {a : Option Addr} {n cap i : Nat} (h : Rd S w (.sl (l.map Sym.d)) [.slice a n cap]) (hi : i < l.length) :
    ∃ b off, a = some ⟨b, off, none⟩ ∧ S b ∧ b < w.heap.size ∧ w.cell? ⟨b, off + i * 2, none⟩ = some (.bool l[i].term) ∧ w.cell? ⟨b, off + i * 2 + 1, none⟩ = some (.int .i64 l[i].n) := by
  obtain ⟨b, off, cs, ha, hS, hlt, hr, hl, hc⟩ := h.at (syms_cells l) (by decide) (i := i) (by simpa using hi)
  simp at hr
  obtain rfl := hr.sym
  exact ⟨b, off, ha, hS, hlt, by simpa using hc 0 (by simp), by simpa [Nat.add_assoc] using hc 1 (by simp)⟩
theorem Rd.rule_at {S : Nat → Prop} {w : World} {l : List Rule} {a : Option Addr} {n cap i : Nat} (h : Rd S w (.sl (l.map Rule.d)) [.slice a n cap]) (hi : i < l.length) :
    ∃ b off v, a = some ⟨b, off, none⟩ ∧ S b ∧ b < w.heap.size ∧ w.cell? ⟨b, off + i * 2, none⟩ = some (.int .i64 l[i].left) ∧ w.cell? ⟨b, off + i * 2 + 1, none⟩ = some v ∧ Rd S w (.sl (l[i].right.map Sym.d)) [v] := by
  obtain ⟨b, off, cs, ha, hS, hlt, hr, hl, hc⟩ := h.at (rules_cells l) (by decide) (i := i) (by simpa using hi)
  simp at hr
  obtain ⟨v, rfl, hk⟩ := hr.rule
  exact ⟨b, off, v, ha, hS, hlt, by simpa using hc 0 (by simp), by simpa [Nat.add_assoc] using hc 1 (by simp), hk⟩
theorem elSym : ElemT Tryd.prog 55 60 2 16 := ElemT.mk' (z := .agg #[.bool false, .int .i64 0]) Tryd.underlying55 (by kernel_rfl) rfl (by decide)
end Go.Proofs.YtgcfpbjifjklbaaDoor
namespace Go.Proofs.YtgcfpbjifjklbaaDoor
open Go.RowKit
theorem ints_one (l : List Int) : ∀ u ∈ ints l, u.oneCell' = true := by
  intro u hu; simp [ints] at hu; obtain ⟨x, _, rfl⟩ := hu; rfl
end Go.Proofs.YtgcfpbjifjklbaaDoor
namespace Go.Proofs.YtgcfpbjifjklbaaDoor
open Go.RowKit
theorem sl_lit {w : World} {v : Array Value} {e : TypeId} {g : Nat} (hg : g = w.heap.size) (h : v.size ≤ maxLen) : Sl (w.alloc (.cells v e)) (.slice (some ⟨g, 0, none⟩) v.size v.size) v.toList := by
  subst hg
  refine ⟨some ⟨w.heap.size, 0, none⟩, v.size, by simp, by simp, h, (fun h => by cases h), fun i hi => ⟨_, rfl, ?_⟩⟩
  have : (⟨w.heap.size, 0, none⟩ : Addr).add i = ⟨w.heap.size, i, none⟩ := by unfold Addr.add; by_cases e : i = 0 <;> simp [e]
  rw [this]
  have hh : (w.alloc (.cells v e)).heap[w.heap.size]? = some (.cells v e (0, 0)) := heap_alloc_new w _
  simp only [World.cell?, hh]
  simp at hi ⊢
end Go.Proofs.YtgcfpbjifjklbaaDoor
namespace Go.Proofs.YtgcfpbjifjklbaaDoor
open Go.RowKit
def cmp3 (a b : Int) : Int := if a < b then -1 else if b < a then 1 else 0
def orL : List Int → Int
  | [] => 0
  | x :: l => if x = 0 then orL l else x
set_option maxHeartbeats 400000 in
theorem isNaN (x : Int) (w : World) : Calls Tryd.prog 50 #[.int .i64 x] w fun e w' => e = .returned (.bool false) ∧ w = w' := by
  have h : (x != x) = false := by simp
  go_enter Tryd.func50, Tryd.ntmps50
  go_wp2
  go_ret
  exact ⟨rfl, rfl⟩
set_option maxHeartbeats 400000 in
theorem compareInt (x y : Int) (w : World) : Calls Tryd.prog 21 #[.int .i64 x, .int .i64 y] w fun e w' => e = .returned (.int .i64 (cmp3 x y)) ∧ w = w' := by
  obtain ⟨c, HC⟩ := nameIt (cmp3 x y)
  have hc : (x < y ∧ c = -1) ∨ (¬ x < y ∧ y < x ∧ c = 1) ∨ (¬ x < y ∧ ¬ y < x ∧ c = 0) := by
    have := HC.out
    unfold cmp3 at this
    split at this
    · exact .inl ⟨by assumption, this.symm⟩
    · split at this
      · exact .inr (.inl ⟨by assumption, by assumption, this.symm⟩)
      · exact .inr (.inr ⟨by assumption, by assumption, this.symm⟩)
  rw [HC.out]
  rcases hc with ⟨h1, rfl⟩ | ⟨h1, h2, rfl⟩ | ⟨h1, h2, rfl⟩
  all_goals
    go_enter Tryd.func21, Tryd.ntmps21
    go_wp2_with (go_at_call 50; (with_reducible refine (isNaN _ _).mono ?_); rintro e w' ⟨rfl, rfl⟩)
    go_ret
    exact ⟨rfl, rfl⟩
set_option maxHeartbeats 1000000 in
theorem orInt (v : Value) (l : List Int) (w : World) (hl : Sl w v (ints l)) :
    Calls Tryd.prog 20 #[v] w fun e w' => e = .returned (.int .i64 (orL l)) ∧ w = w' := by
  obtain ⟨a, cap, rfl⟩ := hl.form
  rw [ints_len] at hl
  rw [ints_len]
  have hc := hl.len.2
  unfold maxLen at hc
  obtain ⟨hc1, hc2⟩ := hc
  have HL := Lib.hid hl
  clear hl
  go_enter Tryd.func20, Tryd.ntmps20
  go_wp2
  go_loopg [8] l.length (fun gg v8 wr => ∃ i : Nat, i ≤ l.length ∧ l.length - i ≤ gg ∧ v8 = .int .i64 i ∧ wr = w ∧ Hid (orL (l.drop i) = orL l))
  case atStart => exact ⟨0, by omega, by omega, rfl, rfl, rfl⟩
  case round =>
    obtain ⟨i, hi, hg, rfl, rfl, HE⟩ := hrel
    by_cases hlt : i < l.length
    · have hlt' : (i : Int) < (l.length : Int) := by omega
      obtain ⟨ba, oa, hae, hca⟩ := HL.out.at hlt
      have c1 := hca i (by rw [ints_len]; exact hlt)
      rw [ints_get] at c1
      have h1 := HE.out
      rw [List.drop_eq_getElem_cons hlt, orL] at h1
      obtain ⟨x, HX⟩ := nameIt (l[i]'hlt)
      rw [HX.out] at c1 h1
      have H1 := Lib.hid h1
      subst hae
      clear hca h1
      by_cases h0 : x = 0
      · subst h0
        have h2 := H1.out
        rw [if_pos rfl] at h2
        have HE2 := Lib.hid h2
        clear h2
        go_wp2
        go_roundg (l.length - (i + 1))
        case measure => omega
        case rel => exact ⟨i + 1, by omega, by omega, by go_num, rfl, HE2⟩
      · have h2 := H1.out
        rw [if_neg h0] at h2
        have HE2 := Lib.hid h2
        have hcb : (x != 0) = true := by simpa using h0
        clear h2 h0
        go_wp2
        go_ret
        exact ⟨by rw [← HE2.out]; rfl, rfl⟩
    · have hlt' : ¬ (i : Int) < (l.length : Int) := by omega
      have HE2 : Hid (orL l = 0) := by show _ = _; rw [← HE.out, List.drop_of_length_le (by omega), orL]
      go_wp2
      go_ret
      exact ⟨by rw [HE2.out]; rfl, rfl⟩
end Go.Proofs.YtgcfpbjifjklbaaDoor
namespace Go.Proofs.YtgcfpbjifjklbaaDoor
open Go.RowKit
structure Gram where
  terms : Int
  nons : Int
  start : Int
  rules : List Rule
  deriving DecidableEq
def Gram.d (g : Gram) : D := .agg [.int g.terms, .int g.nons, .int g.start, .sl (g.rules.map Rule.d)]
def hasS (g : Gram) (s : Sym) : Bool := decide (0 ≤ s.n) && (s.term && decide (s.n < g.terms) || !s.term && decide (s.n < g.nons))
def ordS (a b : Sym) : Int := if a.term = b.term then cmp3 a.n b.n else if a.term then -1 else 1
def cmpS : List Sym → List Sym → Int
  | [], [] => 0
  | [], _ :: _ => -1
  | _ :: _, [] => 1
  | x :: l, y :: m => if ordS x y = 0 then cmpS l m else ordS x y
def cmpR (a b : Rule) : Int := orL [cmp3 a.left b.left, cmpS a.right b.right]
def faultR (g : Gram) (i : Nat) (r : Rule) : Int :=
  if r.left < 0 ∨ g.nons ≤ r.left then 3 else if 4 < r.right.length then 2 else if r.right.any (fun s => !hasS g s) then 3 else if (g.rules.take i).any (fun x => cmpR x r == 0) then 6 else 0
def faultsFrom (g : Gram) : Nat → List Rule → Int
  | _, [] => 0
  | i, r :: l => if faultR g i r = 0 then faultsFrom g (i + 1) l else faultR g i r
def badHead (g : Gram) : Bool := decide (g.terms < 1) || decide (8 < g.terms) || decide (g.nons < 1) || decide (10 < g.nons) || decide (g.start < 0) || decide (g.nons ≤ g.start)
def checkG (g : Gram) : Int := if badHead g then 1 else if 32 < g.rules.length then 2 else faultsFrom g 0 g.rules
theorem faultsFrom_at {g : Gram} {i : Nat} (h : i < g.rules.length) : faultsFrom g i (g.rules.drop i) = if faultR g i g.rules[i] = 0 then faultsFrom g (i + 1) (g.rules.drop (i + 1)) else faultR g i g.rules[i] := by
  rw [List.drop_eq_getElem_cons h, faultsFrom]
theorem faultsFrom_zero {g : Gram} : ∀ {l : List Rule} {i : Nat}, faultsFrom g i l = 0 → ∀ r ∈ l, 0 ≤ r.left ∧ r.left < g.nons ∧ r.right.length ≤ 4 ∧ ∀ s ∈ r.right, hasS g s = true
  | [], i, _, r, hr => by simp at hr
  | x :: l, i, h, r, hr => by
    rw [faultsFrom] at h
    by_cases h0 : faultR g i x = 0
    · rw [if_pos h0] at h
      rcases List.mem_cons.1 hr with rfl | hr
      · unfold faultR at h0
        by_cases h1 : r.left < 0 ∨ g.nons ≤ r.left
        · rw [if_pos h1] at h0; simp at h0
        · rw [if_neg h1] at h0
          by_cases h2 : 4 < r.right.length
          · rw [if_pos h2] at h0; simp at h0
          · rw [if_neg h2] at h0
            by_cases h3 : r.right.any (fun s => !hasS g s) = true
            · rw [if_pos h3] at h0; simp at h0
            · refine ⟨by omega, by omega, by omega, fun s hs => ?_⟩
              simp at h3
              exact h3 s hs
      · exact faultsFrom_zero h r hr
    · rw [if_neg h0] at h; exact absurd h h0
theorem checkG_zero {g : Gram} (h : checkG g = 0) : (1 ≤ g.terms ∧ g.terms ≤ 8 ∧ 1 ≤ g.nons ∧ g.nons ≤ 10 ∧ 0 ≤ g.start ∧ g.start < g.nons) ∧ g.rules.length ≤ 32 ∧ ∀ r ∈ g.rules, 0 ≤ r.left ∧ r.left < g.nons ∧ r.right.length ≤ 4 ∧ ∀ s ∈ r.right, hasS g s = true := by
  unfold checkG at h
  by_cases h1 : badHead g = true
  · rw [if_pos h1] at h; simp at h
  · rw [if_neg h1] at h
    by_cases h2 : 32 < g.rules.length
    · rw [if_pos h2] at h; simp at h
    · rw [if_neg h2] at h
      refine ⟨?_, by omega, faultsFrom_zero h⟩
      simp [badHead] at h1
      omega
end Go.Proofs.YtgcfpbjifjklbaaDoor
namespace Go.Proofs.YtgcfpbjifjklbaaDoor
open Go.RowKit
def idxG {α : Type} (p : α → Bool) (l : List α) : Int := if l.any p then (l.findIdx p : Int) else -1
theorem idxG_hit {α : Type} {p : α → Bool} {l : List α} {i : Nat} (hi : i < l.length) (h : p l[i] = true) (hn : ∀ j (h : j < l.length), j < i → p l[j] = false) : idxG p l = i := by
  have h1 : l.any p = true := List.any_eq_true.2 ⟨l[i], List.getElem_mem hi, h⟩
  rw [idxG, if_pos h1]
  have : l.findIdx p = i := by
    rw [List.findIdx_eq hi]
    exact ⟨h, fun j hj => by simp [hn j (by omega) hj]⟩
  rw [this]
theorem idxG_none {α : Type} {p : α → Bool} {l : List α} (hn : ∀ j (h : j < l.length), p l[j] = false) : idxG p l = -1 := by
  have h1 : l.any p = false := by
    rw [List.any_eq_false]
    intro x hx
    obtain ⟨j, hj, rfl⟩ := List.getElem_of_mem hx
    simp [hn j hj]
  rw [idxG, if_neg (by simp [h1])]
theorem idxG_ge {α : Type} (p : α → Bool) (l : List α) : decide (0 ≤ idxG p l) = l.any p := by
  unfold idxG
  cases h : l.any p <;> simp [h]
def PredSym (g : Nat) (lb : Array Value) (l : List Sym) (p : Sym → Bool) (w : World) : Prop :=
  ∀ (W : World) (x : Sym), x ∈ l → Below w.heap.size w W → Calls Tryd.prog g (#[.agg #[.bool x.term, .int .i64 x.n]] ++ lb) W fun e w' => e = .returned (.bool (p x)) ∧ Below W.heap.size W w'
def PredRule (g : Nat) (lb : Array Value) (l : List Rule) (p : Rule → Bool) (w : World) : Prop :=
  ∀ (W : World) (x : Rule) (v : Value), x ∈ l → Below w.heap.size w W → Rd AnyB W (.sl (x.right.map Sym.d)) [v] → Calls Tryd.prog g (#[.agg #[.int .i64 x.left, v]] ++ lb) W fun e w' => e = .returned (.bool (p x)) ∧ Below W.heap.size W w'
set_option maxHeartbeats 1000000 in
theorem indexFuncSym (g : Nat) (lb : Array Value) (p : Sym → Bool) (a : Option Addr) (cap : Nat) (l : List Sym) (w : World) (eg : ∀ args w, (callFunc g args).run Tryd.prog w = .ok (.enter g args) w)
    (hf : PredSym g lb l p w) (hl : Rd AnyB w (.sl (l.map Sym.d)) [.slice a l.length cap]) :
    Calls Tryd.prog 51 #[.slice a l.length cap, .func (.func g) #[] lb] w fun e w' => e = .returned (.int .i64 (idxG p l)) ∧ Below w.heap.size w w' := by
  have HL := Lib.hid hl
  have HF := Lib.hid hf
  have hc := hl.bounds.2
  unfold maxLen at hc
  obtain ⟨hc1, hc2⟩ := hc
  clear hl hf
  go_enter Tryd.func51, Tryd.ntmps51
  go_wp2
  go_loopg [8] l.length (fun gg v8 wr => ∃ i : Nat, i ≤ l.length ∧ l.length - i ≤ gg ∧ v8 = .int .i64 i ∧ Hid (Below w.heap.size w wr) ∧ Hid (∀ j (h : j < l.length), j < i → p l[j] = false))
  case atStart => exact ⟨0, by omega, by omega, rfl, Below.refl _ _, fun j _ hj => by omega⟩
  case round =>
    obtain ⟨i, hi, hg, rfl, HB, HN⟩ := hrel
    by_cases hlt : i < l.length
    · have hlt' : (i : Int) < (l.length : Int) := by omega
      obtain ⟨b, off, hae, -, -, c0, c1⟩ := (HL.out.below HB.out).sym_at hlt
      obtain ⟨x, HX⟩ := nameIt (l[i]'hlt)
      rw [HX.out] at c0 c1
      have hcall := HF.out wr x (by rw [← HX.out]; exact List.getElem_mem hlt) HB.out
      obtain ⟨q0, HQ0⟩ := nameIt x.term
      obtain ⟨q1, HQ1⟩ := nameIt x.n
      rw [HQ0.out] at c0 hcall
      rw [HQ1.out] at c1 hcall
      have HC := Lib.hid hcall
      clear hcall
      subst hae
      go_wp2_with fail
      refine HC.out.mono ?_
      rintro e w6 ⟨rfl, hb6⟩
      have HB6 := Lib.hid (HB.out.trans (hb6.mono HB.out.size))
      clear hb6 c0 c1
      cases hp : p x with
      | true =>
        have HE : Hid (idxG p l = i) := idxG_hit hlt (by rw [HX.out]; exact hp) HN.out
        clear hp
        go_wp2
        go_ret
        exact ⟨by rw [HE.out]; rfl, HB6.out⟩
      | false =>
        have HN2 : Hid (∀ j (h : j < l.length), j < i + 1 → p l[j] = false) := by
          intro j h hj
          by_cases e : j = i
          · subst e; rw [HX.out]; exact hp
          · exact HN.out j h (by omega)
        clear hp
        go_wp2
        go_roundg (l.length - (i + 1))
        case measure => omega
        case rel => exact ⟨i + 1, by omega, by omega, by go_num, HB6, HN2⟩
    · have hlt' : ¬ (i : Int) < (l.length : Int) := by omega
      have HE : Hid (idxG p l = -1) := idxG_none fun j hj => HN.out j hj (by omega)
      go_wp2
      go_ret
      exact ⟨by rw [HE.out]; rfl, HB.out⟩
set_option maxHeartbeats 1000000 in
theorem containsFuncSym (g : Nat) (lb : Array Value) (p : Sym → Bool) (a : Option Addr) (cap : Nat) (l : List Sym) (w : World) (eg : ∀ args w, (callFunc g args).run Tryd.prog w = .ok (.enter g args) w)
    (hf : PredSym g lb l p w) (hl : Rd AnyB w (.sl (l.map Sym.d)) [.slice a l.length cap]) :
    Calls Tryd.prog 23 #[.slice a l.length cap, .func (.func g) #[] lb] w fun e w' => e = .returned (.bool (l.any p)) ∧ Below w.heap.size w w' := by
  have HL := Lib.hid hl
  have HF := Lib.hid hf
  have HG := Lib.hid eg
  clear hl hf eg
  go_enter Tryd.func23, Tryd.ntmps23
  go_wp2_with fail
  refine (indexFuncSym g lb p a cap l w HG.out HF.out HL.out).mono ?_
  rintro e w1 ⟨rfl, hb⟩
  have HB := Lib.hid hb
  clear hb
  go_wp2
  go_ret
  exact ⟨by rw [idxG_ge]; rfl, HB.out⟩
set_option maxHeartbeats 1000000 in
theorem indexFuncRule (g : Nat) (lb : Array Value) (p : Rule → Bool) (a : Option Addr) (cap : Nat) (l : List Rule) (w : World) (eg : ∀ args w, (callFunc g args).run Tryd.prog w = .ok (.enter g args) w)
    (hf : PredRule g lb l p w) (hl : Rd AnyB w (.sl (l.map Rule.d)) [.slice a l.length cap]) :
    Calls Tryd.prog 52 #[.slice a l.length cap, .func (.func g) #[] lb] w fun e w' => e = .returned (.int .i64 (idxG p l)) ∧ Below w.heap.size w w' := by
  have HL := Lib.hid hl
  have HF := Lib.hid hf
  have hc := hl.bounds.2
  unfold maxLen at hc
  obtain ⟨hc1, hc2⟩ := hc
  clear hl hf
  go_enter Tryd.func52, Tryd.ntmps52
  go_wp2
  go_loopg [8] l.length (fun gg v8 wr => ∃ i : Nat, i ≤ l.length ∧ l.length - i ≤ gg ∧ v8 = .int .i64 i ∧ Hid (Below w.heap.size w wr) ∧ Hid (∀ j (h : j < l.length), j < i → p l[j] = false))
  case atStart => exact ⟨0, by omega, by omega, rfl, Below.refl _ _, fun j _ hj => by omega⟩
  case round =>
    obtain ⟨i, hi, hg, rfl, HB, HN⟩ := hrel
    by_cases hlt : i < l.length
    · have hlt' : (i : Int) < (l.length : Int) := by omega
      obtain ⟨b, off, vr, hae, -, -, c0, c1, hkr⟩ := (HL.out.below HB.out).rule_at hlt
      obtain ⟨ar, cr, rfl, -, -⟩ := hkr.form
      rw [List.length_map] at c1 hkr
      obtain ⟨x, HX⟩ := nameIt (l[i]'hlt)
      rw [HX.out] at c0 c1 hkr
      have hcall := HF.out wr x _ (by rw [← HX.out]; exact List.getElem_mem hlt) HB.out hkr
      obtain ⟨q0, HQ0⟩ := nameIt x.left
      obtain ⟨q1, HQ1⟩ := nameIt x.right.length
      rw [HQ0.out] at c0 hcall
      rw [HQ1.out] at c1 hcall
      have HC := Lib.hid hcall
      clear hcall hkr
      subst hae
      go_wp2_with fail
      refine HC.out.mono ?_
      rintro e w6 ⟨rfl, hb6⟩
      have HB6 := Lib.hid (HB.out.trans (hb6.mono HB.out.size))
      clear hb6 c0 c1
      cases hp : p x with
      | true =>
        have HE : Hid (idxG p l = i) := idxG_hit hlt (by rw [HX.out]; exact hp) HN.out
        clear hp
        go_wp2
        go_ret
        exact ⟨by rw [HE.out]; rfl, HB6.out⟩
      | false =>
        have HN2 : Hid (∀ j (h : j < l.length), j < i + 1 → p l[j] = false) := by
          intro j h hj
          by_cases e : j = i
          · subst e; rw [HX.out]; exact hp
          · exact HN.out j h (by omega)
        clear hp
        go_wp2
        go_roundg (l.length - (i + 1))
        case measure => omega
        case rel => exact ⟨i + 1, by omega, by omega, by go_num, HB6, HN2⟩
    · have hlt' : ¬ (i : Int) < (l.length : Int) := by omega
      have HE : Hid (idxG p l = -1) := idxG_none fun j hj => HN.out j hj (by omega)
      go_wp2
      go_ret
      exact ⟨by rw [HE.out]; rfl, HB.out⟩
set_option maxHeartbeats 1000000 in
theorem containsFuncRule (g : Nat) (lb : Array Value) (p : Rule → Bool) (a : Option Addr) (cap : Nat) (l : List Rule) (w : World) (eg : ∀ args w, (callFunc g args).run Tryd.prog w = .ok (.enter g args) w)
    (hf : PredRule g lb l p w) (hl : Rd AnyB w (.sl (l.map Rule.d)) [.slice a l.length cap]) :
    Calls Tryd.prog 26 #[.slice a l.length cap, .func (.func g) #[] lb] w fun e w' => e = .returned (.bool (l.any p)) ∧ Below w.heap.size w w' := by
  have HL := Lib.hid hl
  have HF := Lib.hid hf
  have HG := Lib.hid eg
  clear hl hf eg
  go_enter Tryd.func26, Tryd.ntmps26
  go_wp2_with fail
  refine (indexFuncRule g lb p a cap l w HG.out HF.out HL.out).mono ?_
  rintro e w1 ⟨rfl, hb⟩
  have HB := Lib.hid hb
  clear hb
  go_wp2
  go_ret
  exact ⟨by rw [idxG_ge]; rfl, HB.out⟩
set_option maxHeartbeats 1000000 in
theorem orderS (x y : Sym) (w : World) : Calls Tryd.prog 54 #[.agg #[.bool x.term, .int .i64 x.n], .agg #[.bool y.term, .int .i64 y.n]] w fun e w' => e = .returned (.int .i64 (ordS x y)) ∧ Below w.heap.size w w' := by
  obtain ⟨x0, x1⟩ := x
  obtain ⟨y0, y1⟩ := y
  dsimp only
  cases x0 <;> cases y0
  · have HC := Lib.hid (fun W => compareInt x1 y1 W)
    have HO : Hid (ordS ⟨false, x1⟩ ⟨false, y1⟩ = cmp3 x1 y1) := by show _ = _; simp [ordS]
    go_enter Tryd.func54, Tryd.ntmps54
    go_wp2_with fail
    refine (HC.out _).mono ?_
    rintro e w' ⟨rfl, rfl⟩
    go_wp2_with fail
    go_ret
    exact ⟨by rw [HO.out]; rfl, ((Below.refl _ _).alloc (Nat.le_refl _) _).alloc (by simp) _⟩
  · have HO : Hid (ordS ⟨false, x1⟩ ⟨true, y1⟩ = 1) := by show _ = _; simp [ordS]
    go_enter Tryd.func54, Tryd.ntmps54
    go_wp2_with fail
    go_ret
    exact ⟨by rw [HO.out]; rfl, ((Below.refl _ _).alloc (Nat.le_refl _) _).alloc (by simp) _⟩
  · have HO : Hid (ordS ⟨true, x1⟩ ⟨false, y1⟩ = -1) := by show _ = _; simp [ordS]
    go_enter Tryd.func54, Tryd.ntmps54
    go_wp2_with fail
    go_ret
    exact ⟨by rw [HO.out]; rfl, ((Below.refl _ _).alloc (Nat.le_refl _) _).alloc (by simp) _⟩
  · have HC := Lib.hid (fun W => compareInt x1 y1 W)
    have HO : Hid (ordS ⟨true, x1⟩ ⟨true, y1⟩ = cmp3 x1 y1) := by show _ = _; simp [ordS]
    go_enter Tryd.func54, Tryd.ntmps54
    go_wp2_with fail
    refine (HC.out _).mono ?_
    rintro e w' ⟨rfl, rfl⟩
    go_wp2_with fail
    go_ret
    exact ⟨by rw [HO.out]; rfl, ((Below.refl _ _).alloc (Nat.le_refl _) _).alloc (by simp) _⟩
theorem cmpS_at {l m : List Sym} {i : Nat} (h : i < l.length) (h2 : i < m.length) : cmpS (l.drop i) (m.drop i) = if ordS l[i] m[i] = 0 then cmpS (l.drop (i + 1)) (m.drop (i + 1)) else ordS l[i] m[i] := by
  rw [List.drop_eq_getElem_cons h, List.drop_eq_getElem_cons h2, cmpS]
theorem cmpS_long {l m : List Sym} {i : Nat} (h : i < l.length) (h2 : m.length ≤ i) : cmpS (l.drop i) (m.drop i) = 1 := by
  rw [List.drop_eq_getElem_cons h, List.drop_of_length_le h2, cmpS]
theorem cmpS_short {l m : List Sym} {i : Nat} (h : l.length ≤ i) (h2 : i < m.length) : cmpS (l.drop i) (m.drop i) = -1 := by
  rw [List.drop_eq_getElem_cons h2, List.drop_of_length_le h, cmpS]
theorem cmpS_end {l m : List Sym} {i : Nat} (h : l.length ≤ i) (h2 : m.length ≤ i) : cmpS (l.drop i) (m.drop i) = 0 := by
  rw [List.drop_of_length_le h2, List.drop_of_length_le h, cmpS]
set_option maxHeartbeats 1000000 in
theorem compareSyms (a a' : Option Addr) (cap cap' : Nat) (l m : List Sym) (w : World) (hl : Rd AnyB w (.sl (l.map Sym.d)) [.slice a l.length cap]) (hm : Rd AnyB w (.sl (m.map Sym.d)) [.slice a' m.length cap']) :
    Calls Tryd.prog 53 #[.slice a l.length cap, .slice a' m.length cap', .func (.func 54) #[] #[]] w fun e w' => e = .returned (.int .i64 (cmpS l m)) ∧ Below w.heap.size w w' := by
  have HL := Lib.hid hl
  have HM := Lib.hid hm
  have hc := hl.bounds.2
  have hc' := hm.bounds.2
  unfold maxLen at hc hc'
  obtain ⟨hc1, hc2⟩ := hc
  obtain ⟨hc3, hc4⟩ := hc'
  clear hl hm
  go_enter Tryd.func53, Tryd.ntmps53
  go_wp2_with fail
  go_loopg [13] l.length (fun gg v13 wr => ∃ i : Nat, i ≤ l.length ∧ l.length - i ≤ gg ∧ v13 = .int .i64 i ∧ Hid (Below w.heap.size w wr) ∧ Hid (cmpS (l.drop i) (m.drop i) = cmpS l m))
  case atStart => exact ⟨0, by omega, by omega, rfl, Below.refl _ _, rfl⟩
  case round =>
    obtain ⟨i, hi, hg, rfl, HB, HE⟩ := hrel
    by_cases hlt : i < l.length
    · have hlt' : (i : Int) < (l.length : Int) := by omega
      obtain ⟨b, off, hae, -, -, c0, c1⟩ := (HL.out.below HB.out).sym_at hlt
      by_cases hlt2 : i < m.length
      · have hlt2' : (i : Int) < (m.length : Int) := by omega
        obtain ⟨b', off', hae', -, -, d0, d1⟩ := (HM.out.below HB.out).sym_at hlt2
        have h1 := HE.out
        rw [cmpS_at hlt hlt2] at h1
        obtain ⟨x, HX⟩ := nameIt (l[i]'hlt)
        obtain ⟨y, HY⟩ := nameIt (m[i]'hlt2)
        rw [HX.out] at c0 c1 h1
        rw [HY.out] at d0 d1 h1
        have hcall := fun W => orderS x y W
        obtain ⟨c, HC⟩ := nameIt (ordS x y)
        obtain ⟨q0, HQ0⟩ := nameIt x.term
        obtain ⟨q1, HQ1⟩ := nameIt x.n
        obtain ⟨p0, HP0⟩ := nameIt y.term
        obtain ⟨p1, HP1⟩ := nameIt y.n
        rw [HC.out] at h1 hcall
        rw [HQ0.out] at c0 hcall
        rw [HQ1.out] at c1 hcall
        rw [HP0.out] at d0 hcall
        rw [HP1.out] at d1 hcall
        have H1 := Lib.hid h1
        have HCA := Lib.hid hcall
        have hne := lt_of_cell d0
        subst hae hae'
        clear h1 hcall
        have hbb := ((Below.refl wr.heap.size wr).alloc (Nat.le_refl _) (.cells #[.bool q0, .int .i64 q1] 60)).alloc (by simp) (.cells #[.bool p0, .int .i64 p1] 60)
        have HBB := Lib.hid (HB.out.trans (hbb.mono HB.out.size))
        clear hbb
        go_wp2_with fail
        refine (HCA.out _).mono ?_
        rintro e w6 ⟨rfl, hb6⟩
        have HB6 := Lib.hid (HBB.out.trans (hb6.mono HBB.out.size))
        clear hb6 c0 c1 d0 d1
        by_cases h0 : c = 0
        · subst h0
          have h2 := H1.out
          rw [if_pos rfl] at h2
          have HE2 := Lib.hid h2
          clear h2
          go_wp2_with fail
          go_roundg (l.length - (i + 1))
          case measure => omega
          case rel => exact ⟨i + 1, by omega, by omega, by go_num, HB6, HE2⟩
        · have h2 := H1.out
          rw [if_neg h0] at h2
          have HE2 := Lib.hid h2
          have hcb : (c != 0) = true := by simpa using h0
          clear h2 h0
          go_wp2_with fail
          go_ret
          exact ⟨by rw [← HE2.out]; rfl, HB6.out⟩
      · have hlt2' : (m.length : Int) ≤ (i : Int) := by omega
        have HE2 : Hid (cmpS l m = 1) := by show _ = _; rw [← HE.out]; exact cmpS_long hlt (by omega)
        subst hae
        go_wp2_with fail
        go_ret
        exact ⟨by rw [HE2.out]; rfl, HB.out.alloc HB.out.size _⟩
    · have hlt' : ¬ (i : Int) < (l.length : Int) := by omega
      by_cases hlt2 : l.length < m.length
      · have HE2 : Hid (cmpS l m = -1) := by show _ = _; rw [← HE.out]; exact cmpS_short (by omega) (by omega)
        have hlt3 : (l.length : Int) < (m.length : Int) := by omega
        go_wp2_with fail
        go_ret
        exact ⟨by rw [HE2.out]; rfl, HB.out⟩
      · have HE2 : Hid (cmpS l m = 0) := by show _ = _; rw [← HE.out]; exact cmpS_end (by omega) (by omega)
        have hlt3 : ¬ (l.length : Int) < (m.length : Int) := by omega
        go_wp2_with fail
        go_ret
        exact ⟨by rw [HE2.out]; rfl, HB.out⟩
end Go.Proofs.YtgcfpbjifjklbaaDoor
namespace Go.Proofs.YtgcfpbjifjklbaaDoor
open Go.RowKit
theorem cells4 {W w' : World} (hb : Below W.heap.size W w') {b1 b2 : Nat} {T : TypeId} {a0 a1 c0 c1 : Value} (h1 : W.heap[b1]? = some (.cells #[a0, a1] T (0, 0))) (h2 : W.heap[b2]? = some (.cells #[c0, c1] T (0, 0))) :
    w'.cell? ⟨b1, 0, none⟩ = some a0 ∧ w'.cell? ⟨b1, 0 + 1, none⟩ = some a1 ∧ w'.cell? ⟨b2, 0, none⟩ = some c0 ∧ w'.cell? ⟨b2, 0 + 1, none⟩ = some c1 := by
  obtain ⟨x1, x2⟩ := bx_cells2 (bx_keep h1 hb)
  obtain ⟨x4, x5⟩ := bx_cells2 (bx_keep h2 hb)
  exact ⟨x1, x2, x4, x5⟩
set_option maxHeartbeats 1000000 in
set_option maxRecDepth 100000 in
theorem compareR (x y : Rule) (a a' : Option Addr) (c c' : Nat) (w : World) (hx : Rd AnyB w (.sl (x.right.map Sym.d)) [.slice a x.right.length c]) (hy : Rd AnyB w (.sl (y.right.map Sym.d)) [.slice a' y.right.length c']) :
    Calls Tryd.prog 28 #[.agg #[.int .i64 x.left, .slice a x.right.length c], .agg #[.int .i64 y.left, .slice a' y.right.length c']] w fun e w' => e = .returned (.int .i64 (cmpR x y)) ∧ Below w.heap.size w w' := by
  obtain ⟨lx, HLX⟩ := nameIt x.left
  obtain ⟨ly, HLY⟩ := nameIt y.left
  obtain ⟨nx, HNX⟩ := nameIt x.right.length
  obtain ⟨ny, HNY⟩ := nameIt y.right.length
  obtain ⟨w0, HW0⟩ := nameIt ((w.alloc (.cells #[.int .i64 lx, .slice a nx c] 57)).alloc (.cells #[.int .i64 ly, .slice a' ny c'] 57))
  have HB : Hid (Below w.heap.size w w0) := by rw [← HW0.out]; exact ((Below.refl _ _).alloc (Nat.le_refl _) _).alloc (by simp) _
  have X1 : Hid (w0.heap[w.heap.size]? = some (.cells #[.int .i64 lx, .slice a nx c] 57 (0, 0))) := by
    rw [← HW0.out]; exact bx_keep (bx_new _ _ _ rfl) ((Below.refl _ _).alloc (Nat.le_refl _) _)
  have X2 : Hid (w0.heap[w.heap.size + 1]? = some (.cells #[.int .i64 ly, .slice a' ny c'] 57 (0, 0))) := by
    rw [← HW0.out]; exact bx_new _ _ _ (by simp)
  obtain ⟨q1, HQ1⟩ := nameIt (cmp3 lx ly)
  obtain ⟨q2, HQ2⟩ := nameIt (cmpS x.right y.right)
  have C1 := Lib.hid (fun W => compareInt lx ly W)
  have C2 := Lib.hid (fun W (hb : Below w0.heap.size w0 W) => compareSyms a a' c c' x.right y.right W ((hx.below HB.out).below hb) ((hy.below HB.out).below hb))
  rw [HQ1.out] at C1
  rw [HQ2.out, HNX.out, HNY.out] at C2
  have HR : Hid (cmpR x y = orL [q1, q2]) := by show _ = _; unfold cmpR; rw [HLX.out, HLY.out, HQ1.out, HQ2.out]
  rw [HLX.out, HLY.out, HNX.out, HNY.out]
  obtain ⟨x0, x1⟩ := bx_cells2 X1.out
  obtain ⟨y0, y1⟩ := bx_cells2 X2.out
  clear hx hy
  go_enter Tryd.func28, Tryd.ntmps28
  go_wp2_with fail
  rw [HW0.out]
  go_region_held3 (fun w' => w'.cell? ⟨w.heap.size, 0, none⟩ = some (.int .i64 lx) ∧ w'.cell? ⟨w.heap.size, 0 + 1, none⟩ = some (.slice a nx c) ∧ w'.cell? ⟨w.heap.size + 1, 0, none⟩ = some (.int .i64 ly) ∧ w'.cell? ⟨w.heap.size + 1, 0 + 1, none⟩ = some (.slice a' ny c'))
    (first | exact cells4 (Below.refl _ _).drew X1.out X2.out | exact cells4 (HB2.out.alloc HB2.out.size _) X1.out X2.out | exact cells4 HB2.out X1.out X2.out | fail)
    (first
      | (go_at_call 21; (with_reducible refine (C1.out _).mono ?_); rintro e w' ⟨rfl, rfl⟩)
      | (go_at_call 53; (with_reducible refine (C2.out _ (Below.refl _ _).drew).mono ?_); rintro e w2 ⟨rfl, hb2⟩; have HB2 : Hid (Below w0.heap.size w0 w2) := (Below.refl _ _).drew.trans hb2; clear hb2)
      | (go_at_call 20; (with_reducible refine (orInt _ [q1, q2] _ (sl_lit (v := #[.int .i64 q1, .int .i64 q2]) rfl (of_decide_eq_true rfl))).mono ?_); rintro e w' ⟨rfl, rfl⟩)
      | fail)
  go_wp2_with fail
  go_ret
  have hB := HB.out.trans (HB2.out.mono HB.out.size)
  exact ⟨by rw [HR.out]; rfl, hB.alloc hB.size _⟩
set_option maxHeartbeats 1000000 in
set_option maxRecDepth 100000 in
theorem hasE (g : Gram) (a : Option Addr) (n c : Nat) (s : Sym) (w : World) :
    Calls Tryd.prog 25 #[.agg #[.int .i64 g.terms, .int .i64 g.nons, .int .i64 g.start, .slice a n c], .agg #[.bool s.term, .int .i64 s.n]] w fun e w' => e = .returned (.bool (hasS g s)) ∧ Below w.heap.size w w' := by
  obtain ⟨gt, HGT⟩ := nameIt g.terms
  obtain ⟨gn, HGN⟩ := nameIt g.nons
  obtain ⟨gs, HGS⟩ := nameIt g.start
  obtain ⟨st, HST⟩ := nameIt s.term
  obtain ⟨sn, HSN⟩ := nameIt s.n
  obtain ⟨B, HBn⟩ := nameIt (hasS g s)
  have HV : Hid ((decide (0 ≤ sn) && (st && decide (sn < gt) || !st && decide (sn < gn))) = B) := by show _ = _; rw [← HBn.out]; unfold hasS; rw [HGT.out, HGN.out, HST.out, HSN.out]
  rw [HGT.out, HGN.out, HGS.out, HST.out, HSN.out, HBn.out]
  by_cases h0 : 0 ≤ sn
  · have b0 : decide (0 ≤ sn) = true := by simpa using h0
    cases st with
    | true =>
      by_cases h1 : sn < gt
      · have b1 : decide (sn < gt) = true := by simpa using h1
        obtain rfl : B = true := by rw [← HV.out]; simp [h0, h1]
        clear h0 h1
        go_enter Tryd.func25, Tryd.ntmps25
        go_wp2_with fail
        go_ret
        exact ⟨rfl, ((Below.refl _ _).alloc (Nat.le_refl _) _).alloc (by simp) _⟩
      · have b1 : decide (sn < gt) = false := by simpa using h1
        obtain rfl : B = false := by rw [← HV.out]; simp [h0, h1]
        clear h0 h1
        go_enter Tryd.func25, Tryd.ntmps25
        go_wp2_with fail
        go_ret
        exact ⟨rfl, ((Below.refl _ _).alloc (Nat.le_refl _) _).alloc (by simp) _⟩
    | false =>
      by_cases h1 : sn < gn
      · have b1 : decide (sn < gn) = true := by simpa using h1
        obtain rfl : B = true := by rw [← HV.out]; simp [h0, h1]
        clear h0 h1
        go_enter Tryd.func25, Tryd.ntmps25
        go_wp2_with fail
        go_ret
        exact ⟨rfl, ((Below.refl _ _).alloc (Nat.le_refl _) _).alloc (by simp) _⟩
      · have b1 : decide (sn < gn) = false := by simpa using h1
        obtain rfl : B = false := by rw [← HV.out]; simp [h0, h1]
        clear h0 h1
        go_enter Tryd.func25, Tryd.ntmps25
        go_wp2_with fail
        go_ret
        exact ⟨rfl, ((Below.refl _ _).alloc (Nat.le_refl _) _).alloc (by simp) _⟩
  · have b0 : decide (0 ≤ sn) = false := by simpa using h0
    obtain rfl : B = false := by rw [← HV.out]; simp [h0]
    clear h0
    go_enter Tryd.func25, Tryd.ntmps25
    go_wp2_with fail
    go_ret
    exact ⟨rfl, ((Below.refl _ _).alloc (Nat.le_refl _) _).alloc (by simp) _⟩
set_option maxHeartbeats 1000000 in
theorem hasF (g : Gram) (b : Nat) (a : Option Addr) (n c : Nat) (l : List Sym) (w : World) (hx : w.heap[b]? = some (.cells #[.int .i64 g.terms, .int .i64 g.nons, .int .i64 g.start, .slice a n c] 24 (0, 0))) :
    PredSym 24 #[.pointer (some ⟨b, 0, none⟩)] l (fun s => !hasS g s) w := by
  intro W s _ hb
  have hc := hasE g a n c s
  have hx' := bx_keep hx hb
  obtain ⟨gt, HGT⟩ := nameIt g.terms
  obtain ⟨gn, HGN⟩ := nameIt g.nons
  obtain ⟨gs, HGS⟩ := nameIt g.start
  obtain ⟨st, HST⟩ := nameIt s.term
  obtain ⟨sn, HSN⟩ := nameIt s.n
  obtain ⟨B, HBn⟩ := nameIt (hasS g s)
  rw [HGT.out, HGN.out, HGS.out] at hx'
  rw [HGT.out, HGN.out, HGS.out, HST.out, HSN.out, HBn.out] at hc
  dsimp only
  rw [HST.out, HSN.out, HBn.out]
  obtain ⟨x0, x1, x2, x3⟩ := bx_cells4 hx'
  have hlt := (Array.getElem?_eq_some_iff.1 hx').1
  have HC := Lib.hid hc
  clear hc hx hb hx'
  show Calls _ _ #[_, _] _ _
  go_enter Tryd.func24, Tryd.ntmps24
  go_wp2_with fail
  refine (HC.out _).mono ?_
  rintro e w1 ⟨rfl, hb1⟩
  have hB := (Below.refl W.heap.size W).alloc (Nat.le_refl _) (.cells #[.bool st, .int .i64 sn] 60)
  have HB1 := Lib.hid (hB.trans (hb1.mono hB.size))
  clear hb1 hB x0 x1 x2 x3
  cases B
  all_goals
    go_wp2_with fail
    go_ret
    exact ⟨rfl, HB1.out⟩
set_option maxHeartbeats 1000000 in
theorem sameRF (r : Rule) (b : Nat) (ar : Option Addr) (cr : Nat) (l : List Rule) (w : World) (hx : w.heap[b]? = some (.cells #[.int .i64 r.left, .slice ar r.right.length cr] 57 (0, 0))) (hr : Rd AnyB w (.sl (r.right.map Sym.d)) [.slice ar r.right.length cr]) :
    PredRule 27 #[.pointer (some ⟨b, 0, none⟩)] l (fun x => cmpR x r == 0) w := by
  intro W x v _ hb hv
  obtain ⟨av, cv, rfl, -, -⟩ := hv.form
  rw [List.length_map] at hv ⊢
  have hx' := bx_keep hx hb
  have hc := fun W' (h : Below W.heap.size W W') => compareR x r av ar cv cr W' (hv.below h) ((hr.below hb).below h)
  obtain ⟨lx, HLX⟩ := nameIt x.left
  obtain ⟨nx, HNX⟩ := nameIt x.right.length
  obtain ⟨lr, HLR⟩ := nameIt r.left
  obtain ⟨nr, HNR⟩ := nameIt r.right.length
  obtain ⟨q, HQ⟩ := nameIt (cmpR x r)
  rw [HLX.out, HNX.out, HLR.out, HNR.out, HQ.out] at hc
  rw [HLR.out, HNR.out] at hx'
  dsimp only
  rw [HLX.out, HNX.out, HQ.out]
  obtain ⟨x0, x1⟩ := bx_cells2 hx'
  have hlt := (Array.getElem?_eq_some_iff.1 hx').1
  have HC := Lib.hid hc
  clear hc hx hb hx' hv hr
  show Calls _ _ #[_, _] _ _
  go_enter Tryd.func27, Tryd.ntmps27
  go_wp2_with fail
  refine (HC.out _ ((Below.refl _ _).alloc (Nat.le_refl _) _)).mono ?_
  rintro e w1 ⟨rfl, hb1⟩
  have hB := (Below.refl W.heap.size W).alloc (Nat.le_refl _) (.cells #[.int .i64 lx, .slice av nx cv] 57)
  have HB1 := Lib.hid (hB.trans (hb1.mono hB.size))
  clear hb1 hB x0 x1
  go_wp2_with fail
  go_ret
  exact ⟨rfl, HB1.out⟩
theorem Rd.start {S : Nat → Prop} {w : World} {ds : List D} {a : Option Addr} {n cap i : Nat} (h : Rd S w (.sl ds) [.slice a n cap]) (hi : i ≤ ds.length) : Rd S w (.sl (ds.take i)) [.slice a i cap] := by
  obtain ⟨a', cap', L, e, h1, h2, h3, h4, h5⟩ := h
  simp at e
  obtain ⟨rfl, rfl, rfl⟩ := e
  rw [← List.take_append_drop i ds] at h5
  obtain ⟨c1, c2, rfl, h6, h7⟩ := h5.split
  refine ⟨a, cap, c1, by simp; omega, by simp; omega, h2, h3, fun j hj => ?_, h6⟩
  have := h4 j (by simp; omega)
  rwa [List.getElem_append_left hj] at this
theorem badHead_cases {g : Gram} (h : badHead g = true) : (decide (g.terms < 1) = true) ∨ (decide (g.terms < 1) = false ∧ decide (8 < g.terms) = true) ∨ (decide (g.terms < 1) = false ∧ decide (8 < g.terms) = false ∧ decide (g.nons < 1) = true) ∨ (decide (g.terms < 1) = false ∧ decide (8 < g.terms) = false ∧ decide (g.nons < 1) = false ∧ decide (10 < g.nons) = true) ∨
    (decide (g.terms < 1) = false ∧ decide (8 < g.terms) = false ∧ decide (g.nons < 1) = false ∧ decide (10 < g.nons) = false ∧ decide (g.start < 0) = true) ∨ (decide (g.terms < 1) = false ∧ decide (8 < g.terms) = false ∧ decide (g.nons < 1) = false ∧ decide (10 < g.nons) = false ∧ decide (g.start < 0) = false ∧ decide (g.nons ≤ g.start) = true) := by
  simp [badHead] at h ⊢
  omega
theorem goodHead {g : Gram} (h : ¬ badHead g = true) : decide (g.terms < 1) = false ∧ decide (8 < g.terms) = false ∧ decide (g.nons < 1) = false ∧ decide (10 < g.nons) = false ∧ decide (g.start < 0) = false ∧ decide (g.nons ≤ g.start) = false := by
  simp [badHead] at h ⊢
  omega
set_option maxHeartbeats 4000000 in
set_option maxRecDepth 100000 in
theorem checkE (g : Gram) (ar : Option Addr) (cr : Nat) (w : World) (hr : Rd AnyB w (.sl (g.rules.map Rule.d)) [.slice ar g.rules.length cr]) :
    Calls Tryd.prog 7 #[.agg #[.int .i64 g.terms, .int .i64 g.nons, .int .i64 g.start, .slice ar g.rules.length cr]] w fun e w' => e = .returned (.int .i64 (checkG g)) ∧ Below w.heap.size w w' := by
  have hbs := hr.bounds.2
  unfold maxLen at hbs
  obtain ⟨hc1, hc2⟩ := hbs
  obtain ⟨gt, HGT⟩ := nameIt g.terms
  obtain ⟨gn, HGN⟩ := nameIt g.nons
  obtain ⟨gs, HGS⟩ := nameIt g.start
  obtain ⟨K, HK⟩ := nameIt g.rules
  have HBC := Lib.hid (@badHead_cases g)
  have HGH := Lib.hid (@goodHead g)
  rw [HGT.out, HGN.out, HGS.out] at HBC HGH
  obtain ⟨w0, HW0⟩ := nameIt (w.alloc (.cells #[.int .i64 gt, .int .i64 gn, .int .i64 gs, .slice ar K.length cr] 24))
  have HB0 : Hid (Below w.heap.size w w0) := by rw [← HW0.out]; exact (Below.refl _ _).alloc (Nat.le_refl _) _
  have X1 : Hid (w0.heap[w.heap.size]? = some (.cells #[.int .i64 gt, .int .i64 gn, .int .i64 gs, .slice ar K.length cr] 24 (0, 0))) := by rw [← HW0.out]; exact bx_new _ _ _ rfl
  have HR := Lib.hid (hr.below HB0.out)
  rw [HK.out] at HR hc1
  rw [HGT.out, HGN.out, HGS.out, HK.out]
  obtain ⟨x0, x1, x2, x3⟩ := bx_cells4 X1.out
  clear hr
  by_cases hbad : badHead g = true
  · have HE : Hid (checkG g = 1) := by show _ = _; simp [checkG, hbad]
    rcases HBC.out hbad with h1 | ⟨h1, h2⟩ | ⟨h1, h2, h3⟩ | ⟨h1, h2, h3, h4⟩ | ⟨h1, h2, h3, h4, h5⟩ | ⟨h1, h2, h3, h4, h5, h6⟩
    all_goals
      clear hbad
      go_enter Tryd.func7, Tryd.ntmps7
      go_upto_region 1 with fail
      rw [HW0.out]
      go_wp2_with fail
      go_ret
      exact ⟨by rw [HE.out]; rfl, HB0.out⟩
  · obtain ⟨h1, h2, h3, h4, h5, h6⟩ := HGH.out hbad
    have HBD := Lib.hid hbad
    clear hbad
    by_cases hlen : 32 < K.length
    · have HE : Hid (checkG g = 2) := by show _ = _; rw [checkG, if_neg HBD.out, HK.out, if_pos hlen]
      have hlen' : (32 : Int) < (K.length : Int) := by omega
      go_enter Tryd.func7, Tryd.ntmps7
      go_upto_region 1 with fail
      rw [HW0.out]
      go_wp2_with fail
      go_ret
      exact ⟨by rw [HE.out]; rfl, HB0.out⟩
    · have HE : Hid (checkG g = faultsFrom g 0 K) := by show _ = _; rw [checkG, if_neg HBD.out, HK.out, if_neg hlen]
      have hlen' : ¬ (32 : Int) < (K.length : Int) := by omega
      go_enter Tryd.func7, Tryd.ntmps7
      go_upto_region 1 with fail
      rw [HW0.out]
      go_wp2_with fail
      clear h1 h2 h3 h4 h5 h6 x0 x1 x2 x3
      go_loopg [42] K.length (fun gg v42 wr => ∃ i : Nat, i ≤ K.length ∧ K.length - i ≤ gg ∧ v42 = .int .i64 i ∧ Hid (Below w0.heap.size w0 wr) ∧ Hid (faultsFrom g i (K.drop i) = faultsFrom g 0 K))
      case atStart => exact ⟨0, by omega, by omega, rfl, Below.refl _ _, rfl⟩
      case round =>
        obtain ⟨i, hi, hg, rfl, HB, HF⟩ := hrel
        by_cases hlt : i < K.length
        · have hlt' : (i : Int) < (K.length : Int) := by omega
          have hiK : (i : Int) ≤ (cr : Int) := by omega
          obtain ⟨b, off, vr, hae, -, hbl, c0, c1, hkr⟩ := (HR.out.below HB.out).rule_at hlt
          obtain ⟨av, cv, rfl, -, hcv⟩ := hkr.form
          rw [List.length_map] at c1 hkr
          have h1 := HF.out
          have hrl : i < g.rules.length := by rw [HK.out]; exact hlt
          rw [← HK.out, faultsFrom_at hrl] at h1
          simp only [HK.out] at h1
          obtain ⟨r, HRn⟩ := nameIt (K[i]'hlt)
          rw [HRn.out] at c0 c1 hkr h1
          have hbl2 : b < wr.heap.size := hbl
          obtain ⟨w4, HW4⟩ := nameIt (wr.alloc (.cells #[.int .i64 r.left, .slice av r.right.length cv] 57))
          have hb4 : Below wr.heap.size wr w4 := by rw [← HW4.out]; exact (Below.refl _ _).alloc (Nat.le_refl _) _
          have X4 : Hid (w4.heap[wr.heap.size]? = some (.cells #[.int .i64 r.left, .slice av r.right.length cv] 57 (0, 0))) := by rw [← HW4.out]; exact bx_new _ _ _ rfl
          have HB4 := Lib.hid (HB.out.trans (hb4.mono HB.out.size))
          have HKR := Lib.hid (hkr.below hb4)
          have X1' := Lib.hid (bx_keep X1.out HB4.out)
          have HX1 := X1'
          rw [← HGT.out, ← HGN.out, ← HGS.out] at HX1
          have PS := Lib.hid (hasF g w.heap.size ar K.length cr r.right w4 HX1.out)
          have CS := Lib.hid (containsFuncSym 24 #[.pointer (some ⟨w.heap.size, 0, none⟩)] (fun s => !hasS g s) av cv r.right w4 (fun _ _ => by kernel_rfl) PS.out HKR.out)
          have htl : (K.take i).length = i := by simp; omega
          have hst : ∀ W, Below w4.heap.size w4 W → Rd AnyB W (.sl ((K.take i).map Rule.d)) [.slice ar (K.take i).length cr] := by
            intro W hb
            have h2 := (((HR.out.below HB4.out).below hb).start (i := i) (by simp; omega))
            rw [← List.map_take] at h2
            rw [htl]; exact h2
          have CRR := Lib.hid (fun W (hb : Below w4.heap.size w4 W) => containsFuncRule 27 #[.pointer (some ⟨wr.heap.size, 0, none⟩)] (fun x => cmpR x r == 0) ar cr (K.take i) W (fun _ _ => by kernel_rfl) (sameRF r wr.heap.size av cv (K.take i) W (bx_keep X4.out hb) (HKR.out.below hb)) (hst W hb))
          rw [htl] at CRR
          obtain ⟨lf, HLF⟩ := nameIt r.left
          obtain ⟨rn, HRNn⟩ := nameIt r.right.length
          obtain ⟨A1, HA1⟩ := nameIt (r.right.any fun s => !hasS g s)
          obtain ⟨A2, HA2⟩ := nameIt ((K.take i).any fun x => cmpR x r == 0)
          have hfr : faultR g i r = if lf < 0 ∨ gn ≤ lf then 3 else if 4 < rn then 2 else if A1 then 3 else if A2 then 6 else 0 := by
            unfold faultR; rw [HLF.out, HGN.out, HRNn.out, HA1.out, HK.out, HA2.out]
          rw [HLF.out] at c0 HW4
          rw [HRNn.out] at c1 HW4 CS
          rw [HA1.out] at CS
          simp only [HA2.out] at CRR
          have X4' := X4
          rw [HLF.out, HRNn.out] at X4'
          obtain ⟨y0, y1⟩ := bx_cells2 X4'.out
          obtain ⟨x0, x1, x2, x3⟩ := bx_cells4 X1'.out
          have hl4 : wr.heap.size < w4.heap.size := (Array.getElem?_eq_some_iff.1 X4'.out).1
          have hl1 : w.heap.size < w4.heap.size := (Array.getElem?_eq_some_iff.1 X1'.out).1
          have HFR := Lib.hid hfr
          have H1 := Lib.hid h1
          have hrn : (rn : Int) ≤ 9223372036854775807 := by have := HKR.out.bounds.2; rw [HRNn.out] at this; unfold maxLen at this hcv; omega
          subst hae
          clear hkr hb4 h1 hfr htl hst
          by_cases ha : lf < 0 ∨ gn ≤ lf
          · have hf : faultR g i r = 3 := by rw [HFR.out, if_pos ha]
            have HE2 : Hid (faultsFrom g 0 K = 3) := by show _ = _; rw [← H1.out, hf, if_neg (by decide)]
            have ha' : (decide (lf < 0) = true) ∨ (decide (lf < 0) = false ∧ decide (gn ≤ lf) = true) := by simp; omega
            clear hf ha
            rcases ha' with k1 | ⟨k1, k2⟩
            all_goals
              go_upto_region 8 with fail
              rw [HW4.out]
              go_wp2_with fail
              go_ret
              exact ⟨by rw [HE.out, HE2.out]; rfl, HB0.out.trans (HB4.out.mono HB0.out.size)⟩
          · have k1 : decide (lf < 0) = false := by simp; omega
            have k2 : decide (gn ≤ lf) = false := by simp; omega
            have HFa : Hid (faultR g i r = if 4 < rn then 2 else if A1 then 3 else if A2 then 6 else 0) := by show _ = _; rw [HFR.out, if_neg ha]
            clear ha HFR
            by_cases hb : 4 < rn
            · have k3 : (4 : Int) < (rn : Int) := by omega
              have hf : faultR g i r = 2 := by rw [HFa.out, if_pos hb]
              have HE2 : Hid (faultsFrom g 0 K = 2) := by show _ = _; rw [← H1.out, hf, if_neg (by decide)]
              clear hf
              go_upto_region 8 with fail
              rw [HW4.out]
              go_wp2_with fail
              go_ret
              exact ⟨by rw [HE.out, HE2.out]; rfl, HB0.out.trans (HB4.out.mono HB0.out.size)⟩
            · have k3 : ¬ (4 : Int) < (rn : Int) := by omega
              have HFb : Hid (faultR g i r = if A1 then 3 else if A2 then 6 else 0) := by show _ = _; rw [HFa.out, if_neg hb]
              clear HFa
              go_upto_region 8 with fail
              rw [HW4.out]
              go_wp2_with fail
              refine CS.out.mono ?_
              rintro e w5 ⟨rfl, hb5⟩
              have HB45 := Lib.hid hb5
              have HB5 := Lib.hid (HB4.out.trans (hb5.mono HB4.out.size))
              obtain ⟨x0, x1, x2, x3⟩ := bx_cells4 (bx_keep X1'.out hb5)
              have hl15 : w.heap.size < w5.heap.size := (Array.getElem?_eq_some_iff.1 (bx_keep X1'.out hb5)).1
              clear hb5 y0 y1
              cases A1 with
              | true =>
                have hf : faultR g i r = 3 := by rw [HFb.out, if_pos rfl]
                have HE2 : Hid (faultsFrom g 0 K = 3) := by show _ = _; rw [← H1.out, hf, if_neg (by decide)]
                clear hf
                go_wp2_with fail
                go_ret
                exact ⟨by rw [HE.out, HE2.out]; rfl, HB0.out.trans (HB5.out.mono HB0.out.size)⟩
              | false =>
                go_wp2_with fail
                refine (CRR.out _ HB45.out).mono ?_
                rintro e w6 ⟨rfl, hb6⟩
                have HB6 := Lib.hid (HB5.out.trans (hb6.mono HB5.out.size))
                clear hb6 x0 x1 x2 x3
                cases A2 with
                | true =>
                  have hf : faultR g i r = 6 := by rw [HFb.out]; rfl
                  have HE2 : Hid (faultsFrom g 0 K = 6) := by show _ = _; rw [← H1.out, hf, if_neg (by decide)]
                  clear hf
                  go_wp2_with fail
                  go_ret
                  exact ⟨by rw [HE.out, HE2.out]; rfl, HB0.out.trans (HB6.out.mono HB0.out.size)⟩
                | false =>
                  have hf : faultR g i r = 0 := by rw [HFb.out]; rfl
                  have HE2 : Hid (faultsFrom g (i + 1) (K.drop (i + 1)) = faultsFrom g 0 K) := by show _ = _; rw [← H1.out, hf, if_pos rfl]
                  clear hf
                  go_wp2_with fail
                  go_roundg (K.length - (i + 1))
                  case measure => omega
                  case rel => exact ⟨i + 1, by omega, by omega, by go_num, HB6, HE2⟩
        · have hlt' : ¬ (i : Int) < (K.length : Int) := by omega
          have HE2 : Hid (faultsFrom g 0 K = 0) := by show _ = _; rw [← HF.out, List.drop_of_length_le (by omega)]; rfl
          go_wp2_with fail
          go_ret
          exact ⟨by rw [HE.out, HE2.out]; rfl, HB0.out.trans (HB.out.mono HB0.out.size)⟩
end Go.Proofs.YtgcfpbjifjklbaaDoor
