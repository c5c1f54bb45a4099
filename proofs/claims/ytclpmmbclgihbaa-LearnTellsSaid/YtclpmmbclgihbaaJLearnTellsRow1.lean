/- Own small laws: a slice value that reads as a list of one-cell values. Own small laws, more: rows of the call's own, written in place; what calls leave. A row of one-cell values in memory, written in place. Contracts of the library's generic functions over slices of ints: Equal, Delete. Nested data in memory: whole numbers, truth values, strings, slices and structs, read out of cells. Contracts of the library's generic functions over slices of ints: Clone, Grow of nil, Concat. A table in memory whose rows are rows of numbers of the call's own, each grown by itself. Trees, in plain Lean, and how they read. Symbols and rules of grammars, in plain Lean, and how they read. The contracts of cmp.Compare, cmp.Or, slices.Compare of whole numbers. Grammars, in plain Lean: which are valid. Maps that are sets: only 'true' is stored. Keys of rules, as RuleFault makes them: plain law. The contract of word in dfa.Parts: four bytes more. Plain: a search in breadth finds the least word, by length and then symbol by symbol, that leads to a marked node. Plain: how far nodes are from a marked one; the greedy word is the least one, so it is the word of the search in breadth. Plain: automata, their errors, their pairs of states (-1: dead). The contracts of dfa.to, dfa.at, the reference's Ends. A still head by the quiet steps. -/
import Derived.WalkKit
import Derived.ProofKit
import Derived.Below
import Derived.Deep.Slices
import Derived.Lib.Hide
import Derived.Deep.RegionLaw
import Derived.Laws.IdiomCopy
import Derived.Deep.QuietTactic
import Derived.BigQuiet
import Derived.Outline
import Derived.Lib.SlicesDelete
import Derived.Lib.SliceRun
import Derived.Laws.AppendOwnNone
import Derived.Lib.AppendZerosOnto
import Derived.Deep.OwnRows
import Derived.Test.YtclpmmbclgihbaaRows
import Derived.Maps.AppendAt
import Derived.Deep.AppendLies
import Derived.Deep.Onto
import Derived.Deep.LoopGhost
import Derived.Deep.Cut
import Derived.Shelf.Abstract
import Derived.Maps.OwnSet
import Derived.Maps.Views
import Derived.Deep.DeepCutAuto
import Derived.StillTailTactics
namespace Go.Proofs.Ytclpmmbclgihbaa
open Go.RowKit

/-- the slice value v reads, in w, as the list L of values of one cell each -/
def Sl (w : World) (v : Value) (L : List Value) : Prop :=
  ∃ a cap, v = .slice a L.length cap ∧ L.length ≤ cap ∧ cap ≤ maxLen ∧ (a = none → cap = 0) ∧ ∀ i (h : i < L.length), ∃ x, a = some x ∧ w.cell? (x.add i) = some L[i]

theorem Sl.cases {w : World} {v : Value} {L : List Value} (h : Sl w v L) :
    (L = [] ∧ ∃ a cap, v = .slice a 0 cap ∧ cap ≤ maxLen ∧ (a = none → cap = 0)) ∨
    ∃ b off cap, v = .slice (some ⟨b, off, none⟩) L.length cap ∧ 0 < L.length ∧ L.length ≤ cap ∧ cap ≤ maxLen ∧ ∀ i (h : i < L.length), w.cell? ⟨b, off + i, none⟩ = some L[i] := by
  obtain ⟨a, cap, rfl, hl, hc, hn, hx⟩ := h
  rcases Nat.eq_zero_or_pos L.length with h0 | h0
  · left
    obtain rfl := List.eq_nil_of_length_eq_zero h0
    exact ⟨rfl, a, cap, rfl, hc, hn⟩
  · right
    obtain ⟨⟨b, off, spot⟩, rfl, h1⟩ := hx 0 h0
    have hs : spot = none := by simpa [Addr.add] using World.cell?_spot h1
    subst hs
    refine ⟨b, off, cap, rfl, h0, hl, hc, fun i hi => ?_⟩
    obtain ⟨y, hy, h2⟩ := hx i hi
    cases hy
    rw [← h2]
    congr 1
    unfold Addr.add
    by_cases e : i = 0 <;> simp [e]

theorem nameIt {α : Type} (a : α) : ∃ x, Hid (a = x) := ⟨a, rfl⟩

theorem lt_of_cell {w : World} {x : Addr} {v : Value} (h : w.cell? x = some v) : x.block < w.heap.size := by
  unfold World.cell? at h
  split at h
  · rename_i e
    exact (Array.getElem?_eq_some_iff.1 e).1
  · cases h

theorem add_block (x : Addr) (i : Nat) : (x.add i).block = x.block := by
  unfold Addr.add
  by_cases e : i = 0 <;> simp [e]

/-- what was there when a call began reads behind it as before -/
theorem Sl.keep {w w' : World} {v : Value} {L : List Value} (h : Sl w v L) (hb : Below w.heap.size w w') : Sl w' v L := by
  obtain ⟨a, cap, rfl, hl, hc, hn, hx⟩ := h
  refine ⟨a, cap, rfl, hl, hc, hn, fun i hi => ?_⟩
  obtain ⟨x, rfl, h1⟩ := hx i hi
  exact ⟨x, rfl, by rw [← h1]; exact hb.cell (lt_of_cell h1)⟩

/-- at an index inside, the address is known -/
theorem Sl.at {w : World} {a : Option Addr} {n cap : Nat} {L : List Value} (h : Sl w (.slice a n cap) L) {k : Nat} (hk : k < n) :
    ∃ b off, a = some ⟨b, off, none⟩ ∧ ∀ i (h : i < L.length), w.cell? ⟨b, off + i, none⟩ = some L[i] := by
  rcases h.cases with ⟨_, a', c', e, _⟩ | ⟨b, off, c', e, _, _, _, hx⟩
  · cases e; omega
  · cases e; exact ⟨b, off, rfl, hx⟩

theorem Sl.len {w : World} {a : Option Addr} {n cap : Nat} {L : List Value} (h : Sl w (.slice a n cap) L) : n = L.length ∧ n ≤ cap ∧ cap ≤ maxLen := by
  obtain ⟨a', c', e, hl, hc, _, _⟩ := h
  cases e; exact ⟨rfl, hl, hc⟩

theorem Sl.form {w : World} {v : Value} {L : List Value} (h : Sl w v L) : ∃ a cap, v = .slice a L.length cap := by
  obtain ⟨a', c', e, _⟩ := h; exact ⟨a', c', e⟩

/-- a row of the call's own, of one cell an element, reads as a slice -/
theorem sl_of_own {w : World} {B : Nat} {e : TypeId} {v : Value} {n : Nat} {xs : List Value} (h : w.ownsRow B e 1 v n xs) : Sl w v xs := by
  obtain ⟨hl, h⟩ := h
  rw [Nat.mul_one] at hl
  rcases h with ⟨rfl, rfl⟩ | ⟨g, cap, cur, rfl, hg, hh, hn, hc, hs, ht⟩
  · obtain rfl := List.eq_nil_of_length_eq_zero hl
    exact ⟨none, 0, rfl, by simp, by simp, fun _ => rfl, fun i hi => by simp at hi⟩
  · subst hl
    refine ⟨_, cap, rfl, hn, hc, (fun h => by cases h), fun i hi => ⟨_, rfl, ?_⟩⟩
    have : (⟨g, 0, none⟩ : Addr).add i = ⟨g, i, none⟩ := by unfold Addr.add; by_cases e : i = 0 <;> simp [e]
    rw [this]
    simp only [World.cell?, hh]
    rw [Nat.mul_one] at ht
    have h2 : xs[i]? = cur[i]? := by
      conv => lhs; rw [← ht]
      rw [List.getElem?_take, if_pos hi]; simp
    rw [List.getElem?_eq_getElem hi] at h2
    simpa using h2.symm

/-- what a program's table says of a slice type and its elements' type -/
structure ElemT (P : Program) (t e : TypeId) (size bytes : Nat) : Prop where
  und : P.underlying t = some (.slice e)
  info : ∃ (i : TypeInfo) (z : Value), P.info? e = some i ∧ i.zero = some z ∧ i.size = size ∧ i.bytes = bytes ∧ z.cells.size = size
  pos : 0 < size

theorem ElemT.mk' {P : Program} {t e : TypeId} {size bytes : Nat} {z : Value} (h : P.underlying t = some (.slice e)) (hi : (P.info? e).map (fun i => (i.zero, i.size, i.bytes)) = some (some z, size, bytes)) (hz : z.cells.size = size) (hp : 0 < size) : ElemT P t e size bytes := by
  obtain ⟨i, h1, h2, h3, h4⟩ := info_parts hi
  exact ⟨h, ⟨i, z, h1, h2, h3, h4, hz⟩, hp⟩

section
open Go.ChangeShapes Go.WideShapes Go.Deep
variable {H : Type} {enc : TypeId × Value → H} {P : Program} {w : World}

end

end Go.Proofs.Ytclpmmbclgihbaa
namespace Go.Proofs.Ytclpmmbclgihbaa
open Go.RowKit

/-- a row that was there stays the call's own over whatever makes new memory only -/
theorem own_keep {w w' : World} {B : Nat} {e : TypeId} {s : Nat} {v : Value} {n : Nat} {xs : List Value} (h : w.ownsRow B e s v n xs) (hb : Below w.heap.size w w') : w'.ownsRow B e s v n xs := by
  obtain ⟨h1, h2⟩ := h
  refine ⟨h1, ?_⟩
  rcases h2 with h2 | ⟨g, cap, cur, rfl, hg, hh, r⟩
  · exact .inl h2
  · refine .inr ⟨g, cap, cur, rfl, hg, ?_, r⟩
    rw [hb.block g (Array.getElem?_eq_some_iff.1 hh).1]; exact hh

theorem below_grown {w w' : World} {B : Nat} {row : Option Nat} (hg : w.grownBy w' row) (hB : B ≤ w.heap.size) (hr : ∀ k, row = some k → B ≤ k) : Below B w w' := (Below.refl B w).grown hg hB hr

theorem grown_below {w w' : World} (hb : Below w.heap.size w w') (row : Option Nat) : w.grownBy w' row := ⟨hb.os, hb.tape, hb.output, hb.size, fun k hk _ => hb.block k hk⟩

theorem grown_trans {a b c : World} {row : Option Nat} (h : a.grownBy b row) (k : b.grownBy c row) : a.grownBy c row :=
  ⟨k.os.trans h.os, k.tape.trans h.tape, k.output.trans h.output, Nat.le_trans h.size k.size, fun i hi hn => (k.block i (Nat.lt_of_lt_of_le hi h.size) hn).trans (h.block i hi hn)⟩

theorem below_drewN (w : World) (n : Nat) : Below w.heap.size w (w.drewN n) := ⟨rfl, rfl, rfl, Nat.le_refl _, fun _ _ => rfl⟩

theorem grown_cell (w : World) (a : Addr) (v : Value) : w.grownBy (w.setCell a v) (some a.block) := ⟨rfl, rfl, rfl, by simp [World.setCell], fun k _ hn => Below.heap_setCell _ _ _ _ (fun e => hn (by rw [e]))⟩

theorem grown_drew (w : World) (row : Option Nat) : w.grownBy w.drew row := ⟨rfl, rfl, rfl, Nat.le_refl _, fun _ _ _ => rfl⟩

/-- the rest of a slice, cut inside its capacity -/
theorem Sl.rest {w : World} {a : Option Addr} {n cap k : Nat} {L : List Value} (h : Sl w (.slice a n cap) L) (hk : k ≤ n) (hc : cap ≠ k) : Sl w (.slice (a.map fun x => x.add k) (n - k) (cap - k)) (L.drop k) := by
  obtain ⟨a', cap', e, hl, hcm, hn, hx⟩ := h
  cases e
  refine ⟨a.map (fun x => x.add k), cap - k, by simp, by simp; omega, by omega, fun h => ?_, fun i hi => ?_⟩
  · have := hn (by simpa using h); omega
  simp at hi
  obtain ⟨x, rfl, h1⟩ := hx (k + i) (by omega)
  exact ⟨x.add k, rfl, by rw [Deep.add_add, h1]; simp⟩

/-- a part of a slice, as the walk writes it -/
theorem Sl.part {w : World} {a : Option Addr} {n cap : Nat} {L : List Value} (h : Sl w (.slice a n cap) L) {i j : Nat} (hij : i ≤ j) (hj : j ≤ n) :
    Sl w (.slice (if cap = i then a else a.map fun x => x.add i) (j - i) (cap - i)) ((L.drop i).take (j - i)) := by
  obtain ⟨a', cap', e, hl, hcm, hn, hx⟩ := h
  cases e
  refine ⟨if cap = i then a else a.map (fun x => x.add i), cap - i, by simp [Nat.min_eq_left (show j - i ≤ L.length - i by omega)], by simp; omega, by omega, fun h => ?_, fun k hk => ?_⟩
  · by_cases hc : cap = i
    · omega
    · rw [if_neg hc] at h
      have := hn (by simpa using h); omega
  · simp at hk
    have hc : ¬ cap = i := by omega
    obtain ⟨x, rfl, h1⟩ := hx (i + k) (by omega)
    rw [if_neg hc]
    exact ⟨x.add i, rfl, by rw [Deep.add_add, h1]; simp⟩

theorem Sl.start {w : World} {a : Option Addr} {n cap : Nat} {L : List Value} (h : Sl w (.slice a n cap) L) {j : Nat} (hj : j ≤ n) : Sl w (.slice a j cap) (L.take j) := by
  obtain ⟨a', cap', e, hl, hcm, hn, hx⟩ := h
  cases e
  refine ⟨a, cap, by simp [Nat.min_eq_left hj], by simp; omega, hcm, hn, fun k hk => ?_⟩
  simp at hk
  obtain ⟨x, rfl, h1⟩ := hx k (by omega)
  exact ⟨x, rfl, by rw [h1]; simp⟩

theorem own_len {w : World} {B : Nat} {e : TypeId} {s : Nat} {v : Value} {n : Nat} {xs : List Value} (h : w.ownsRow B e s v n xs) : ∃ a cap, v = .slice a n cap ∧ n ≤ cap ∧ cap ≤ maxLen := by
  rcases h.2 with ⟨rfl, rfl⟩ | ⟨g, cap, cur, rfl, _, _, h1, h2, _⟩
  · exact ⟨_, _, rfl, by simp, by simp⟩
  · exact ⟨_, _, rfl, h1, h2⟩

/-- append of a whole slice of one-cell elements, to a row of the call's own -/
theorem wp_appS {P : Program} {ops : Array Oper} {rest : List Oper} {o : Oper} {a : Act} {Q : Exit → Act → World → Prop} {w : World} {t e : TypeId} {bytes : Nat} (E : ElemT P t e 1 bytes)
    (hgd : o.guard = none) (s x : Operand) (ho : o.op = .call { callee := .builtin .append, args := #[s, x], argTypes := #[t, t] })
    {B : Nat} {v u : Value} {n : Nat} {xs L : List Value} (hown : w.ownsRow B e 1 v n xs) (hs : a.eval s = v) (hsl : Sl w u L) (hx : a.eval x = u)
    (h1 : ∀ z ∈ L, z.oneCell' = true) (hb : (n + L.length) * bytes ≤ 140737488355328) (hm : n + L.length ≤ maxLen) (hB : B ≤ w.heap.size)
    (h : ∀ v' w', w'.ownsRow B e 1 v' (n + L.length) (xs ++ L) → w.grownBy w' v.ownBlock → wpList P ops Q rest (a.put o.dst v') w') :
    wpList P ops Q (o :: rest) a w := by
  obtain ⟨hu, ⟨i, z, hi, hz, hsz, hby, hzs⟩, hp⟩ := E
  obtain ⟨a', cap, rfl, hl, hc, hn, hcell⟩ := hsl
  cases a' with
  | none =>
    obtain rfl : cap = 0 := hn rfl
    have hL : L = [] := List.eq_nil_of_length_eq_zero (by omega)
    subst hL
    refine wpList_append_own_none hgd s x t ho B e i 1 hu hi v n xs hs hown hx (h v w (by simpa using hown) ?_)
    exact ⟨rfl, rfl, rfl, Nat.le_refl _, fun _ _ _ => rfl⟩
  | some ad =>
    refine wpList_append_own w hgd s x t ho B e i z 1 bytes hu hi hz hsz hby hzs hp v n xs hs hown ad L.length cap L hx (by simp) ?_ h1 hm hb hB fun v' w' h2 h3 _ => h v' w' h2 h3
    intro j y hj
    obtain ⟨hj1, hj2⟩ := List.getElem?_eq_some_iff.1 hj
    obtain ⟨y', hy, h2⟩ := hcell j hj1
    cases hy
    rw [h2, hj2]

theorem bx_keep {w w' : World} {b : Nat} {o : Obj} (h : w.heap[b]? = some o) (hb : Below w.heap.size w w') : w'.heap[b]? = some o := by
  rw [hb.block b (Array.getElem?_eq_some_iff.1 h).1]; exact h

theorem bx_cells3 {w : World} {b : Nat} {x0 x1 x2 : Value} {T : TypeId} (h : w.heap[b]? = some (.cells #[x0, x1, x2] T (0, 0))) :
    w.cell? ⟨b, 0, none⟩ = some x0 ∧ w.cell? ⟨b, 0 + 1, none⟩ = some x1 ∧ w.cell? ⟨b, 0 + 2, none⟩ = some x2 := by
  refine ⟨?_, ?_, ?_⟩ <;> simp [World.cell?, h]

theorem bx_free3 {w : World} {b : Nat} {x0 x1 x2 : Value} {T : TypeId} (h : w.heap[b]? = some (.cells #[x0, x1, x2] T (0, 0))) :
    w.frozen? ⟨b, 0, none⟩ = false ∧ w.frozen? ⟨b, 0 + 1, none⟩ = false ∧ w.frozen? ⟨b, 0 + 2, none⟩ = false := by
  refine ⟨?_, ?_, ?_⟩ <;> simp [World.frozen?, h]

theorem bx_cells2 {w : World} {b : Nat} {x0 x1 : Value} {T : TypeId} (h : w.heap[b]? = some (.cells #[x0, x1] T (0, 0))) :
    w.cell? ⟨b, 0, none⟩ = some x0 ∧ w.cell? ⟨b, 0 + 1, none⟩ = some x1 := by
  refine ⟨?_, ?_⟩ <;> simp [World.cell?, h]
theorem bx_cells1 {w : World} {b : Nat} {x0 : Value} {T : TypeId} (h : w.heap[b]? = some (.cells #[x0] T (0, 0))) : w.cell? ⟨b, 0, none⟩ = some x0 := by
  simp [World.cell?, h]
theorem bx_free1 {w : World} {b : Nat} {x0 : Value} {T : TypeId} (h : w.heap[b]? = some (.cells #[x0] T (0, 0))) : w.frozen? ⟨b, 0, none⟩ = false := by
  simp [World.frozen?, h]
/-- one cell of a box, stored into -/
theorem bx_set {w : World} {b : Nat} {cs : Array Value} {T : TypeId} (h : w.heap[b]? = some (.cells cs T (0, 0))) (j : Nat) (v : Value) : (w.setCell ⟨b, j, none⟩ v).heap[b]? = some (.cells (cs.setIfInBounds j v) T (0, 0)) := by
  simp [World.setCell, Array.getElem?_modify, h]
theorem bx_other {w : World} {b c : Nat} {o : Obj} (h : w.heap[b]? = some o) (hne : b ≠ c) (j : Nat) (v : Value) : (w.setCell ⟨c, j, none⟩ v).heap[b]? = some o := by
  rw [Below.heap_setCell _ _ _ _ hne]; exact h
theorem bx_new (w : World) (o : Obj) (g : Nat) (hg : g = w.heap.size) : (w.alloc o).heap[g]? = some o := by subst hg; exact heap_alloc_new w o

end Go.Proofs.Ytclpmmbclgihbaa
namespace Go.Proofs.Ytclpmmbclgihbaa
open Go.RowKit

theorem made_atV (z : Value) (n j : Nat) (h : j < n) : (madeCells #[z] n)[j]? = some z := by
  simp [madeCells, h, Nat.mod_one]
/-- the row in block g has m cells, A k at place k -/
def Vrow (e : TypeId) (g m : Nat) (A : Nat → Value) (wr : World) : Prop := ∃ cs, wr.heap[g]? = some (.cells cs e (0, 0)) ∧ cs.size = m ∧ ∀ k, k < m → cs[k]? = some (A k)
section
variable {e : TypeId} {g m : Nat} {A A' : Nat → Value} {wr w' : World}
theorem Vrow.lt (h : Vrow e g m A wr) : g < wr.heap.size := by obtain ⟨cs, h1, _⟩ := h; exact (Array.getElem?_eq_some_iff.1 h1).1
theorem Vrow.keep (h : Vrow e g m A wr) (hb : Below wr.heap.size wr w') : Vrow e g m A w' := by obtain ⟨cs, h1, h2⟩ := h; exact ⟨cs, bx_keep h1 hb, h2⟩
theorem Vrow.grown {row : Option Nat} (h : Vrow e g m A wr) (hg : wr.grownBy w' row) (hr : row ≠ some g) : Vrow e g m A w' := by obtain ⟨cs, h1, h2⟩ := h; exact ⟨cs, (hg.block g (Array.getElem?_eq_some_iff.1 h1).1 (fun e => hr e.symm)).trans h1, h2⟩
theorem Vrow.cell (h : Vrow e g m A wr) {k : Nat} (hk : k < m) : wr.cell? ⟨g, k, none⟩ = some (A k) := by obtain ⟨cs, h1, h2, h3⟩ := h; simp [World.cell?, h1, h3 k hk]
theorem Vrow.free (h : Vrow e g m A wr) (k : Nat) : wr.frozen? ⟨g, k, none⟩ = false := by obtain ⟨cs, h1, h2, h3⟩ := h; simp [World.frozen?, h1]
theorem Vrow.eq (h : Vrow e g m A wr) (he : ∀ k, k < m → A k = A' k) : Vrow e g m A' wr := by obtain ⟨cs, h1, h2, h3⟩ := h; exact ⟨cs, h1, h2, fun k hk => by rw [h3 k hk, he k hk]⟩
theorem Vrow.set (h : Vrow e g m A wr) {j : Nat} {x : Value} (hj : j < m) (he : ∀ k, k < m → A' k = if k = j then x else A k) : Vrow e g m A' (wr.setCell ⟨g, j, none⟩ x) := by
  obtain ⟨cs, h1, h2, h3⟩ := h
  refine ⟨cs.setIfInBounds j x, bx_set h1 _ _, by simpa using h2, fun k hk => ?_⟩
  rw [Array.getElem?_setIfInBounds, he k hk]
  by_cases e : j = k
  · subst e; rw [if_pos rfl, if_pos (by omega)]; simp
  · rw [if_neg e, h3 k hk, if_neg (fun h => e h.symm)]
theorem Vrow.other (h : Vrow e g m A wr) {b : Nat} (hne : g ≠ b) (j : Nat) (v : Value) : Vrow e g m A (wr.setCell ⟨b, j, none⟩ v) := by obtain ⟨cs, h1, h2⟩ := h; exact ⟨cs, bx_other h1 hne _ _, h2⟩
theorem vrow_new (w : World) (e : TypeId) (z : Value) (m : Nat) {g : Nat} (hg : g = w.heap.size) : Vrow e g m (fun _ => z) (w.alloc (.cells (madeCells #[z] m) e)) := by
  subst hg
  exact ⟨_, bx_new _ _ _ rfl, size_madeCells _ _, fun k hk => made_atV _ _ _ hk⟩
end
end Go.Proofs.Ytclpmmbclgihbaa
namespace Go.Proofs.Ytclpmmbclgihbaa
open Go.RowKit

def ints (l : List Int) : List Value := l.map (Value.int .i64)
theorem ints_len (l : List Int) : (ints l).length = l.length := by simp [ints]
theorem ints_get (l : List Int) (i : Nat) (h : i < (ints l).length) : (ints l)[i] = .int .i64 (l[i]'(by simpa [ints] using h)) := by simp [ints]
theorem ints_append (a b : List Int) : ints (a ++ b) = ints a ++ ints b := by simp [ints]

theorem elInt : ElemT Try.prog 22 3 1 8 := ElemT.mk' (z := .int .i64 0) Try.underlying22 (by kernel_rfl) rfl (by decide)

set_option maxHeartbeats 400000 in
theorem equal_ne (a a' : Option Addr) (n n' cap cap' : Nat) (w : World) (h : n ≠ n') (hn : n ≤ maxLen) (hn' : n' ≤ maxLen) :
    Calls Try.prog 9 #[.slice a n cap, .slice a' n' cap'] w fun e w' => e = .returned (.bool false) ∧ w = w' := by
  unfold maxLen at hn hn'
  have hb : ((n : Int) != (n' : Int)) = true := by rw [bne_iff_ne]; omega
  go_enter Try.func9, Try.ntmps9
  go_wp2
  go_ret
  exact ⟨rfl, rfl⟩

set_option maxHeartbeats 400000 in
theorem equal_eq (a a' : Option Addr) (cap cap' : Nat) (x y : List Int) (w : World) (hl : x.length = y.length) (hx : Sl w (.slice a x.length cap) (ints x)) (hy : Sl w (.slice a' x.length cap') (ints y)) :
    Calls Try.prog 9 #[.slice a x.length cap, .slice a' x.length cap'] w fun e w' => e = .returned (.bool (x == y)) ∧ Below w.heap.size w w' := by
  have HX := Lib.hid hx
  have HY := Lib.hid hy
  have hm := (hx.len).2
  have HL := Lib.hid hl
  clear hx hy hl
  unfold maxLen at hm
  obtain ⟨hm1, hm2⟩ := hm
  have hb : ((x.length : Int) != (x.length : Int)) = false := by simp
  go_enter Try.func9, Try.ntmps9
  go_wp2
  go_loopw [13] (fun t wr => ∃ k : Nat, k ≤ x.length ∧ t = .int .i64 k ∧ Hid (x.take k = y.take k) ∧ Hid (Below w.heap.size w wr)) (fun t _ => x.length - (intOf t).toNat)
  case atStart => exact ⟨0, by omega, rfl, rfl, Below.refl _ _⟩
  case round =>
    obtain ⟨k, hk, rfl, HT, HB⟩ := hrel
    by_cases hlt : k < x.length
    · obtain ⟨b, off, rfl, hc⟩ := (HX.out.keep HB.out).at hlt
      obtain ⟨b', off', rfl, hc'⟩ := (HY.out.keep HB.out).at hlt
      have hcell := hc k (by rw [ints_len]; exact hlt)
      have hcell' := hc' k (by rw [ints_len, ← HL.out]; exact hlt)
      rw [ints_get] at hcell hcell'
      clear hc hc'
      have h1 : (k : Int) < (x.length : Int) := by omega
      have HS : Hid (∀ p q, x[k] = p → y[k]'(by rw [← HL.out]; exact hlt) = q → (p = q → x.take (k + 1) = y.take (k + 1)) ∧ (p ≠ q → (x == y) = false)) := by
        intro p q hp hq
        constructor
        · intro e
          rw [List.take_succ_eq_append_getElem hlt, List.take_succ_eq_append_getElem (by rw [← HL.out]; exact hlt), HT.out, hp, hq, e]
        · intro e
          rw [beq_eq_false_iff_ne]
          intro exy
          subst exy
          exact e (hp.symm.trans hq)
      generalize hp : x[k] = p at *
      generalize hq : y[k]'(by rw [← HL.out]; exact hlt) = q at *
      have HS2 := Lib.hid (HS.out p q rfl rfl)
      clear HS hp hq
      by_cases hpq : p = q
      · subst hpq
        have hne : (p != p) = false := by simp
        have HE := Lib.hid (HS2.out.1 rfl)
        clear HS2
        go_wp2
        go_quiet (fail)
        go_wp2
        exact ⟨⟨k + 1, by omega, by go_num, HE.out, HB.out.trans ((below_drewN wr _).mono HB.out.size)⟩, by simp [intOf]; omega⟩
      · have hne : (p != q) = true := by rw [bne_iff_ne]; exact hpq
        have HE := Lib.hid (HS2.out.2 hpq)
        have HPQ := Lib.hid hpq
        clear HS2 hpq
        go_wp2
        go_quiet (fail)
        go_wp2
        go_ret
        rw [HE.out]
        exact ⟨rfl, HB.out.trans ((below_drewN wr _).mono HB.out.size)⟩
    · have HE : Hid ((x == y) = true) := by
        show _ = _
        have := HT.out
        rw [List.take_of_length_le (by omega), List.take_of_length_le (by have := HL.out; omega)] at this
        rw [this]; simp
      go_wp2
      go_ret
      rw [HE.out]
      exact ⟨rfl, HB.out⟩

/-- slices.Equal at []int -/
theorem equal (v v' : Value) (x y : List Int) (w : World) (hx : Sl w v (ints x)) (hy : Sl w v' (ints y)) :
    Calls Try.prog 9 #[v, v'] w fun e w' => e = .returned (.bool (x == y)) ∧ Below w.heap.size w w' := by
  obtain ⟨a, cap, rfl⟩ := hx.form
  obtain ⟨a', cap', rfl⟩ := hy.form
  rw [ints_len] at hx hy ⊢
  rw [ints_len]
  by_cases h : x.length = y.length
  · rw [← h] at hy ⊢
    exact equal_eq a a' cap cap' x y w h hx hy
  · refine (equal_ne a a' _ _ cap cap' w h ?_ ?_).mono ?_
    · exact Nat.le_trans hx.len.2.1 hx.len.2.2
    · exact Nat.le_trans hy.len.2.1 hy.len.2.2
    · rintro e w' ⟨rfl, rfl⟩
      have : (x == y) = false := by rw [beq_eq_false_iff_ne]; intro e; exact h (by rw [e])
      rw [this]
      exact ⟨rfl, Below.refl _ _⟩

end Go.Proofs.Ytclpmmbclgihbaa
namespace Go.Proofs.Ytclpmmbclgihbaa
open Go.RowKit

inductive D where
  | int (n : Int)
  | bool (b : Bool)
  | str (s : ByteArray)
  | sl (l : List D)
  | agg (l : List D)

mutual
/-- the cells cs read as the datum, in blocks of S alone -/
def Rd (S : Nat → Prop) (w : World) : D → List Value → Prop
  | .int n, cs => cs = [.int .i64 n]
  | .bool b, cs => cs = [.bool b]
  | .str s, cs => cs = [.string s]
  | .sl ds, cs => ∃ a cap L, cs = [.slice a ds.length cap] ∧ ds.length ≤ cap ∧ cap ≤ maxLen ∧ (a = none → cap = 0) ∧ (∀ i (h : i < L.length), ∃ x, a = some x ∧ S x.block ∧ w.cell? (x.add i) = some L[i]) ∧ RdAll S w ds L
  | .agg ds, cs => RdAll S w ds cs
def RdAll (S : Nat → Prop) (w : World) : List D → List Value → Prop
  | [], cs => cs = []
  | d :: ds, cs => ∃ c1 c2, cs = c1 ++ c2 ∧ Rd S w d c1 ∧ RdAll S w ds c2
end

mutual
def D.cells : D → Nat
  | .int _ => 1
  | .bool _ => 1
  | .str _ => 1
  | .sl _ => 1
  | .agg l => D.cellsAll l
def D.cellsAll : List D → Nat
  | [] => 0
  | d :: l => D.cells d + D.cellsAll l
end

def AnyB : Nat → Prop := fun _ => True

mutual
theorem Rd.len {S : Nat → Prop} {w : World} : ∀ (d : D) (cs : List Value), Rd S w d cs → cs.length = d.cells
  | .int n, cs, h => by simp [Rd] at h; simp [h, D.cells]
  | .bool n, cs, h => by simp [Rd] at h; simp [h, D.cells]
  | .str n, cs, h => by simp [Rd] at h; simp [h, D.cells]
  | .sl ds, cs, h => by obtain ⟨a, cap, L, rfl, _⟩ := h; simp [D.cells]
  | .agg ds, cs, h => by rw [D.cells]; exact RdAll.len ds cs h
theorem RdAll.len {S : Nat → Prop} {w : World} : ∀ (ds : List D) (cs : List Value), RdAll S w ds cs → cs.length = D.cellsAll ds
  | [], cs, h => by simp [RdAll] at h; simp [h, D.cellsAll]
  | d :: ds, cs, h => by
    obtain ⟨c1, c2, rfl, h1, h2⟩ := h
    simp [D.cellsAll, Rd.len d c1 h1, RdAll.len ds c2 h2]
end

mutual
/-- what lies in blocks that are as they were reads as it did; S may be widened, too -/
theorem Rd.keep {S S' : Nat → Prop} {w w' : World} (hS : ∀ k, S k → k < w.heap.size → S' k ∧ w'.heap[k]? = w.heap[k]?) : ∀ (d : D) (cs : List Value), Rd S w d cs → Rd S' w' d cs
  | .int n, cs, h => h
  | .bool n, cs, h => h
  | .str n, cs, h => h
  | .sl ds, cs, h => by
    obtain ⟨a, cap, L, rfl, h1, h2, h3, h4, h5⟩ := h
    refine ⟨a, cap, L, rfl, h1, h2, h3, fun i hi => ?_, RdAll.keep hS ds L h5⟩
    obtain ⟨x, rfl, hx, hc⟩ := h4 i hi
    have hlt := lt_of_cell hc
    rw [add_block] at hlt
    obtain ⟨k1, k2⟩ := hS _ hx hlt
    refine ⟨x, rfl, k1, ?_⟩
    rw [← hc]
    exact World.cell?_of_block (w := w) (by rw [add_block]; exact k2)
  | .agg ds, cs, h => RdAll.keep hS ds cs h
theorem RdAll.keep {S S' : Nat → Prop} {w w' : World} (hS : ∀ k, S k → k < w.heap.size → S' k ∧ w'.heap[k]? = w.heap[k]?) : ∀ (ds : List D) (cs : List Value), RdAll S w ds cs → RdAll S' w' ds cs
  | [], cs, h => h
  | d :: ds, cs, h => by
    obtain ⟨c1, c2, rfl, h1, h2⟩ := h
    exact ⟨c1, c2, rfl, Rd.keep hS d c1 h1, RdAll.keep hS ds c2 h2⟩
end

theorem Rd.below {S : Nat → Prop} {w w' : World} {d : D} {cs : List Value} (h : Rd S w d cs) (hb : Below w.heap.size w w') : Rd S w' d cs :=
  Rd.keep (fun k hk hlt => ⟨hk, hb.block k hlt⟩) d cs h
theorem RdAll.below {S : Nat → Prop} {w w' : World} {d : List D} {cs : List Value} (h : RdAll S w d cs) (hb : Below w.heap.size w w') : RdAll S w' d cs :=
  RdAll.keep (fun k hk hlt => ⟨hk, hb.block k hlt⟩) d cs h
theorem Rd.mono {S S' : Nat → Prop} {w : World} {d : D} {cs : List Value} (h : Rd S w d cs) (hs : ∀ k, S k → k < w.heap.size → S' k) : Rd S' w d cs :=
  Rd.keep (fun k hk hlt => ⟨hs k hk hlt, rfl⟩) d cs h
theorem RdAll.mono {S S' : Nat → Prop} {w : World} {d : List D} {cs : List Value} (h : RdAll S w d cs) (hs : ∀ k, S k → k < w.heap.size → S' k) : RdAll S' w d cs :=
  RdAll.keep (fun k hk hlt => ⟨hs k hk hlt, rfl⟩) d cs h
theorem Rd.any {S : Nat → Prop} {w : World} {d : D} {cs : List Value} (h : Rd S w d cs) : Rd AnyB w d cs := h.mono fun _ _ _ => trivial
theorem RdAll.any {S : Nat → Prop} {w : World} {d : List D} {cs : List Value} (h : RdAll S w d cs) : RdAll AnyB w d cs := h.mono fun _ _ _ => trivial

theorem RdAll.append {S : Nat → Prop} {w : World} : ∀ {ds es : List D} {c1 c2 : List Value}, RdAll S w ds c1 → RdAll S w es c2 → RdAll S w (ds ++ es) (c1 ++ c2)
  | [], es, c1, c2, h, k => by simp [RdAll] at h; subst h; simpa using k
  | d :: ds, es, c1, c2, h, k => by
    obtain ⟨a, b, rfl, h1, h2⟩ := h
    exact ⟨a, b ++ c2, by simp, h1, RdAll.append h2 k⟩
theorem RdAll.split {S : Nat → Prop} {w : World} : ∀ {ds es : List D} {c : List Value}, RdAll S w (ds ++ es) c → ∃ c1 c2, c = c1 ++ c2 ∧ RdAll S w ds c1 ∧ RdAll S w es c2
  | [], es, c, h => ⟨[], c, rfl, by simp [RdAll], h⟩
  | d :: ds, es, c, h => by
    obtain ⟨a, b, rfl, h1, h2⟩ := h
    obtain ⟨c1, c2, rfl, h3, h4⟩ := RdAll.split h2
    exact ⟨a ++ c1, c2, by simp, ⟨a, c1, rfl, h1, h3⟩, h4⟩
theorem RdAll.one {S : Nat → Prop} {w : World} {d : D} {c : List Value} (h : Rd S w d c) : RdAll S w [d] c := ⟨c, [], by simp, h, by simp [RdAll]⟩
theorem RdAll.one_iff {S : Nat → Prop} {w : World} {d : D} {c : List Value} : RdAll S w [d] c ↔ Rd S w d c := by
  constructor
  · rintro ⟨c1, c2, rfl, h, h2⟩
    simp [RdAll] at h2
    subst h2
    simpa using h
  · exact RdAll.one

theorem cellsAll_eq {k : Nat} : ∀ {ds : List D}, (∀ d ∈ ds, d.cells = k) → D.cellsAll ds = ds.length * k
  | [], _ => by simp [D.cellsAll]
  | d :: ds, h => by
    rw [D.cellsAll, h d List.mem_cons_self, cellsAll_eq fun x hx => h x (List.mem_cons_of_mem _ hx)]
    simp [Nat.add_mul]; omega

/-- one of many of k cells each -/
theorem RdAll.get {S : Nat → Prop} {w : World} {k : Nat} : ∀ {ds : List D} {L : List Value}, RdAll S w ds L → (∀ d ∈ ds, d.cells = k) → ∀ i (hi : i < ds.length), Rd S w ds[i] ((L.drop (i * k)).take k)
  | [], L, h, hk, i, hi => by simp at hi
  | d :: ds, L, h, hk, i, hi => by
    obtain ⟨c1, c2, rfl, h1, h2⟩ := h
    have hl : c1.length = k := by rw [Rd.len d c1 h1]; exact hk d List.mem_cons_self
    cases i with
    | zero => simpa [List.take_left' hl] using h1
    | succ i =>
      have := RdAll.get h2 (fun x hx => hk x (List.mem_cons_of_mem _ hx)) i (by simpa using hi)
      rw [show (i + 1) * k = c1.length + i * k by rw [hl, Nat.add_mul]; omega]
      have e : (c1 ++ c2).drop (c1.length + i * k) = c2.drop (i * k) := by rw [← List.drop_drop]; simp
      rw [e]
      simpa using this

theorem add_at (b off n : Nat) : (⟨b, off, none⟩ : Addr).add n = ⟨b, off + n, none⟩ := by unfold Addr.add; by_cases e : n = 0 <;> simp [e]

/-- a slice's form -/
theorem Rd.form {S : Nat → Prop} {w : World} {ds : List D} {v : Value} (h : Rd S w (.sl ds) [v]) : ∃ a cap, v = .slice a ds.length cap ∧ ds.length ≤ cap ∧ cap ≤ maxLen := by
  obtain ⟨a, cap, L, e, h1, h2, _⟩ := h
  simp at e
  exact ⟨a, cap, e, h1, h2⟩
theorem Rd.bounds {S : Nat → Prop} {w : World} {ds : List D} {a : Option Addr} {n cap : Nat} (h : Rd S w (.sl ds) [.slice a n cap]) : n = ds.length ∧ n ≤ cap ∧ cap ≤ maxLen := by
  obtain ⟨a, cap, e, h1, h2⟩ := h.form
  cases e
  exact ⟨rfl, h1, h2⟩

/-- an element of a slice: where it lies, its cells -/
theorem Rd.at {S : Nat → Prop} {w : World} {ds : List D} {a : Option Addr} {n cap k : Nat} (h : Rd S w (.sl ds) [.slice a n cap]) (hk : ∀ d ∈ ds, d.cells = k) (hp : 0 < k) {i : Nat} (hi : i < ds.length) :
    ∃ b off cs, a = some ⟨b, off, none⟩ ∧ S b ∧ b < w.heap.size ∧ Rd S w ds[i] cs ∧ cs.length = k ∧ ∀ j (h : j < cs.length), w.cell? ⟨b, off + (i * k + j), none⟩ = some cs[j] := by
  obtain ⟨a', cap', L, e, h1, h2, h3, h4, h5⟩ := h
  simp at e
  obtain ⟨rfl, rfl, rfl⟩ := e
  have hL : L.length = ds.length * k := by rw [RdAll.len ds L h5, cellsAll_eq hk]
  have hpos : 0 < L.length := by rw [hL]; exact Nat.mul_pos (by omega) hp
  obtain ⟨⟨b, off, spot⟩, rfl, hS, hc⟩ := h4 0 hpos
  have hs : spot = none := by simpa [Addr.add] using World.cell?_spot hc
  subst hs
  have hlt := lt_of_cell hc
  rw [add_block] at hlt
  have hik : (i + 1) * k ≤ ds.length * k := Nat.mul_le_mul_right _ hi
  rw [Nat.add_mul, Nat.one_mul] at hik
  refine ⟨b, off, (L.drop (i * k)).take k, rfl, hS, hlt, RdAll.get h5 hk i hi, by simp; omega, fun j hj => ?_⟩
  simp at hj
  obtain ⟨y, hy, _, h6⟩ := h4 (i * k + j) (by omega)
  cases hy
  rw [add_at] at h6
  rw [h6]
  simp

/-- a row of the call's own reads as a slice -/
theorem rd_of_own {S : Nat → Prop} {w : World} {B : Nat} {e : TypeId} {size : Nat} {v : Value} {n : Nat} {xs : List Value} {ds : List D} (h : w.ownsRow B e size v n xs) (hd : RdAll S w ds xs) (hn : ds.length = n) (hS : ∀ k, v.ownBlock = some k → S k) : Rd S w (.sl ds) [v] := by
  have hcell := fun {g : Nat} (hg : v.ownBlock = some g) => h.cells hg
  obtain ⟨hl, h⟩ := h
  subst hn
  rcases h with ⟨rfl, h0⟩ | ⟨g, cap, cur, rfl, hg, hh, hn, hc, hs, ht⟩
  · have : xs = [] := List.eq_nil_of_length_eq_zero (by rw [hl, h0]; simp)
    subst this
    exact ⟨none, 0, [], by rw [h0], by omega, by simp [maxLen], fun _ => rfl, fun i hi => by simp at hi, hd⟩
  · refine ⟨_, cap, xs, rfl, hn, hc, (fun h => by cases h), fun i hi => ⟨_, rfl, hS g rfl, ?_⟩, hd⟩
    exact hcell rfl i _ (List.getElem?_eq_getElem hi)

/-- the new row behind an append: what was read in it is still read, apart from the row's own block -/
theorem own_step {S : Nat → Prop} {w w3 : World} {v v' : Value} {ds es : List D} {xs news : List Value}
    (h1 : RdAll (fun k => S k ∧ v.ownBlock ≠ some k) w ds xs) (h2 : RdAll (fun k => S k ∧ v.ownBlock ≠ some k) w es news)
    (hg : w.grownBy w3 v.ownBlock) (hat : v'.ownBlock = v.ownBlock ∨ ∃ k, v'.ownBlock = some k ∧ w.heap.size ≤ k) : RdAll (fun k => S k ∧ v'.ownBlock ≠ some k) w3 (ds ++ es) (xs ++ news) := by
  have hS : ∀ k, (S k ∧ v.ownBlock ≠ some k) → k < w.heap.size → (S k ∧ v'.ownBlock ≠ some k) ∧ w3.heap[k]? = w.heap[k]? := by
    intro k hk hlt
    refine ⟨⟨hk.1, ?_⟩, hg.block k hlt (fun e => hk.2 e.symm)⟩
    rcases hat with e | ⟨j, e, hj⟩
    · rw [e]; exact hk.2
    · rw [e]; intro h; cases h; omega
  exact RdAll.append (RdAll.keep hS ds xs h1) (RdAll.keep hS es news h2)

/-- append of one element, to a row of the call's own; where the new row lies -/
theorem wp_app1at {P : Program} {ops : Array Oper} {rest : List Oper} {o : Oper} {a : Act} {Q : Exit → Act → World → Prop} {w0 : World} {t e : TypeId} {size bytes : Nat} (E : ElemT P t e size bytes)
    (hgd : o.guard = none) (s x : Operand) (ho : o.op = .call { callee := .builtin .append, args := #[s, x], argTypes := #[t, t] })
    {B : Nat} {v : Value} {n : Nat} {xs : List Value} {news : Array Value} (hown : w0.ownsRow B e size v n xs) (hs : a.eval s = v) {g0 : Nat} (hx : a.eval x = .slice (some ⟨g0, 0, none⟩) 1 1) (hg0 : g0 = w0.heap.size)
    (hn : news.size = size) (h1 : news.toList.all Value.oneCell' = true) (hb : (n + 1) * bytes ≤ 140737488355328) (hm : n + 1 ≤ maxLen) (hB : B ≤ w0.heap.size)
    (h : ∀ v' w', w'.ownsRow B e size v' (n + 1) (xs ++ news.toList) → w0.grownBy w' v.ownBlock → (v'.ownBlock = v.ownBlock ∨ ∃ k, v'.ownBlock = some k ∧ w0.heap.size ≤ k) → wpList P ops Q rest (a.put o.dst v') w') :
    wpList P ops Q (o :: rest) a (w0.alloc (.cells news e)) := by
  subst hg0
  obtain ⟨hu, ⟨i, z, hi, hz, hsz, hby, hzs⟩, hp⟩ := E
  refine wpList_append_own_at (w0.alloc (.cells news e)) hgd s x t ho B e i z size bytes hu hi hz hsz hby hzs hp v n xs hs (hown.alloc _) ⟨w0.heap.size, 0, none⟩ 1 1 news.toList hx (by simp [hn]) ?_ (List.all_eq_true.1 h1) hm hb (by simp; omega) ?_
  · intro j u hj
    have : (⟨w0.heap.size, 0, none⟩ : Addr).add j = ⟨w0.heap.size, j, none⟩ := by unfold Addr.add; by_cases e : j = 0 <;> simp [e]
    rw [this]
    have hh : (w0.alloc (.cells news e)).heap[w0.heap.size]? = some (.cells news e (0, 0)) := heap_alloc_new w0 _
    simp only [World.cell?, hh]
    simpa using hj
  · intro v' w' h2 h3 _ h5
    refine h v' w' h2 ?_ ?_
    · have h4 := World.grownBy_alloc w0 (.cells news e) v.ownBlock
      exact ⟨h3.os.trans h4.os, h3.tape.trans h4.tape, h3.output.trans h4.output, Nat.le_trans h4.size h3.size, fun k hk hne => (h3.block k (Nat.lt_of_lt_of_le hk h4.size) hne).trans (h4.block k hk hne)⟩
    · rcases h5 with h5 | h5
      · exact .inl h5
      · exact .inr ⟨_, h5, by simp⟩

theorem own_at {w3 : World} {B H : Nat} {e : TypeId} {size : Nat} {v v' : Value} {n : Nat} {xs : List Value} (ho : w3.ownsRow B e size v' (n + 1) xs) (hat : v'.ownBlock = v.ownBlock ∨ ∃ k, v'.ownBlock = some k ∧ H ≤ k) :
    ∃ g cap, v' = .slice (some ⟨g, 0, none⟩) (n + 1) cap ∧ (v.ownBlock = some g ∨ H ≤ g) ∧ n + 1 ≤ cap ∧ cap ≤ maxLen ∧ B ≤ g ∧ g < w3.heap.size := by
  have hlt := ho.lt
  rcases ho.2 with ⟨_, h0⟩ | ⟨g, cap, cur, rfl, hg, hh, hn', hc, _⟩
  · omega
  · refine ⟨g, cap, rfl, ?_, hn', hc, (hlt g rfl).1, (hlt g rfl).2⟩
    rcases hat with h | ⟨k, h, hk⟩
    · exact .inl h.symm
    · simp [Value.ownBlock] at h
      exact .inr (by omega)

theorem rdAll_ints {S : Nat → Prop} {w : World} : ∀ (l : List Int) (cs : List Value), RdAll S w (l.map .int) cs ↔ cs = ints l
  | [], cs => by simp [RdAll, ints]
  | x :: l, cs => by
    simp only [List.map_cons, RdAll, Rd]
    constructor
    · rintro ⟨c1, c2, rfl, rfl, h⟩
      rw [rdAll_ints] at h
      simp [h, ints]
    · rintro rfl
      exact ⟨[.int .i64 x], ints l, by simp [ints], rfl, (rdAll_ints l _).2 rfl⟩
def D.ints (l : List Int) : D := .sl (l.map .int)
theorem sl_rd {S : Nat → Prop} {w : World} {v : Value} {l : List Int} (h : Rd S w (D.ints l) [v]) : Sl w v (ints l) := by
  obtain ⟨a, cap, L, e, h1, h2, h3, h4, h5⟩ := h
  rw [rdAll_ints] at h5
  subst h5
  simp at e h1
  subst e
  refine ⟨a, cap, by simp [ints], by simpa [ints] using h1, h2, h3, fun i hi => ?_⟩
  obtain ⟨x, e, _, h5⟩ := h4 i hi
  exact ⟨x, e, h5⟩
end Go.Proofs.Ytclpmmbclgihbaa
namespace Go.Proofs.Ytclpmmbclgihbaa
open Go.RowKit

theorem ints_one (l : List Int) : ∀ u ∈ ints l, u.oneCell' = true := by
  intro u hu; simp [ints] at hu; obtain ⟨x, _, rfl⟩ := hu; rfl

/-- what a function leaves that makes a new slice of ints -/
def NewInts (l : List Int) (w : World) (e : Ending) (w' : World) : Prop :=
  ∃ a cap, e = .returned (.slice a l.length cap) ∧ w'.ownsRow w.heap.size 3 1 (.slice a l.length cap) l.length (ints l) ∧ Below w.heap.size w w'

theorem newInts_of {l : List Int} {w w' : World} {v : Value} (h : w'.ownsRow w.heap.size 3 1 v l.length (ints l)) (hb : Below w.heap.size w w') : NewInts l w (.returned v) w' := by
  obtain ⟨a, cap, rfl, _, _⟩ := own_len h
  exact ⟨a, cap, rfl, h, hb⟩

set_option maxHeartbeats 400000 in
theorem clone_int (v : Value) (l : List Int) (w : World) (hv : Sl w v (ints l)) (hb : l.length * 8 ≤ 140737488355328) :
    Calls Try.prog 19 #[v] w (NewInts l w) := by
  have hnil := fun (w : World) (a : Option Addr) (n c : Nat) => Lib.run_eql_slice_nil (P := Try.prog) w 22 3 a n c 0 0 Try.underlying22
  obtain ⟨a, cap, rfl⟩ := hv.form
  have hm := hv.len.2.2
  cases a with
  | none =>
    have hl : l = [] := by
      rcases Nat.eq_zero_or_pos (ints l).length with h | h
      · simpa [ints] using h
      · obtain ⟨b, off, e, _⟩ := hv.at h; cases e
    subst hl
    go_enter Try.func19, Try.ntmps19
    go_wp2
    go_ret
    exact newInts_of (World.ownsRow_nil _ _ _ _) (Below.refl _ _)
  | some x =>
    have HV := Lib.hid (hv.keep ((Below.refl w.heap.size w).alloc (Nat.le_refl _) (.cells #[] 3)))
    have HO : Hid ((w.alloc (.cells #[] 3)).ownsRow w.heap.size 3 1 (.slice (some ⟨w.heap.size, 0, none⟩) 0 0) 0 []) := World.ownsRow_made w #[] 0 (Nat.le_refl _) (by simp) rfl
    clear hv
    go_enter Try.func19, Try.ntmps19
    go_wp2_with (at_builtin; refine wp_appS elInt rfl _ _ rfl HO.out rfl HV.out rfl (ints_one l) ?_ ?_ ?_ ?_)
    · rw [ints_len]; omega
    · rw [ints_len]; unfold maxLen; omega
    · simp
    · intro v' w' hown hg
      rw [ints_len] at hown
      have HO2 := Lib.hid hown
      have HB : Hid (Below w.heap.size w w') := ((Below.refl w.heap.size w).alloc (Nat.le_refl _) _).trans (below_grown hg (by simp) (fun k hk => by simp [Value.ownBlock] at hk; omega))
      clear hown hg
      go_wp2
      go_ret
      exact newInts_of (by simpa using HO2.out) HB.out

/-- what slices.Grow leaves of the nil slice: a row of the call's own with nothing in it -/
def Grown0 (w : World) (e : Ending) (w' : World) : Prop := ∃ v, e = .returned v ∧ w'.ownsRow w.heap.size 3 1 v 0 [] ∧ Below w.heap.size w w'

set_option maxHeartbeats 400000 in
set_option maxRecDepth 100000 in
theorem grow_nil (n : Nat) (w : World) (hb : n * 8 ≤ 140737488355328) :
    Calls Try.prog 45 #[.slice none 0 0, .int .i64 n] w (Grown0 w) := by
  rcases Nat.eq_zero_or_pos n with h0 | h0
  · subst h0
    go_enter Try.func45, Try.ntmps45
    go_wp2
    go_ret
    exact ⟨_, rfl, World.ownsRow_nil _ _ _ _, Below.refl _ _⟩
  · obtain ⟨i0, hi, hz0, hz1, hz2⟩ := info_parts (show (Try.prog.info? 3).map (fun i => (i.zero, i.size, i.bytes)) = some (some (.int .i64 0), 1, 8) by kernel_rfl)
    have hG63 := grownCap_le_maxLen w n 0 3 (by unfold maxLen; omega)
    have hGn := grownCap_ge w n 0 3
    have hrz : ∀ ty, (Builtin.append_ #[22, 3] ty #[.slice none 0 0, .int .i64 n]).run Try.prog w =
        .ok (.slice (some ⟨w.heap.size, 0, none⟩) n (grownCap w n 0 3)) (w.drew.alloc (.cells (#[] ++ Builtin.zeroCells (Value.int .i64 0).cells n ++ Builtin.zeroCells (Value.int .i64 0).cells (grownCap w n 0 3 - n)) 3)) := fun ty => by
      have h := Lib.run_append_grow_zeros w 22 3 ty 3 i0 (.int .i64 0) .i64 .i64 Try.underlying22 Try.underlying3 hi hz0 none 0 0 [] (run_firstCells_none w.drew i0.size 0 0 0) n h0 (by rw [hz1]; omega) (by omega) (by omega) (by rw [hz2]; omega)
        (by rw [Nat.zero_add]; exact growslice_fits (by omega) (by rw [hz2]; omega))
      simpa using h
    obtain ⟨G, hG⟩ : ∃ G, G = grownCap w n 0 3 := ⟨_, rfl⟩
    rw [← hG] at hrz hGn hG63
    clear hG
    unfold maxLen at hG63
    have hsz : (#[] ++ Builtin.zeroCells (Value.int .i64 0).cells n ++ Builtin.zeroCells (Value.int .i64 0).cells (G - n)).size = G := by
      simp [Builtin.zeroCells, Value.cells]; omega
    generalize (#[] ++ Builtin.zeroCells (Value.int .i64 0).cells n ++ Builtin.zeroCells (Value.int .i64 0).cells (G - n)) = cur at *
    have HO : Hid ((w.drew.alloc (.cells cur 3)).ownsRow w.heap.size 3 1 (.slice (some ⟨w.heap.size, 0, none⟩) 0 G) 0 []) := World.ownsRow_made w.drew cur G (Nat.le_refl _) (by unfold maxLen; omega) (by rw [Nat.mul_one]; exact hsz)
    have HB : Hid (Below w.heap.size w (w.drew.alloc (.cells cur 3))) := (Below.refl w.heap.size w).drew.alloc (Nat.le_refl _) _
    have HRZ := Lib.hid hrz
    clear hsz hrz
    go_enter Try.func45, Try.ntmps45
    go_wp2_with (at_builtin; refine Lib.wpList_append_run _ rfl _ _ _ _ rfl _ _ rfl rfl _ _ (HRZ.out _) ?_)
    go_ret
    exact ⟨_, rfl, HO.out, HB.out⟩

end Go.Proofs.Ytclpmmbclgihbaa
namespace Go.Proofs.Ytclpmmbclgihbaa
open Go.RowKit

theorem getD_get {α : Type} (l : List α) (i : Nat) (d : α) (h : i < l.length) : l.getD i d = l[i] := by simp [List.getD, h]

/-- the lengths of the first k lists -/
def lens (ls : List (List Int)) : Nat := (ls.map List.length).foldl (· + ·) 0
theorem lens_snoc (ls : List (List Int)) (l : List Int) : lens (ls ++ [l]) = lens ls + l.length := by simp [lens, List.foldl_append]
theorem lens_flatten (ls : List (List Int)) : lens ls = ls.flatten.length := by
  unfold lens
  have h : ∀ (ns : List Nat) (a : Nat), ns.foldl (· + ·) a = a + ns.sum := by
    intro ns
    induction ns with
    | nil => intro a; simp
    | cons n ns ih => intro a; rw [List.foldl_cons, ih]; simp [Nat.add_assoc]
  rw [h, List.length_flatten]; simp
theorem lens_take_le (ls : List (List Int)) (k : Nat) : lens (ls.take k) ≤ lens ls := by
  rw [lens_flatten, lens_flatten]
  conv => rhs; rw [← List.take_append_drop k ls]
  rw [List.flatten_append, List.length_append]; omega

set_option maxHeartbeats 1000000 in
set_option maxRecDepth 100000 in
/-- slices.Concat at []int: the slices vs read as the lists ls -/
theorem concat_int (a : Option Addr) (cap : Nat) (vs : List Value) (ls : List (List Int)) (w : World) (hv : Sl w (.slice a vs.length cap) vs) (hlen : vs.length = ls.length)
    (hs : ∀ i (h : i < vs.length), Sl w vs[i] (ints (ls.getD i []))) (hb : lens ls * 8 ≤ 140737488355328) :
    Calls Try.prog 34 #[.slice a vs.length cap] w (NewInts ls.flatten w) := by
  have HV := Lib.hid hv
  have HS := Lib.hid hs
  have HL := Lib.hid hlen
  obtain ⟨hc1, hc2⟩ := hv.len.2
  unfold maxLen at hc2
  clear hv hs hlen
  go_enter Try.func34, Try.ntmps34
  go_wp2
  go_loop [3, 11] (fun n t => ∃ k : Nat, k ≤ vs.length ∧ t = .int .i64 k ∧ n = .int .i64 (lens (ls.take k) : Nat)) (fun _ t => vs.length - (intOf t).toNat)
  case atStart => exact ⟨0, by omega, rfl, rfl⟩
  case round =>
    obtain ⟨k, hk, rfl, rfl⟩ := hrel
    have hle := lens_take_le ls k
    by_cases hlt : k < vs.length
    · obtain ⟨b, off, rfl, hc⟩ := HV.out.at hlt
      have hcell := hc k hlt
      have HSl := Lib.hid (HS.out k hlt)
      have HT : Hid (lens (ls.take (k + 1)) = lens (ls.take k) + (ls.getD k []).length) := by
        show _ = _
        rw [List.take_succ_eq_append_getElem (by rw [← HL.out]; exact hlt), lens_snoc, getD_get _ _ _ (by rw [← HL.out]; exact hlt)]
      have hle2 := lens_take_le ls (k + 1)
      obtain ⟨av, cv, HE⟩ : ∃ av cv, Hid (vs[k] = .slice av (ls.getD k []).length cv) := by
        obtain ⟨av, cv, h⟩ := HSl.out.form
        rw [ints_len] at h
        exact ⟨av, cv, h⟩
      rw [HE.out] at hcell
      generalize (ls.getD k []).length = m at *
      have hm : lens (ls.take k) + m ≤ lens ls := by rw [← HT.out]; exact hle2
      clear hc HSl HE hle2
      go_wp2
      exact ⟨⟨k + 1, by omega, by go_num, by rw [HT.out]; go_num⟩, by simp [intOf]; omega⟩
    · have ek : Hid (ls.take k = ls) := List.take_of_length_le (by have := HL.out; omega)
      rw [ek.out] at hle ⊢
      clear ek
      go_wp2_with fail
      refine (grow_nil (lens ls) w hb).mono ?_
      rintro e w1 ⟨v1, rfl, ho1, hb1⟩
      have HO1 := Lib.hid ho1
      have HB1 := Lib.hid hb1
      clear ho1 hb1
      go_wp2_with fail
      go_loopw [6, 27] (fun m t wr => ∃ k : Nat, k ≤ vs.length ∧ t = .int .i64 k ∧ Hid (wr.ownsRow w.heap.size 3 1 m (lens (ls.take k)) (ints (ls.take k).flatten)) ∧ Hid (Below w.heap.size w wr)) (fun _ t _ => vs.length - (intOf t).toNat)
      case atStart => exact ⟨0, by omega, rfl, HO1, HB1⟩
      case round =>
        clear HO1 HB1
        obtain ⟨k, hk, rfl, HO, HB⟩ := hrel
        by_cases hlt : k < vs.length
        · obtain ⟨b, off, rfl, hc⟩ := (HV.out.keep HB.out).at hlt
          have hcell := hc k hlt
          have HSl := Lib.hid ((HS.out k hlt).keep HB.out)
          have HT : Hid (lens (ls.take (k + 1)) = lens (ls.take k) + (ls.getD k []).length) := by
            show _ = _
            rw [List.take_succ_eq_append_getElem (by rw [← HL.out]; exact hlt), lens_snoc, getD_get _ _ _ (by rw [← HL.out]; exact hlt)]
          have HF : Hid ((ls.take (k + 1)).flatten = (ls.take k).flatten ++ (ls.getD k [])) := by
            show _ = _
            rw [List.take_succ_eq_append_getElem (by rw [← HL.out]; exact hlt), List.flatten_append, getD_get _ _ _ (by rw [← HL.out]; exact hlt)]; simp
          have hle2 := lens_take_le ls (k + 1)
          generalize (ls.getD k []) = x at *
          generalize vs[k] = vk at *
          have hm : lens (ls.take k) + x.length ≤ lens ls := by rw [← HT.out]; exact hle2
          have hz := HB.out.size
          clear hc hle2
          go_wp2_with (at_builtin; refine wp_appS elInt rfl _ _ rfl HO.out rfl HSl.out rfl (ints_one x) ?_ ?_ hz ?_)
          · rw [ints_len]; omega
          · rw [ints_len]; unfold maxLen; omega
          · intro v' w' hown hg
            rw [ints_len] at hown
            have HO3 : Hid (w'.ownsRow w.heap.size 3 1 v' (lens (ls.take (k + 1))) (ints (ls.take (k + 1)).flatten)) := by
              rw [HT.out, HF.out, ints_append]; exact hown
            have HB3 := Lib.hid (HB.out.grown hg hz (fun b hb => (HO.out.lt b hb).1))
            clear hown hg HO HB HSl
            go_wp2
            exact ⟨⟨k + 1, by omega, by go_num, HO3, HB3⟩, by simp [intOf]; omega⟩
        · have ek : Hid (ls.take k = ls) := List.take_of_length_le (by have := HL.out; omega)
          rw [ek.out] at HO
          clear ek
          go_wp2
          go_ret
          exact newInts_of (by rw [← lens_flatten]; exact HO.out) HB.out

/-- a literal slice, in the block that was laid last -/
theorem sl_lit {w : World} {v : Array Value} {e : TypeId} {g : Nat} (hg : g = w.heap.size) (h : v.size ≤ maxLen) : Sl (w.alloc (.cells v e)) (.slice (some ⟨g, 0, none⟩) v.size v.size) v.toList := by
  subst hg
  refine ⟨some ⟨w.heap.size, 0, none⟩, v.size, by simp, by simp, h, (fun h => by cases h), fun i hi => ⟨_, rfl, ?_⟩⟩
  have : (⟨w.heap.size, 0, none⟩ : Addr).add i = ⟨w.heap.size, i, none⟩ := by unfold Addr.add; by_cases e : i = 0 <;> simp [e]
  rw [this]
  have hh : (w.alloc (.cells v e)).heap[w.heap.size]? = some (.cells v e (0, 0)) := heap_alloc_new w _
  simp only [World.cell?, hh]
  simp at hi ⊢

/-- slices.Concat of two slices -/
theorem concat2 (w : World) (g : Nat) (e : TypeId) (v1 v2 : Value) (l1 l2 : List Int) (hg : g = w.heap.size) (h1 : Sl w v1 (ints l1)) (h2 : Sl w v2 (ints l2)) (hb : lens [l1, l2] * 8 ≤ 140737488355328) :
    Calls Try.prog 34 #[.slice (some ⟨g, 0, none⟩) 2 2] (w.alloc (.cells #[v1, v2] e)) (NewInts [l1, l2].flatten w) := by
  have hB : Below w.heap.size w (w.alloc (.cells #[v1, v2] e)) := ((Below.refl _ _).alloc (Nat.le_refl _) _)
  refine (concat_int (some ⟨g, 0, none⟩) 2 [v1, v2] [l1, l2] _ (sl_lit (v := #[v1, v2]) hg (by simp [maxLen])) rfl ?_ hb).mono ?_
  · intro i hi
    simp at hi
    match i, hi with
    | 0, _ => exact h1.keep hB
    | 1, _ => exact h2.keep hB
  · rintro e w' ⟨a, c, rfl, ho, hb⟩
    exact ⟨a, c, rfl, ho.mono hB.size, hB.trans (hb.mono hB.size)⟩
end Go.Proofs.Ytclpmmbclgihbaa
namespace Go.Proofs.Ytclpmmbclgihbaa
open Go.RowKit

theorem own_blk {w w' : World} {B : Nat} {e : TypeId} {s : Nat} {v : Value} {n : Nat} {xs : List Value} (h : w.ownsRow B e s v n xs) (hb : ∀ g, v.ownBlock = some g → w'.heap[g]? = w.heap[g]?) : w'.ownsRow B e s v n xs := by
  obtain ⟨h1, h2⟩ := h
  refine ⟨h1, ?_⟩
  rcases h2 with h2 | ⟨g, cap, cur, rfl, hg, hh, r⟩
  · exact .inl h2
  · exact .inr ⟨g, cap, cur, rfl, hg, by rw [hb g rfl]; exact hh, r⟩
/-- the front of a row of the call's own -/
theorem own_front {w : World} {B : Nat} {e : TypeId} {g n cap m : Nat} {xs : List Value} (h : w.ownsRow B e 1 (.slice (some ⟨g, 0, none⟩) n cap) n xs) (hm : m ≤ n) : w.ownsRow B e 1 (.slice (some ⟨g, 0, none⟩) m cap) m (xs.take m) := by
  obtain ⟨h1, h2⟩ := h
  rw [Nat.mul_one] at h1
  refine ⟨by rw [List.length_take]; omega, ?_⟩
  rcases h2 with ⟨h2, _⟩ | ⟨g', cap', cur, h2, hg, hh, hn, hc, hs, ht⟩
  · cases h2
  · cases h2
    refine .inr ⟨g, cap, cur, rfl, hg, hh, by omega, hc, hs, ?_⟩
    rw [← ht, List.take_take, Nat.mul_one, Nat.mul_one, Nat.min_eq_left hm]
/-- the table in block bt has n rows; row k is the value val k and reads as L k; all rows lie in blocks from B on, none twice -/
structure OwnT (tr te : TypeId) (bt B n : Nat) (val : Nat → Value) (L : Nat → List Int) (wr : World) : Prop where
  tb : Vrow tr bt n val wr
  row : ∀ k, k < n → wr.ownsRow B te 1 (val k) (L k).length (ints (L k))
  dis : ∀ k k', k < n → k' < n → k ≠ k' → ∀ g, (val k).ownBlock = some g → (val k').ownBlock ≠ some g
  lt : bt < B
section
variable {tr te : TypeId} {bt B n : Nat} {val : Nat → Value} {L : Nat → List Int} {wr w' : World}
theorem OwnT.keep (h : OwnT tr te bt B n val L wr) (hb : Below wr.heap.size wr w') : OwnT tr te bt B n val L w' := ⟨h.tb.keep hb, fun k hk => own_keep (h.row k hk) hb, h.dis, h.lt⟩
theorem OwnT.grown {row : Option Nat} (h : OwnT tr te bt B n val L wr) (hg : wr.grownBy w' row) (hr : ∀ k, row = some k → k ≠ bt ∧ ∀ i, i < n → (val i).ownBlock ≠ some k) : OwnT tr te bt B n val L w' := by
  refine ⟨h.tb.grown hg (fun e => (hr bt e).1 rfl), fun k hk => own_blk (h.row k hk) fun g hgk => ?_, h.dis, h.lt⟩
  exact hg.block g ((h.row k hk).lt g hgk).2 (fun e => (hr g e.symm).2 k hk hgk)
theorem OwnT.start (w : World) (hb : bt = w.heap.size) (hB : bt < B) : OwnT tr te bt B n (fun _ => .slice none 0 0) (fun _ => []) (w.alloc (.cells (madeCells #[.slice none 0 0] n) tr)) :=
  ⟨vrow_new w _ _ n hb, fun _ _ => World.ownsRow_nil _ _ _ _, fun _ _ _ _ _ g h => (by cases h), hB⟩
/-- a number more in row t, behind the append: its header stored -/
theorem OwnT.app (h : OwnT tr te bt B n val L wr) {t : Nat} (ht : t < n) {v' : Value} {s : Int} (ho : w'.ownsRow B te 1 v' ((L t).length + 1) (ints (L t) ++ [.int .i64 s])) (hg : wr.grownBy w' (val t).ownBlock)
    (hat : v'.ownBlock = (val t).ownBlock ∨ ∃ k, v'.ownBlock = some k ∧ wr.heap.size ≤ k) :
    w'.cell? ⟨bt, t, none⟩ = some (val t) ∧ w'.frozen? ⟨bt, t, none⟩ = false ∧ OwnT tr te bt B n (fun k => if k = t then v' else val k) (fun k => if k = t then L t ++ [s] else L k) (w'.setCell ⟨bt, t, none⟩ v') := by
  obtain ⟨h1, h2, h3, h4⟩ := h
  have hlt := (h2 t ht).lt
  have ht1 : Vrow tr bt n val w' := h1.grown hg (fun e => by have := (hlt bt e).1; omega)
  have hne : ∀ k g, k < n → (if k = t then v' else val k).ownBlock = some g → g ≠ bt := by
    intro k g hk e
    by_cases e1 : k = t
    · rw [if_pos e1] at e
      have := (ho.lt g e).1; omega
    · rw [if_neg e1] at e
      have := ((h2 k hk).lt g e).1; omega
  refine ⟨ht1.cell ht, ht1.free t, ht1.set ht (fun k _ => rfl), fun k hk => ?_, fun k k' hk hk' hkk g hgk hgk' => ?_, h4⟩
  · by_cases e : k = t
    · subst e
      simp only [if_true]
      refine own_blk (w := w') (by rw [ints_append, List.length_append]; exact ho) fun g hgk => ?_
      exact Below.heap_setCell _ _ _ _ (hne k g hk (by rw [if_pos rfl]; exact hgk))
    · simp only [e, if_false]
      refine own_blk (w := wr) (h2 k hk) fun g hgk => ?_
      have h5 := hne k g hk (by rw [if_neg e]; exact hgk)
      have h6 := (h2 k hk).lt g hgk
      have h7 : (val t).ownBlock ≠ some g := fun e2 => h3 k t hk ht e g hgk e2
      have h8 := hg.block g h6.2 (fun e2 => h7 e2.symm)
      rw [← h8]
      exact Below.heap_setCell _ _ _ _ h5
  · have hq : ∀ j, j < n → j ≠ t → (val j).ownBlock ≠ v'.ownBlock ∨ v'.ownBlock = none := by
      intro j hj hjt
      rcases hat with e | ⟨q, e, hq⟩
      · cases hv : v'.ownBlock with
        | none => exact .inr rfl
        | some g' =>
          refine .inl fun e2 => ?_
          rw [hv] at e
          exact h3 j t hj ht hjt g' e2 e.symm
      · rw [e]
        refine .inl fun e2 => ?_
        have := ((h2 j hj).lt q e2).2
        omega
    by_cases e1 : k = t <;> by_cases e2 : k' = t <;> simp only [e1, e2, if_true, if_false] at hgk hgk'
    · exact hkk (by rw [e1, e2])
    · rcases hq k' hk' e2 with h | h
      · exact h (by rw [hgk, hgk'])
      · rw [h] at hgk; cases hgk
    · rcases hq k hk e1 with h | h
      · exact h (by rw [hgk, hgk'])
      · rw [h] at hgk'; cases hgk'
    · exact h3 k k' hk hk' hkk g hgk hgk'
end
end Go.Proofs.Ytclpmmbclgihbaa
namespace Go.Proofs.Ytclpmmbclgihbaa
open Go.RowKit

inductive Tree where
  | node (rule term : Int) (kids : List Tree)
def Tree.rule : Tree → Int | .node r _ _ => r
def Tree.term : Tree → Int | .node _ t _ => t
def Tree.kids : Tree → List Tree | .node _ _ k => k
/-- the subtrees that count -/
def kidsOf (t : Tree) : List Tree := if t.rule = -1 then [] else t.kids

mutual
def Tree.d : Tree → D
  | .node r t ks => .agg [.int r, .int t, .sl (Tree.dL ks)]
def Tree.dL : List Tree → List D
  | [] => []
  | k :: ks => Tree.d k :: Tree.dL ks
end
mutual
/-- the nodes in preorder; the kids of leaves are left out -/
def nodes : Tree → List Tree
  | .node r t ks => .node r t ks :: (if r = -1 then [] else nodesL ks)
def nodesL : List Tree → List Tree
  | [] => []
  | k :: ks => nodes k ++ nodesL ks
end
theorem nodes_eq (t : Tree) : nodes t = t :: nodesL (kidsOf t) := by
  cases t with
  | node r t ks =>
    rw [nodes]
    by_cases h : r = -1 <;> simp [kidsOf, Tree.rule, Tree.kids, h, nodesL]
/-- outside S nothing that was there has changed -/
structure Keeps (S : Nat → Prop) (w w' : World) : Prop where
  os : w'.os = w.os
  tape : w'.tape = w.tape
  output : w'.output = w.output
  size : w.heap.size ≤ w'.heap.size
  block : ∀ k, k < w.heap.size → ¬ S k → w'.heap[k]? = w.heap[k]?
theorem Keeps.below {S : Nat → Prop} {w w' : World} {B : Nat} (h : Keeps S w w') (hS : ∀ k, S k → B ≤ k) (hB : B ≤ w.heap.size) : Below B w w' :=
  ⟨h.os, h.tape, h.output, h.size, fun k hk => h.block k (by omega) (fun hs => by have := hS k hs; omega)⟩
theorem Keeps.trans {S S' : Nat → Prop} {a b c : World} (h : Keeps S a b) (k : Keeps S' b c) (hs : ∀ k, S' k → S k ∨ a.heap.size ≤ k) : Keeps S a c :=
  ⟨k.os.trans h.os, k.tape.trans h.tape, k.output.trans h.output, Nat.le_trans h.size k.size, fun i hi hn => (k.block i (Nat.lt_of_lt_of_le hi h.size) (fun e => (hs i e).elim (fun e => hn e) (fun e => by omega))).trans (h.block i hi hn)⟩
theorem Keeps.cells {S : Nat → Prop} {w w' : World} (h : Keeps S w w') {b : Nat} {o : Obj} (hb : w.heap[b]? = some o) (hS : ¬ S b) : w'.heap[b]? = some o := by
  rw [h.block b (Array.getElem?_eq_some_iff.1 hb).1 hS]; exact hb

end Go.Proofs.Ytclpmmbclgihbaa
namespace Go.Proofs.Ytclpmmbclgihbaa
open Go.RowKit

structure Sym where
  term : Bool
  n : Int
  deriving DecidableEq
structure Rule where
  left : Int
  right : List Sym
  deriving DecidableEq
def Sym.d (s : Sym) : D := .agg [.bool s.term, .int s.n]
def Rule.d (r : Rule) : D := .agg [.int r.left, .sl (r.right.map Sym.d)]
theorem Rd.sym {S : Nat → Prop} {w : World} {s : Sym} {cs : List Value} (h : Rd S w s.d cs) : cs = [.bool s.term, .int .i64 s.n] := by
  obtain ⟨c1, c2, rfl, h1, h2⟩ := h
  rw [RdAll.one_iff] at h2
  simp [Rd] at h1 h2
  subst h1 h2
  rfl
theorem Rd.rule {S : Nat → Prop} {w : World} {r : Rule} {cs : List Value} (h : Rd S w r.d cs) : ∃ v, cs = [.int .i64 r.left, v] ∧ Rd S w (.sl (r.right.map Sym.d)) [v] := by
  obtain ⟨c1, c2, rfl, h1, h2⟩ := h
  rw [RdAll.one_iff] at h2
  simp [Rd] at h1
  subst h1
  have h4 := h2
  obtain ⟨a, cap, L, e, _⟩ := h2
  subst e
  exact ⟨_, rfl, h4⟩
end Go.Proofs.Ytclpmmbclgihbaa
namespace Go.Proofs.Ytclpmmbclgihbaa
open Go.RowKit

def cmp3 (a b : Int) : Int := if a < b then -1 else if b < a then 1 else 0
def orL : List Int → Int
  | [] => 0
  | x :: l => if x = 0 then orL l else x

end Go.Proofs.Ytclpmmbclgihbaa
namespace Go.Proofs.Ytclpmmbclgihbaa
open Go.RowKit

structure Gram where
  terms : Int
  nons : Int
  start : Int
  rules : List Rule
  deriving DecidableEq
def Gram.d (g : Gram) : D := .agg [.int g.terms, .int g.nons, .int g.start, .sl (g.rules.map Rule.d)]
def hasS (g : Gram) (s : Sym) : Bool := decide (0 ≤ s.n) && (s.term && decide (s.n < g.terms) || !s.term && decide (s.n < g.nons))
def ordS (a b : Sym) : Int := if a.term = b.term then cmp3 a.n b.n else if a.term then -1 else 1
def cmpS : List Sym → List Sym → Int
  | [], [] => 0
  | [], _ :: _ => -1
  | _ :: _, [] => 1
  | x :: l, y :: m => if ordS x y = 0 then cmpS l m else ordS x y
def cmpR (a b : Rule) : Int := orL [cmp3 a.left b.left, cmpS a.right b.right]
/-- the fault of the rule i -/
def faultR (g : Gram) (i : Nat) (r : Rule) : Int :=
  if r.left < 0 ∨ g.nons ≤ r.left then 3 else if 4 < r.right.length then 2 else if r.right.any (fun s => !hasS g s) then 3 else if (g.rules.take i).any (fun x => cmpR x r == 0) then 6 else 0
def faultsFrom (g : Gram) : Nat → List Rule → Int
  | _, [] => 0
  | i, r :: l => if faultR g i r = 0 then faultsFrom g (i + 1) l else faultR g i r
end Go.Proofs.Ytclpmmbclgihbaa
namespace Go.Proofs.Ytclpmmbclgihbaa
open Go.RowKit

/-- block b is a map that has the keys of which S holds, all of them true -/
def SetM (P : Program) (k e : TypeId) (b c : Nat) (S : Lit → Bool) (w : World) : Prop :=
  ∃ D : DataW Unit, w.ownsMap P k (plainElem P e) b c D ∧ ∀ (key : Value) (l : Lit), keyOf P k key = some l → D.atKey l (.lit (.bool false)) = .lit (.bool (S l))
section
variable {P : Program} {k e t : TypeId} {b c : Nat} {S : Lit → Bool} {w w' : World}
theorem SetM.kept {row : Option Nat} (h : SetM P k e b c S w) (hg : w.grownBy w' row) (hne : some b ≠ row) : SetM P k e b c S w' := by
  obtain ⟨D, h1, h2⟩ := h
  exact ⟨D, h1.kept hg hne, h2⟩
theorem SetM.keep (h : SetM P k e b c S w) (hb : Below w.heap.size w w') : SetM P k e b c S w' := h.kept (grown_below hb none) (by simp)
theorem SetM.lt (h : SetM P k e b c S w) : b < w.heap.size := by obtain ⟨D, h1, h2⟩ := h; exact h1.lt
theorem SetM.start (P : Program) (k e : TypeId) (w : World) {b : Nat} (hb : b = w.heap.size) {S : Lit → Bool} (hS : ∀ l, S l = false) : SetM P k e b 0 S (w.alloc (.map #[] 0)) := by
  subst hb
  exact ⟨.map [], World.ownsMap_made w _ _ _, fun _ l _ => by simp [DataW.atKey, hS l]⟩
theorem plainElem_bool_inv (he : P.underlying e = some .bool) {v : Value} {z : DataW Unit × List MemPlace} (h : plainElem P e v = some z) : ∃ x, v = .bool x ∧ z = (.lit (.bool x), []) := by
  unfold plainElem at h
  rw [he] at h
  split at h
  · rename_i x _
    cases h
    exact ⟨_, rfl, rfl⟩
  · rename_i h1; cases h1
  · rename_i h1; cases h1
  · cases h
/-- m[k] -/
theorem SetM.look (h : SetM P k e b c S w) (hK : Maps.Keyed P k) (ht : P.underlying t = some (.map k e)) (he : P.underlying e = some .bool) (hz : (zeroValue e).run P w = .ok (.bool false) w) {key : Value} {l : Lit} (hkey : keyOf P k key = some l) :
    (Instr.lookup t (.map (some b)) key false).run P w = .ok (.bool (S l)) w := by
  obtain ⟨D, h1, h2⟩ := h
  obtain ⟨v, ps, hrun, hv⟩ := h1.lookup hK ht hz (plainElem_bool he false) hkey
  rw [h2 key l hkey] at hv
  obtain ⟨x, rfl, hx⟩ := plainElem_bool_inv he hv
  simp at hx
  rw [hrun, ← hx.1]
/-- m[k] = true -/
theorem SetM.add (h : SetM P k e b c S w) (hK : Maps.Keyed P k) (ht : P.underlying t = some (.map k e)) (he : P.underlying e = some .bool) (hc : c < maxLen) {key : Value} {l : Lit} (hkey : keyOf P k key = some l) {S' : Lit → Bool} (hS : S' l = true) (hO : ∀ l', l' ≠ l → S' l' = S l') :
    ∃ w', (Instr.mapUpdate t (.map (some b)) key (.bool true)).run P w = .ok () w' ∧ SetM P k e b (c + 1) S' w' ∧ w.grownBy w' (some b) := by
  obtain ⟨D, h1, h2⟩ := h
  obtain ⟨w', hrun, ho, ht'⟩ := h1.store hK ht hc hkey (plainElem_bool he true)
  refine ⟨w', hrun, ⟨_, ho, fun key' l' hk' => ?_⟩, ht'.grown⟩
  by_cases el : l' = l
  · subst el
    rw [Go.Maps.atKey_put_same h1.isMap (hK.key hkey), hS]
  · rw [Go.Maps.atKey_put_other el, h2 key' l' hk', hO l' el]
end
end Go.Proofs.Ytclpmmbclgihbaa
namespace Go.Proofs.Ytclpmmbclgihbaa
open Go.RowKit

def symB (s : Sym) : List UInt8 := [if s.term then 116 else 110, UInt8.ofNat s.n.toNat]
def keyB (l : Int) (ss : List Sym) : List UInt8 := UInt8.ofNat l.toNat :: ss.flatMap symB
def small (n : Int) : Prop := 0 ≤ n ∧ n < 10
def okR (r : Rule) : Prop := small r.left ∧ ∀ s ∈ r.right, small s.n
/-- the keys of rules -/
def keysOf (l : List Rule) : Lit → Bool
  | .string b => l.any fun r => keyB r.left r.right == b
  | _ => false
/-- a string's bytes -/
def Bts (s : ByteArray) (l : List UInt8) : Prop := s.data.toList = l
theorem Bts.app {s t : ByteArray} {l m : List UInt8} (h : Bts s l) (k : Bts t m) : Bts (s ++ t) (l ++ m) := by
  unfold Bts at *
  rw [ByteArray.data_append, Array.toList_append, h, k]
theorem Bts.size {s : ByteArray} {l : List UInt8} (h : Bts s l) : s.size = l.length := by
  unfold Bts at h
  rw [← h]; rfl
theorem key_string (s : ByteArray) (l : List UInt8) (h : Bts s l) (hs : s.size ≤ maxLen) : keyOf Try.prog 9 (.string s) = some (.string l) := by
  unfold Bts at h
  subst h
  simp [keyOf, Try.underlying9, mapKey, hs]
end Go.Proofs.Ytclpmmbclgihbaa
namespace Go.Proofs.Ytclpmmbclgihbaa
open Go.RowKit
namespace Df

def u8s (l : List Int) : List Value := l.map (Value.int .u8)
theorem u8s_len (l : List Int) : (u8s l).length = l.length := by simp [u8s]
theorem u8s_app (a b : List Int) : u8s (a ++ b) = u8s a ++ u8s b := by simp [u8s]
/-- four bytes of a number, the low ones first -/
def b4 (x : Int) : List Int := [x % 256, x / 256 % 256, x / 65536 % 256, x / 16777216 % 256]
theorem b4_len (x : Int) : (b4 x).length = 4 := rfl
theorem elU8 : ElemT Try.prog 63 5 1 1 := ElemT.mk' (z := .int .u8 0) Try.underlying63 (by kernel_rfl) rfl (by decide)
def WordPost (B : Nat) (v : Value) (u : List Int) (x : Int) (w : World) (e : Ending) (w' : World) : Prop :=
  ∃ v', e = .returned v' ∧ w'.ownsRow B 5 1 v' (u.length + 4) (u8s (u ++ b4 x)) ∧ w.grownBy w' v.ownBlock
set_option maxHeartbeats 2000000 in
theorem wordE (B : Nat) (v : Value) (u : List Int) (x : Int) (hx : -9223372036854775808 ≤ x ∧ x ≤ 9223372036854775807) (w : World) (ho : w.ownsRow B 5 1 v u.length (u8s u)) (hB : B ≤ w.heap.size) (hu : u.length ≤ 1000000) :
    Calls Try.prog 40 #[v, .int .i64 x] w (WordPost B v u x w) := by
  have HO := Lib.hid ho
  have HB := Lib.hid hB
  obtain ⟨a, c, rfl, -, -⟩ := own_len ho
  obtain ⟨n, HN⟩ := nameIt u.length
  rw [HN.out] at HO hu ⊢
  have HSL := Lib.hid (sl_lit (w := w) (v := #[.int .u8 (x % 256), .int .u8 (x / 256 % 256), .int .u8 (x / 65536 % 256), .int .u8 (x / 16777216 % 256)]) (e := 5) rfl (by simp [maxLen]))
  have HOA := Lib.hid (HO.out.alloc (.cells #[.int .u8 (x % 256), .int .u8 (x / 256 % 256), .int .u8 (x / 65536 % 256), .int .u8 (x / 16777216 % 256)] 5))
  have HFIN : Hid (∀ v' w', w'.ownsRow B 5 1 v' (n + 4) (u8s u ++ u8s (b4 x)) → (w.alloc (.cells #[.int .u8 (x % 256), .int .u8 (x / 256 % 256), .int .u8 (x / 65536 % 256), .int .u8 (x / 16777216 % 256)] 5)).grownBy w' (Value.slice a n c).ownBlock → WordPost B (.slice a n c) u x w (.returned v') w') := by
    intro v' w' h1 h2
    refine ⟨v', rfl, ?_, ?_⟩
    · rw [HN.out, u8s_app]; exact h1
    · exact grown_trans (World.grownBy_alloc w _ _) h2
  obtain ⟨PST, HP⟩ := nameIt (WordPost B (.slice a n c) u x w)
  rw [HP.out] at HFIN ⊢
  clear ho hB HP
  go_enter Try.func40, Try.ntmps40
  go_wp2_with (at_builtin; refine wp_appS elU8 rfl _ _ rfl HOA.out rfl HSL.out rfl (by simp [Value.oneCell']) (by simp; omega) (by simp [maxLen]; omega) (by simp; have := HB.out; omega) ?_)
  intro v' w' ho' hg'
  have HE := Lib.hid (HFIN.out v' w' ho' hg')
  obtain ⟨a', c', rfl, -, -⟩ := own_len ho'
  clear ho' hg'
  go_wp2_with fail
  exact HE.out
end Df
end Go.Proofs.Ytclpmmbclgihbaa
namespace Go.Proofs.Ytclpmmbclgihbaa
namespace Bf

/-- of words of one length: the lesser one -/
def lx : List Nat → List Nat → Prop
  | x :: u, y :: v => x < y ∨ (x = y ∧ lx u v)
  | _, _ => False
theorem lx_trans : ∀ {u v w}, lx u v → lx v w → lx u w
  | _ :: _, _ :: _, _ :: _, h1, h2 => by
    rcases h1 with h1 | ⟨rfl, h1⟩
    · rcases h2 with h2 | ⟨rfl, _⟩
      · exact .inl (Nat.lt_trans h1 h2)
      · exact .inl h1
    · rcases h2 with h2 | ⟨rfl, h2⟩
      · exact .inl h2
      · exact .inr ⟨rfl, lx_trans h1 h2⟩
theorem lx_app : ∀ {u v : List Nat} (x y : Nat), lx u v → u.length = v.length → lx (u ++ [x]) (v ++ [y])
  | _ :: _, _ :: _, x, y, h, hl => by
    rcases h with h | ⟨rfl, h⟩
    · exact .inl h
    · exact .inr ⟨rfl, lx_app x y h (by simpa using hl)⟩
theorem lx_last : ∀ (u : List Nat) {x y : Nat}, x < y → lx (u ++ [x]) (u ++ [y])
  | [], _, _, h => .inl h
  | _ :: u, _, _, h => .inr ⟨rfl, lx_last u h⟩

def sl (u v : List Nat) : Prop := u.length < v.length ∨ (u.length = v.length ∧ lx u v)
def sle (u v : List Nat) : Prop := u = v ∨ sl u v
theorem sl_trans {u v w : List Nat} (h1 : sl u v) (h2 : sl v w) : sl u w := by
  rcases h1 with h1 | ⟨e1, h1⟩ <;> rcases h2 with h2 | ⟨e2, h2⟩
  · exact .inl (Nat.lt_trans h1 h2)
  · exact .inl (by omega)
  · exact .inl (by omega)
  · exact .inr ⟨e1.trans e2, lx_trans h1 h2⟩
theorem sle_trans {u v w : List Nat} (h1 : sle u v) (h2 : sle v w) : sle u w := by
  rcases h1 with rfl | h1
  · exact h2
  · rcases h2 with rfl | h2
    · exact .inr h1
    · exact .inr (sl_trans h1 h2)
theorem sl_app {u v : List Nat} (h : sl u v) (x y : Nat) : sl (u ++ [x]) (v ++ [y]) := by
  rcases h with h | ⟨e, h⟩
  · exact .inl (by simp; omega)
  · exact .inr ⟨by simp [e], lx_app x y h e⟩
theorem sle_app {u v : List Nat} (h : sle u v) (x : Nat) : sle (u ++ [x]) (v ++ [x]) := by
  rcases h with rfl | h
  · exact .inl rfl
  · exact .inr (sl_app h x x)
theorem sl_snoc (u : List Nat) (x : Nat) : sl u (u ++ [x]) := .inl (by simp)
theorem sle_nil (u : List Nat) : sle [] u := by
  cases u with
  | nil => exact .inl rfl
  | cons x u => exact .inr (.inl (by simp))

variable {N : Type}
def run (step : N → Nat → N) (n : N) (w : List Nat) : N := w.foldl step n
def over (k : Nat) (w : List Nat) : Prop := ∀ s ∈ w, s < k

/-- the list of a search: the items before i are done, of item i the symbols below c -/
structure Inv (step : N → Nat → N) (k : Nat) (n0 : N) (bad : N → Bool) (L : List (N × List Nat)) (i c : Nat) : Prop where
  first : L[0]? = some (n0, [])
  reach : ∀ p ∈ L, run step n0 p.2 = p.1 ∧ over k p.2
  inc : L.Pairwise fun p q => sl p.2 q.2
  nd : (L.map Prod.fst).Nodup
  clos : ∀ j p, L[j]? = some p → ∀ s, s < k → (j < i ∨ (j = i ∧ s < c)) → ∃ q ∈ L, q.1 = step p.1 s ∧ sle q.2 (p.2 ++ [s])
  par : ∀ q ∈ L, q.2 = [] ∨ ∃ (j : Nat) (p : N × List Nat) (s : Nat), L[j]? = some p ∧ q.2 = p.2 ++ [s] ∧ (j < i ∨ (j = i ∧ s < c))
  good : ∀ (j : Nat) (p : N × List Nat), j < i → L[j]? = some p → bad p.1 = false
variable {step : N → Nat → N} {k : Nat} {n0 : N} {bad : N → Bool} {L : List (N × List Nat)} {i c : Nat}

theorem Inv.start (step : N → Nat → N) (k : Nat) (n0 : N) (bad : N → Bool) : Inv step k n0 bad [(n0, [])] 0 0 where
  first := rfl
  reach p hp := by rw [List.mem_singleton] at hp; subst hp; exact ⟨rfl, fun s hs => by cases hs⟩
  inc := List.pairwise_singleton _ _
  nd := by simp
  clos j p _ s _ h := by omega
  par q hq := by rw [List.mem_singleton] at hq; subst hq; exact .inl rfl
  good j p h := by omega
theorem Inv.lt_at (h : Inv step k n0 bad L i c) {j m : Nat} {p q : N × List Nat} (hj : L[j]? = some p) (hm : L[m]? = some q) (hjm : j < m) : sl p.2 q.2 := by
  obtain ⟨h1, rfl⟩ := List.getElem?_eq_some_iff.1 hj
  obtain ⟨h2, rfl⟩ := List.getElem?_eq_some_iff.1 hm
  exact List.pairwise_iff_getElem.1 h.inc j m h1 h2 hjm
/-- every item comes before what item i gives by symbol c -/
theorem Inv.before (h : Inv step k n0 bad L i c) {p : N × List Nat} (hi : L[i]? = some p) : ∀ q ∈ L, sl q.2 (p.2 ++ [c]) := by
  intro q hq
  rcases h.par q hq with e | ⟨j, p', s, hj, e, hlt⟩
  · rw [e]; exact .inl (by simp)
  · rw [e]
    rcases hlt with hlt | ⟨rfl, hs⟩
    · exact sl_app (h.lt_at hj hi hlt) _ _
    · rw [hi] at hj
      obtain rfl := Option.some.inj hj
      exact .inr ⟨by simp, lx_last _ hs⟩
theorem Inv.next (h : Inv step k n0 bad L i k) {p : N × List Nat} (hi : L[i]? = some p) (hb : bad p.1 = false) : Inv step k n0 bad L (i + 1) 0 where
  first := h.first
  reach := h.reach
  inc := h.inc
  nd := h.nd
  clos j p' hj s hs hlt := h.clos j p' hj s hs (by omega)
  par q hq := by
    rcases h.par q hq with e | ⟨j, p', s, hj, e, hlt⟩
    · exact .inl e
    · exact .inr ⟨j, p', s, hj, e, .inl (by omega)⟩
  good j p' hj e := by
    by_cases ej : j = i
    · subst ej
      rw [hi] at e
      obtain rfl := Option.some.inj e
      exact hb
    · exact h.good j p' (by omega) e
/-- a word's end is among the items that are done, by no greater a word; or the word is not below what is still to do -/
theorem Inv.preword (h : Inv step k n0 bad L i 0) : ∀ u : List Nat, over k u → (∃ j q, j < i ∧ L[j]? = some q ∧ q.1 = run step n0 u ∧ sle q.2 u) ∨ ∃ m q, i ≤ m ∧ L[m]? = some q ∧ sle q.2 u := by
  intro u
  generalize hl : u.length = m
  induction m generalizing u with
  | zero =>
    intro _
    obtain rfl : u = [] := List.length_eq_zero_iff.1 hl
    by_cases h0 : 0 < i
    · exact .inl ⟨0, _, h0, h.first, rfl, .inl rfl⟩
    · exact .inr ⟨0, _, by omega, h.first, .inl rfl⟩
  | succ m ih =>
    intro hu
    have hne : u ≠ [] := by rintro rfl; simp at hl
    obtain ⟨v, s, rfl⟩ : ∃ v s, u = v ++ [s] := ⟨_, _, (List.dropLast_concat_getLast hne).symm⟩
    have hs : s < k := hu s (by simp)
    rcases ih v (by simpa using hl) (fun x hx => hu x (List.mem_append_left _ hx)) with ⟨j, q, hj, hq, e, hle⟩ | ⟨m', q, hm, hq, hle⟩
    · obtain ⟨r, hr, e1, e2⟩ := h.clos j q hq s hs (.inl hj)
      obtain ⟨n, hn⟩ := List.mem_iff_getElem?.1 hr
      have hle2 := sle_trans e2 (sle_app hle s)
      by_cases hni : n < i
      · refine .inl ⟨n, r, hni, hn, ?_, hle2⟩
        rw [e1, e]
        unfold run
        rw [List.foldl_append]
        rfl
      · exact .inr ⟨n, r, by omega, hn, hle2⟩
    · exact .inr ⟨m', q, hm, hq, sle_trans hle (.inr (sl_snoc _ _))⟩
theorem Inv.none (h : Inv step k n0 bad L L.length 0) {u : List Nat} (hu : over k u) : bad (run step n0 u) = false := by
  rcases h.preword u hu with ⟨j, q, hj, hq, e, _⟩ | ⟨m, q, hm, hq, _⟩
  · rw [← e]; exact h.good j q hj hq
  · have := (List.getElem?_eq_some_iff.1 hq).1
    omega
end Bf
end Go.Proofs.Ytclpmmbclgihbaa
namespace Go.Proofs.Ytclpmmbclgihbaa
namespace Bf
variable {N : Type}

/-- a table of distances, as it stands when nothing changes any more (inf: none known) -/
structure Far (step : N → Nat → N) (k : Nat) (bad : N → Bool) (inf : Nat) (far : N → Nat) : Prop where
  word : ∀ n, far n < inf → ∃ u, over k u ∧ u.length = far n ∧ bad (run step n u) = true
  zero : ∀ n, bad n = true → far n = 0
  still : ∀ n c, c < k → far n ≤ far (step n c) + 1
/-- the word that is read off the table: the first symbol that leads nearer -/
inductive Greedy (step : N → Nat → N) (k : Nat) (far : N → Nat) : N → List Nat → Prop
  | here {n : N} : far n = 0 → Greedy step k far n []
  | there {n : N} {c : Nat} {w : List Nat} : c < k → far (step n c) + 1 = far n → (∀ c', c' < c → far (step n c') + 1 ≠ far n) → Greedy step k far (step n c) w → Greedy step k far n (c :: w)
variable {step : N → Nat → N} {k inf : Nat} {bad : N → Bool} {far : N → Nat}

theorem run_cons (n : N) (c : Nat) (u : List Nat) : run step n (c :: u) = run step (step n c) u := rfl
theorem Far.low (h : Far step k bad inf far) : ∀ (u : List Nat) (n : N), over k u → bad (run step n u) = true → far n ≤ u.length
  | [], n, _, hb => by rw [h.zero n hb]; exact Nat.le_refl _
  | c :: u, n, hu, hb => by
    have h1 := h.low u (step n c) (fun s hs => hu s (List.mem_cons_of_mem _ hs)) hb
    have h2 := h.still n c (hu c List.mem_cons_self)
    simp only [List.length_cons]
    omega
/-- there is a nearer neighbour -/
theorem Far.near (h : Far step k bad inf far) {n : N} (hlt : far n < inf) (h0 : 0 < far n) : ∃ c, c < k ∧ far (step n c) + 1 = far n := by
  obtain ⟨u, h1, h2, h3⟩ := h.word n hlt
  cases u with
  | nil => simp at h2; omega
  | cons c u =>
    have hc : c < k := h1 c List.mem_cons_self
    have h4 := h.low u (step n c) (fun s hs => h1 s (List.mem_cons_of_mem _ hs)) h3
    have h5 := h.still n c hc
    simp only [List.length_cons] at h2
    exact ⟨c, hc, by omega⟩
theorem Greedy.len : ∀ {n : N} {w : List Nat}, Greedy step k far n w → w.length = far n
  | _, _, .here h => by rw [h]; rfl
  | _, _, .there _ h _ hg => by rw [List.length_cons, hg.len]; exact h
theorem Greedy.syms : ∀ {n : N} {w : List Nat}, Greedy step k far n w → over k w
  | _, _, .here _ => fun s hs => by cases hs
  | _, _, .there hc _ _ hg => fun s hs => by
    rcases List.mem_cons.1 hs with rfl | hs
    · exact hc
    · exact hg.syms s hs
theorem Greedy.hit (h : Far step k bad inf far) : ∀ {n : N} {w : List Nat}, Greedy step k far n w → far n < inf → bad (run step n w) = true
  | n, _, .here h0, hlt => by
    obtain ⟨u, _, h2, h3⟩ := h.word n hlt
    have : u = [] := List.length_eq_zero_iff.1 (h2.trans h0)
    subst this
    exact h3
  | n, _, .there _ h1 _ hg, hlt => by
    rw [run_cons]
    exact hg.hit h (by omega)
theorem Greedy.least (h : Far step k bad inf far) : ∀ {n : N} {w : List Nat}, Greedy step k far n w → ∀ {u : List Nat}, over k u → bad (run step n u) = true → sle w u
  | n, _, .here _, u, _, _ => sle_nil u
  | n, _, .there (c := c) (w := w) hc h1 h2 hg, u, hu, hb => by
    have hl := h.low u n hu hb
    have hw := hg.len
    cases u with
    | nil => simp at hl; omega
    | cons x u =>
      simp only [List.length_cons] at hl
      rw [run_cons] at hb
      have hx : x < k := hu x List.mem_cons_self
      have hu' : over k u := fun s hs => hu s (List.mem_cons_of_mem _ hs)
      rcases Nat.lt_or_ge w.length u.length with hlt | hge
      · exact .inr (.inl (by simpa using hlt))
      · have h3 := h.low u (step n x) hu' hb
        have h4 := h.still n x hx
        have he : far (step n x) + 1 = far n := by omega
        rcases Nat.lt_trichotomy c x with hcx | rfl | hcx
        · exact .inr (.inr ⟨by simp; omega, .inl hcx⟩)
        · rcases hg.least h hu' hb with rfl | hs
          · exact .inl rfl
          · rcases hs with hs | ⟨e, hs⟩
            · exact .inr (.inl (by simpa using hs))
            · exact .inr (.inr ⟨by simpa using e, .inr ⟨rfl, hs⟩⟩)
        · exact absurd he (h2 x hcx)
end Bf
end Go.Proofs.Ytclpmmbclgihbaa
namespace Go.Proofs.Ytclpmmbclgihbaa
open Go.RowKit
namespace Df

structure Dfa where
  start : Int
  acc : List Int
  next : List (List Int)
def Dfa.d (x : Dfa) : D := .agg [.int x.start, D.ints x.acc, .sl (x.next.map D.ints)]
def Dfa.width (x : Dfa) : Nat := (x.next.headD []).length
def badD (x : Dfa) : Prop := x.start < 0 ∨ (x.next.length : Int) ≤ x.start ∨ (∃ v ∈ x.acc, v < -1) ∨ ∃ r ∈ x.next, ∃ v ∈ r, v < -1 ∨ (x.next.length : Int) ≤ v
def raggedD (x : Dfa) : Prop := ∃ r ∈ x.next, r.length = 0 ∨ r.length ≠ x.width
open Classical in
noncomputable def dfaErr (x : Dfa) : Int :=
  if 200 < x.next.length then 2 else if x.next.length = 0 ∨ x.acc.length ≠ x.next.length then 3 else if 16 < x.width then 2 else if raggedD x then 3 else if badD x then 1 else 0
/-- what a valid automaton is -/
structure Right (x : Dfa) : Prop where
  states : 0 < x.next.length ∧ x.next.length ≤ 200
  accs : x.acc.length = x.next.length
  syms : 0 < x.width ∧ x.width ≤ 16
  rows : ∀ r ∈ x.next, r.length = x.width
  start : 0 ≤ x.start ∧ x.start < x.next.length
  acc : ∀ v ∈ x.acc, -1 ≤ v
  next : ∀ r ∈ x.next, ∀ v ∈ r, -1 ≤ v ∧ v < x.next.length
theorem right_of {x : Dfa} (h : dfaErr x = 0) : Right x := by
  unfold dfaErr at h
  by_cases h1 : 200 < x.next.length
  · rw [if_pos h1] at h; simp at h
  rw [if_neg h1] at h
  by_cases h2 : x.next.length = 0 ∨ x.acc.length ≠ x.next.length
  · rw [if_pos h2] at h; simp at h
  rw [if_neg h2] at h
  by_cases h3 : 16 < x.width
  · rw [if_pos h3] at h; simp at h
  rw [if_neg h3] at h
  by_cases h4 : raggedD x
  · rw [if_pos h4] at h; simp at h
  rw [if_neg h4] at h
  by_cases h5 : badD x
  · rw [if_pos h5] at h; simp at h
  have h6 : 0 < x.next.length ∧ x.acc.length = x.next.length := by omega
  have hr : ∀ r ∈ x.next, 0 < r.length ∧ r.length = x.width := fun r hr => by
    have : ¬ (r.length = 0 ∨ r.length ≠ x.width) := fun e => h4 ⟨r, hr, e⟩
    omega
  have hs : 0 ≤ x.start ∧ x.start < x.next.length := by
    have e1 : ¬ x.start < 0 := fun e => h5 (.inl e)
    have e2 : ¬ (x.next.length : Int) ≤ x.start := fun e => h5 (.inr (.inl e))
    omega
  refine ⟨⟨h6.1, by omega⟩, h6.2, ⟨?_, by omega⟩, fun r h => (hr r h).2, hs, fun v hv => ?_, fun r hr v hv => ?_⟩
  · obtain ⟨r, hr0⟩ := List.exists_mem_of_length_pos h6.1
    have := hr r hr0
    omega
  · have : ¬ v < -1 := fun e => h5 (.inr (.inr (.inl ⟨v, hv, e⟩)))
    omega
  · have e1 : ¬ (v < -1 ∨ (x.next.length : Int) ≤ v) := fun e => h5 (.inr (.inr (.inr ⟨r, hr, v, hv, e⟩)))
    omega

/-- the state behind a state; -1 is dead -/
def toS (x : Dfa) (s : Int) (c : Nat) : Int := if s < 0 then -1 else ((x.next[s.toNat]?.getD [])[c]?).getD (-1)
def goodS (x : Dfa) (s : Int) : Bool := decide (0 ≤ s) && decide (0 ≤ (x.acc[s.toNat]?).getD (-1))
def inS (x : Dfa) (s : Int) : Prop := -1 ≤ s ∧ s < x.next.length
theorem toS_in {x : Dfa} (h : Right x) (s : Int) (c : Nat) : inS x (toS x s c) := by
  unfold toS inS
  have h0 := h.states
  by_cases hs : s < 0
  · rw [if_pos hs]; omega
  · rw [if_neg hs]
    cases hr : x.next[s.toNat]? with
    | none => simp; omega
    | some r =>
      simp only [Option.getD_some]
      cases hv : r[c]? with
      | none => simp; omega
      | some v => exact h.next r (List.mem_of_getElem? hr) v (List.mem_of_getElem? hv)
theorem toS_at {x : Dfa} (h : Right x) {s : Int} (h0 : 0 ≤ s) (h1 : s < x.next.length) {c : Nat} (hc : c < x.width) : ∃ r v, x.next[s.toNat]? = some r ∧ r[c]? = some v ∧ toS x s c = v ∧ r.length = x.width := by
  have hlt : s.toNat < x.next.length := by omega
  have hr : x.next[s.toNat]? = some (x.next[s.toNat]) := List.getElem?_eq_getElem hlt
  have hl := h.rows _ (List.getElem_mem hlt)
  have hv : (x.next[s.toNat])[c]? = some ((x.next[s.toNat])[c]'(by omega)) := List.getElem?_eq_getElem (by omega)
  exact ⟨_, _, hr, hv, by unfold toS; rw [if_neg (by omega), hr, Option.getD_some, hv, Option.getD_some], hl⟩

/-- pairs of states of two automata -/
def stepP (x y : Dfa) (n : Int × Int) (c : Nat) : Int × Int := (toS x n.1 c, toS y n.2 c)
def badP (x y : Dfa) (n : Int × Int) : Bool := goodS x n.1 != goodS y n.2
/-- the word on which two automata first differ, if there is one -/
def LeastW (x y : Dfa) (w : List Nat) : Prop := Bf.over x.width w ∧ badP x y (Bf.run (stepP x y) (x.start, y.start) w) = true ∧ ∀ u, Bf.over x.width u → badP x y (Bf.run (stepP x y) (x.start, y.start) u) = true → Bf.sle w u
theorem leastW_table {x y : Dfa} {far : Int × Int → Nat} {inf : Nat} (h : Bf.Far (stepP x y) x.width (badP x y) inf far) {w : List Nat} (hg : Bf.Greedy (stepP x y) x.width far (x.start, y.start) w) (hlt : far (x.start, y.start) < inf) : LeastW x y w :=
  ⟨hg.syms, hg.hit h hlt, fun _ hu hb => hg.least h hu hb⟩
end Df
end Go.Proofs.Ytclpmmbclgihbaa
namespace Go.Proofs.Ytclpmmbclgihbaa
open Go.RowKit
namespace Df

theorem Rd.rowI_at {S : Nat → Prop} {w : World} {l : List (List Int)} {a : Option Addr} {n cap i : Nat} (h : Rd S w (.sl (l.map D.ints)) [.slice a n cap]) (hi : i < l.length) :
    ∃ b off v, a = some ⟨b, off, none⟩ ∧ w.cell? ⟨b, off + i, none⟩ = some v ∧ Sl w v (ints l[i]) := by
  obtain ⟨b, off, cs, ha, hS, hb, hr, hl, hc⟩ := Rd.at (k := 1) h (by intro d hd; rw [List.mem_map] at hd; obtain ⟨x, _, rfl⟩ := hd; rfl) (by omega) (i := i) (by simpa using hi)
  rw [List.getElem_map] at hr
  obtain ⟨v, rfl⟩ : ∃ v, cs = [v] := by
    match cs, hl with
    | [v], _ => exact ⟨v, rfl⟩
  have h0 := hc 0 (by simp)
  exact ⟨b, off, v, ha, by simpa using h0, sl_rd hr⟩

end Df
end Go.Proofs.Ytclpmmbclgihbaa
namespace Go.Proofs.Ytclpmmbclgihbaa
open Go.RowKit

end Go.Proofs.Ytclpmmbclgihbaa
