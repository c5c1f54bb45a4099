/- Own small laws: a slice value that reads as a list of one-cell values. Own small laws, more: rows of the call's own, written in place; what calls leave. Contracts of the library's generic functions over slices of ints: Equal, Delete. Nested data in memory: whole numbers, truth values, strings, slices and structs, read out of cells. Rows of nested data of the call's own: append of one datum, of a slice of data. A row of the call's own that is also cut at its front: append to it. Contracts of the library's generic functions over slices of ints: Clone, Grow of nil, Concat. Trees, in plain Lean, and how they read. Symbols and rules of grammars, in plain Lean, and how they read. Plain: all words by length, as a queue makes them. A row of words of the call's own, that may be cut at its front. parlref5.Every. Plain: the words of a nonterminal. -/
import Derived.WalkKit
import Derived.ProofKit
import Derived.Below
import Derived.Deep.Slices
import Derived.Lib.Hide
import Derived.Deep.RegionLaw
import Derived.Laws.IdiomCopy
import Derived.Deep.QuietTactic
import Derived.BigQuiet
import Derived.Outline
import Derived.Lib.SlicesDelete
import Derived.Lib.SliceRun
import Derived.Laws.AppendOwnNone
import Derived.Lib.AppendZerosOnto
import Derived.Test.YtccjdgjehecdiaaDoorRows
import Derived.Maps.AppendAt
import Derived.Deep.AppendLies
import Derived.Deep.Onto
import Derived.Deep.LoopGhost
import Derived.Deep.Cut
import Derived.Shelf.Abstract
import Derived.Deep.DeepCutAuto
namespace Go.Proofs.YtccjdgjehecdiaaDoor
open Go.RowKit

/-- the slice value v reads, in w, as the list L of values of one cell each -/
def Sl (w : World) (v : Value) (L : List Value) : Prop :=
  ∃ a cap, v = .slice a L.length cap ∧ L.length ≤ cap ∧ cap ≤ maxLen ∧ (a = none → cap = 0) ∧ ∀ i (h : i < L.length), ∃ x, a = some x ∧ w.cell? (x.add i) = some L[i]

theorem Sl.cases {w : World} {v : Value} {L : List Value} (h : Sl w v L) :
    (L = [] ∧ ∃ a cap, v = .slice a 0 cap ∧ cap ≤ maxLen ∧ (a = none → cap = 0)) ∨
    ∃ b off cap, v = .slice (some ⟨b, off, none⟩) L.length cap ∧ 0 < L.length ∧ L.length ≤ cap ∧ cap ≤ maxLen ∧ ∀ i (h : i < L.length), w.cell? ⟨b, off + i, none⟩ = some L[i] := by
  obtain ⟨a, cap, rfl, hl, hc, hn, hx⟩ := h
  rcases Nat.eq_zero_or_pos L.length with h0 | h0
  · left
    obtain rfl := List.eq_nil_of_length_eq_zero h0
    exact ⟨rfl, a, cap, rfl, hc, hn⟩
  · right
    obtain ⟨⟨b, off, spot⟩, rfl, h1⟩ := hx 0 h0
    have hs : spot = none := by simpa [Addr.add] using World.cell?_spot h1
    subst hs
    refine ⟨b, off, cap, rfl, h0, hl, hc, fun i hi => ?_⟩
    obtain ⟨y, hy, h2⟩ := hx i hi
    cases hy
    rw [← h2]
    congr 1
    unfold Addr.add
    by_cases e : i = 0 <;> simp [e]

theorem nameIt {α : Type} (a : α) : ∃ x, Hid (a = x) := ⟨a, rfl⟩

theorem lt_of_cell {w : World} {x : Addr} {v : Value} (h : w.cell? x = some v) : x.block < w.heap.size := by
  unfold World.cell? at h
  split at h
  · rename_i e
    exact (Array.getElem?_eq_some_iff.1 e).1
  · cases h

theorem add_block (x : Addr) (i : Nat) : (x.add i).block = x.block := by
  unfold Addr.add
  by_cases e : i = 0 <;> simp [e]

/-- what was there when a call began reads behind it as before -/
theorem Sl.keep {w w' : World} {v : Value} {L : List Value} (h : Sl w v L) (hb : Below w.heap.size w w') : Sl w' v L := by
  obtain ⟨a, cap, rfl, hl, hc, hn, hx⟩ := h
  refine ⟨a, cap, rfl, hl, hc, hn, fun i hi => ?_⟩
  obtain ⟨x, rfl, h1⟩ := hx i hi
  exact ⟨x, rfl, by rw [← h1]; exact hb.cell (lt_of_cell h1)⟩

/-- at an index inside, the address is known -/
theorem Sl.at {w : World} {a : Option Addr} {n cap : Nat} {L : List Value} (h : Sl w (.slice a n cap) L) {k : Nat} (hk : k < n) :
    ∃ b off, a = some ⟨b, off, none⟩ ∧ ∀ i (h : i < L.length), w.cell? ⟨b, off + i, none⟩ = some L[i] := by
  rcases h.cases with ⟨_, a', c', e, _⟩ | ⟨b, off, c', e, _, _, _, hx⟩
  · cases e; omega
  · cases e; exact ⟨b, off, rfl, hx⟩

theorem Sl.len {w : World} {a : Option Addr} {n cap : Nat} {L : List Value} (h : Sl w (.slice a n cap) L) : n = L.length ∧ n ≤ cap ∧ cap ≤ maxLen := by
  obtain ⟨a', c', e, hl, hc, _, _⟩ := h
  cases e; exact ⟨rfl, hl, hc⟩

theorem Sl.form {w : World} {v : Value} {L : List Value} (h : Sl w v L) : ∃ a cap, v = .slice a L.length cap := by
  obtain ⟨a', c', e, _⟩ := h; exact ⟨a', c', e⟩

/-- a row of the call's own, of one cell an element, reads as a slice -/
theorem sl_of_own {w : World} {B : Nat} {e : TypeId} {v : Value} {n : Nat} {xs : List Value} (h : w.ownsRow B e 1 v n xs) : Sl w v xs := by
  obtain ⟨hl, h⟩ := h
  rw [Nat.mul_one] at hl
  rcases h with ⟨rfl, rfl⟩ | ⟨g, cap, cur, rfl, hg, hh, hn, hc, hs, ht⟩
  · obtain rfl := List.eq_nil_of_length_eq_zero hl
    exact ⟨none, 0, rfl, by simp, by simp, fun _ => rfl, fun i hi => by simp at hi⟩
  · subst hl
    refine ⟨_, cap, rfl, hn, hc, (fun h => by cases h), fun i hi => ⟨_, rfl, ?_⟩⟩
    have : (⟨g, 0, none⟩ : Addr).add i = ⟨g, i, none⟩ := by unfold Addr.add; by_cases e : i = 0 <;> simp [e]
    rw [this]
    simp only [World.cell?, hh]
    rw [Nat.mul_one] at ht
    have h2 : xs[i]? = cur[i]? := by
      conv => lhs; rw [← ht]
      rw [List.getElem?_take, if_pos hi]; simp
    rw [List.getElem?_eq_getElem hi] at h2
    simpa using h2.symm

/-- what a program's table says of a slice type and its elements' type -/
structure ElemT (P : Program) (t e : TypeId) (size bytes : Nat) : Prop where
  und : P.underlying t = some (.slice e)
  info : ∃ (i : TypeInfo) (z : Value), P.info? e = some i ∧ i.zero = some z ∧ i.size = size ∧ i.bytes = bytes ∧ z.cells.size = size
  pos : 0 < size

theorem ElemT.mk' {P : Program} {t e : TypeId} {size bytes : Nat} {z : Value} (h : P.underlying t = some (.slice e)) (hi : (P.info? e).map (fun i => (i.zero, i.size, i.bytes)) = some (some z, size, bytes)) (hz : z.cells.size = size) (hp : 0 < size) : ElemT P t e size bytes := by
  obtain ⟨i, h1, h2, h3, h4⟩ := info_parts hi
  exact ⟨h, ⟨i, z, h1, h2, h3, h4, hz⟩, hp⟩

/-- append of one element, to a row of the call's own -/
theorem wp_app1 {P : Program} {ops : Array Oper} {rest : List Oper} {o : Oper} {a : Act} {Q : Exit → Act → World → Prop} {w0 : World} {t e : TypeId} {size bytes : Nat} (E : ElemT P t e size bytes)
    (hgd : o.guard = none) (s x : Operand) (ho : o.op = .call { callee := .builtin .append, args := #[s, x], argTypes := #[t, t] })
    {B : Nat} {v : Value} {n : Nat} {xs : List Value} {news : Array Value} (hown : w0.ownsRow B e size v n xs) (hs : a.eval s = v) (hx : a.eval x = .slice (some ⟨w0.heap.size, 0, none⟩) 1 1)
    (hn : news.size = size) (h1 : news.toList.all Value.oneCell' = true) (hb : (n + 1) * bytes ≤ 140737488355328) (hm : n + 1 ≤ maxLen) (hB : B ≤ w0.heap.size)
    (h : ∀ v' w', w'.ownsRow B e size v' (n + 1) (xs ++ news.toList) → w0.grownBy w' v.ownBlock → wpList P ops Q rest (a.put o.dst v') w') :
    wpList P ops Q (o :: rest) a (w0.alloc (.cells news e)) := by
  obtain ⟨hu, ⟨i, z, hi, hz, hsz, hby, hzs⟩, hp⟩ := E
  refine wpList_append_own (w0.alloc (.cells news e)) hgd s x t ho B e i z size bytes hu hi hz hsz hby hzs hp v n xs hs (hown.alloc _) ⟨w0.heap.size, 0, none⟩ 1 1 news.toList hx (by simp [hn]) ?_ (List.all_eq_true.1 h1) hm hb (by simp; omega) ?_
  · intro j u hj
    have : (⟨w0.heap.size, 0, none⟩ : Addr).add j = ⟨w0.heap.size, j, none⟩ := by unfold Addr.add; by_cases e : j = 0 <;> simp [e]
    rw [this]
    have hh : (w0.alloc (.cells news e)).heap[w0.heap.size]? = some (.cells news e (0, 0)) := heap_alloc_new w0 _
    simp only [World.cell?, hh]
    simpa using hj
  · intro v' w' h2 h3 _
    refine h v' w' h2 ?_
    have h4 := World.grownBy_alloc w0 (.cells news e) v.ownBlock
    exact ⟨h3.os.trans h4.os, h3.tape.trans h4.tape, h3.output.trans h4.output, Nat.le_trans h4.size h3.size, fun k hk hne => (h3.block k (Nat.lt_of_lt_of_le hk h4.size) hne).trans (h4.block k hk hne)⟩

section
open Go.ChangeShapes Go.WideShapes Go.Deep
variable {H : Type} {enc : TypeId × Value → H} {P : Program} {w : World}

end

end Go.Proofs.YtccjdgjehecdiaaDoor
namespace Go.Proofs.YtccjdgjehecdiaaDoor
open Go.RowKit

/-- a row that was there stays the call's own over whatever makes new memory only -/
theorem own_keep {w w' : World} {B : Nat} {e : TypeId} {s : Nat} {v : Value} {n : Nat} {xs : List Value} (h : w.ownsRow B e s v n xs) (hb : Below w.heap.size w w') : w'.ownsRow B e s v n xs := by
  obtain ⟨h1, h2⟩ := h
  refine ⟨h1, ?_⟩
  rcases h2 with h2 | ⟨g, cap, cur, rfl, hg, hh, r⟩
  · exact .inl h2
  · refine .inr ⟨g, cap, cur, rfl, hg, ?_, r⟩
    rw [hb.block g (Array.getElem?_eq_some_iff.1 hh).1]; exact hh

theorem below_grown {w w' : World} {B : Nat} {row : Option Nat} (hg : w.grownBy w' row) (hB : B ≤ w.heap.size) (hr : ∀ k, row = some k → B ≤ k) : Below B w w' := (Below.refl B w).grown hg hB hr

theorem grown_below {w w' : World} (hb : Below w.heap.size w w') (row : Option Nat) : w.grownBy w' row := ⟨hb.os, hb.tape, hb.output, hb.size, fun k hk _ => hb.block k hk⟩

theorem below_drewN (w : World) (n : Nat) : Below w.heap.size w (w.drewN n) := ⟨rfl, rfl, rfl, Nat.le_refl _, fun _ _ => rfl⟩

/-- the rest of a slice, cut inside its capacity -/
theorem Sl.rest {w : World} {a : Option Addr} {n cap k : Nat} {L : List Value} (h : Sl w (.slice a n cap) L) (hk : k ≤ n) (hc : cap ≠ k) : Sl w (.slice (a.map fun x => x.add k) (n - k) (cap - k)) (L.drop k) := by
  obtain ⟨a', cap', e, hl, hcm, hn, hx⟩ := h
  cases e
  refine ⟨a.map (fun x => x.add k), cap - k, by simp, by simp; omega, by omega, fun h => ?_, fun i hi => ?_⟩
  · have := hn (by simpa using h); omega
  simp at hi
  obtain ⟨x, rfl, h1⟩ := hx (k + i) (by omega)
  exact ⟨x.add k, rfl, by rw [Deep.add_add, h1]; simp⟩

theorem Sl.start {w : World} {a : Option Addr} {n cap : Nat} {L : List Value} (h : Sl w (.slice a n cap) L) {j : Nat} (hj : j ≤ n) : Sl w (.slice a j cap) (L.take j) := by
  obtain ⟨a', cap', e, hl, hcm, hn, hx⟩ := h
  cases e
  refine ⟨a, cap, by simp [Nat.min_eq_left hj], by simp; omega, hcm, hn, fun k hk => ?_⟩
  simp at hk
  obtain ⟨x, rfl, h1⟩ := hx k (by omega)
  exact ⟨x, rfl, by rw [h1]; simp⟩

theorem own_len {w : World} {B : Nat} {e : TypeId} {s : Nat} {v : Value} {n : Nat} {xs : List Value} (h : w.ownsRow B e s v n xs) : ∃ a cap, v = .slice a n cap ∧ n ≤ cap ∧ cap ≤ maxLen := by
  rcases h.2 with ⟨rfl, rfl⟩ | ⟨g, cap, cur, rfl, _, _, h1, h2, _⟩
  · exact ⟨_, _, rfl, by simp, by simp⟩
  · exact ⟨_, _, rfl, h1, h2⟩

/-- append of a whole slice of one-cell elements, to a row of the call's own -/
theorem wp_appS {P : Program} {ops : Array Oper} {rest : List Oper} {o : Oper} {a : Act} {Q : Exit → Act → World → Prop} {w : World} {t e : TypeId} {bytes : Nat} (E : ElemT P t e 1 bytes)
    (hgd : o.guard = none) (s x : Operand) (ho : o.op = .call { callee := .builtin .append, args := #[s, x], argTypes := #[t, t] })
    {B : Nat} {v u : Value} {n : Nat} {xs L : List Value} (hown : w.ownsRow B e 1 v n xs) (hs : a.eval s = v) (hsl : Sl w u L) (hx : a.eval x = u)
    (h1 : ∀ z ∈ L, z.oneCell' = true) (hb : (n + L.length) * bytes ≤ 140737488355328) (hm : n + L.length ≤ maxLen) (hB : B ≤ w.heap.size)
    (h : ∀ v' w', w'.ownsRow B e 1 v' (n + L.length) (xs ++ L) → w.grownBy w' v.ownBlock → wpList P ops Q rest (a.put o.dst v') w') :
    wpList P ops Q (o :: rest) a w := by
  obtain ⟨hu, ⟨i, z, hi, hz, hsz, hby, hzs⟩, hp⟩ := E
  obtain ⟨a', cap, rfl, hl, hc, hn, hcell⟩ := hsl
  cases a' with
  | none =>
    obtain rfl : cap = 0 := hn rfl
    have hL : L = [] := List.eq_nil_of_length_eq_zero (by omega)
    subst hL
    refine wpList_append_own_none hgd s x t ho B e i 1 hu hi v n xs hs hown hx (h v w (by simpa using hown) ?_)
    exact ⟨rfl, rfl, rfl, Nat.le_refl _, fun _ _ _ => rfl⟩
  | some ad =>
    refine wpList_append_own w hgd s x t ho B e i z 1 bytes hu hi hz hsz hby hzs hp v n xs hs hown ad L.length cap L hx (by simp) ?_ h1 hm hb hB fun v' w' h2 h3 _ => h v' w' h2 h3
    intro j y hj
    obtain ⟨hj1, hj2⟩ := List.getElem?_eq_some_iff.1 hj
    obtain ⟨y', hy, h2⟩ := hcell j hj1
    cases hy
    rw [h2, hj2]

theorem bx_keep {w w' : World} {b : Nat} {o : Obj} (h : w.heap[b]? = some o) (hb : Below w.heap.size w w') : w'.heap[b]? = some o := by
  rw [hb.block b (Array.getElem?_eq_some_iff.1 h).1]; exact h

theorem bx_cells2 {w : World} {b : Nat} {x0 x1 : Value} {T : TypeId} (h : w.heap[b]? = some (.cells #[x0, x1] T (0, 0))) :
    w.cell? ⟨b, 0, none⟩ = some x0 ∧ w.cell? ⟨b, 0 + 1, none⟩ = some x1 := by
  refine ⟨?_, ?_⟩ <;> simp [World.cell?, h]
theorem bx_cells4 {w : World} {b : Nat} {x0 x1 x2 x3 : Value} {T : TypeId} (h : w.heap[b]? = some (.cells #[x0, x1, x2, x3] T (0, 0))) :
    w.cell? ⟨b, 0, none⟩ = some x0 ∧ w.cell? ⟨b, 0 + 1, none⟩ = some x1 ∧ w.cell? ⟨b, 0 + 2, none⟩ = some x2 ∧ w.cell? ⟨b, 0 + 3, none⟩ = some x3 := by
  refine ⟨?_, ?_, ?_, ?_⟩ <;> simp [World.cell?, h]
/-- one cell of a box, stored into -/
theorem bx_set {w : World} {b : Nat} {cs : Array Value} {T : TypeId} (h : w.heap[b]? = some (.cells cs T (0, 0))) (j : Nat) (v : Value) : (w.setCell ⟨b, j, none⟩ v).heap[b]? = some (.cells (cs.setIfInBounds j v) T (0, 0)) := by
  simp [World.setCell, Array.getElem?_modify, h]
theorem bx_other {w : World} {b c : Nat} {o : Obj} (h : w.heap[b]? = some o) (hne : b ≠ c) (j : Nat) (v : Value) : (w.setCell ⟨c, j, none⟩ v).heap[b]? = some o := by
  rw [Below.heap_setCell _ _ _ _ hne]; exact h
theorem bx_new (w : World) (o : Obj) (g : Nat) (hg : g = w.heap.size) : (w.alloc o).heap[g]? = some o := by subst hg; exact heap_alloc_new w o

end Go.Proofs.YtccjdgjehecdiaaDoor
namespace Go.Proofs.YtccjdgjehecdiaaDoor
open Go.RowKit

def ints (l : List Int) : List Value := l.map (Value.int .i64)
theorem ints_len (l : List Int) : (ints l).length = l.length := by simp [ints]
theorem ints_get (l : List Int) (i : Nat) (h : i < (ints l).length) : (ints l)[i] = .int .i64 (l[i]'(by simpa [ints] using h)) := by simp [ints]
theorem elInt : ElemT Tryd.prog 25 3 1 8 := ElemT.mk' (z := .int .i64 0) Tryd.underlying25 (by kernel_rfl) rfl (by decide)

set_option maxHeartbeats 400000 in
theorem equal_ne (a a' : Option Addr) (n n' cap cap' : Nat) (w : World) (h : n ≠ n') (hn : n ≤ maxLen) (hn' : n' ≤ maxLen) :
    Calls Tryd.prog 6 #[.slice a n cap, .slice a' n' cap'] w fun e w' => e = .returned (.bool false) ∧ w = w' := by
  unfold maxLen at hn hn'
  have hb : ((n : Int) != (n' : Int)) = true := by rw [bne_iff_ne]; omega
  go_enter Tryd.func6, Tryd.ntmps6
  go_wp2
  go_ret
  exact ⟨rfl, rfl⟩

set_option maxHeartbeats 400000 in
theorem equal_eq (a a' : Option Addr) (cap cap' : Nat) (x y : List Int) (w : World) (hl : x.length = y.length) (hx : Sl w (.slice a x.length cap) (ints x)) (hy : Sl w (.slice a' x.length cap') (ints y)) :
    Calls Tryd.prog 6 #[.slice a x.length cap, .slice a' x.length cap'] w fun e w' => e = .returned (.bool (x == y)) ∧ Below w.heap.size w w' := by
  have HX := Lib.hid hx
  have HY := Lib.hid hy
  have hm := (hx.len).2
  have HL := Lib.hid hl
  clear hx hy hl
  unfold maxLen at hm
  obtain ⟨hm1, hm2⟩ := hm
  have hb : ((x.length : Int) != (x.length : Int)) = false := by simp
  go_enter Tryd.func6, Tryd.ntmps6
  go_wp2
  go_loopw [13] (fun t wr => ∃ k : Nat, k ≤ x.length ∧ t = .int .i64 k ∧ Hid (x.take k = y.take k) ∧ Hid (Below w.heap.size w wr)) (fun t _ => x.length - (intOf t).toNat)
  case atStart => exact ⟨0, by omega, rfl, rfl, Below.refl _ _⟩
  case round =>
    obtain ⟨k, hk, rfl, HT, HB⟩ := hrel
    by_cases hlt : k < x.length
    · obtain ⟨b, off, rfl, hc⟩ := (HX.out.keep HB.out).at hlt
      obtain ⟨b', off', rfl, hc'⟩ := (HY.out.keep HB.out).at hlt
      have hcell := hc k (by rw [ints_len]; exact hlt)
      have hcell' := hc' k (by rw [ints_len, ← HL.out]; exact hlt)
      rw [ints_get] at hcell hcell'
      clear hc hc'
      have h1 : (k : Int) < (x.length : Int) := by omega
      have HS : Hid (∀ p q, x[k] = p → y[k]'(by rw [← HL.out]; exact hlt) = q → (p = q → x.take (k + 1) = y.take (k + 1)) ∧ (p ≠ q → (x == y) = false)) := by
        intro p q hp hq
        constructor
        · intro e
          rw [List.take_succ_eq_append_getElem hlt, List.take_succ_eq_append_getElem (by rw [← HL.out]; exact hlt), HT.out, hp, hq, e]
        · intro e
          rw [beq_eq_false_iff_ne]
          intro exy
          subst exy
          exact e (hp.symm.trans hq)
      generalize hp : x[k] = p at *
      generalize hq : y[k]'(by rw [← HL.out]; exact hlt) = q at *
      have HS2 := Lib.hid (HS.out p q rfl rfl)
      clear HS hp hq
      by_cases hpq : p = q
      · subst hpq
        have hne : (p != p) = false := by simp
        have HE := Lib.hid (HS2.out.1 rfl)
        clear HS2
        go_wp2
        go_quiet (fail)
        go_wp2
        exact ⟨⟨k + 1, by omega, by go_num, HE.out, HB.out.trans ((below_drewN wr _).mono HB.out.size)⟩, by simp [intOf]; omega⟩
      · have hne : (p != q) = true := by rw [bne_iff_ne]; exact hpq
        have HE := Lib.hid (HS2.out.2 hpq)
        have HPQ := Lib.hid hpq
        clear HS2 hpq
        go_wp2
        go_quiet (fail)
        go_wp2
        go_ret
        rw [HE.out]
        exact ⟨rfl, HB.out.trans ((below_drewN wr _).mono HB.out.size)⟩
    · have HE : Hid ((x == y) = true) := by
        show _ = _
        have := HT.out
        rw [List.take_of_length_le (by omega), List.take_of_length_le (by have := HL.out; omega)] at this
        rw [this]; simp
      go_wp2
      go_ret
      rw [HE.out]
      exact ⟨rfl, HB.out⟩

/-- slices.Equal at []int -/
theorem equal (v v' : Value) (x y : List Int) (w : World) (hx : Sl w v (ints x)) (hy : Sl w v' (ints y)) :
    Calls Tryd.prog 6 #[v, v'] w fun e w' => e = .returned (.bool (x == y)) ∧ Below w.heap.size w w' := by
  obtain ⟨a, cap, rfl⟩ := hx.form
  obtain ⟨a', cap', rfl⟩ := hy.form
  rw [ints_len] at hx hy ⊢
  rw [ints_len]
  by_cases h : x.length = y.length
  · rw [← h] at hy ⊢
    exact equal_eq a a' cap cap' x y w h hx hy
  · refine (equal_ne a a' _ _ cap cap' w h ?_ ?_).mono ?_
    · exact Nat.le_trans hx.len.2.1 hx.len.2.2
    · exact Nat.le_trans hy.len.2.1 hy.len.2.2
    · rintro e w' ⟨rfl, rfl⟩
      have : (x == y) = false := by rw [beq_eq_false_iff_ne]; intro e; exact h (by rw [e])
      rw [this]
      exact ⟨rfl, Below.refl _ _⟩

end Go.Proofs.YtccjdgjehecdiaaDoor
namespace Go.Proofs.YtccjdgjehecdiaaDoor
open Go.RowKit

inductive D where
  | int (n : Int)
  | bool (b : Bool)
  | str (s : ByteArray)
  | sl (l : List D)
  | agg (l : List D)

mutual
/-- the cells cs read as the datum, in blocks of S alone -/
def Rd (S : Nat → Prop) (w : World) : D → List Value → Prop
  | .int n, cs => cs = [.int .i64 n]
  | .bool b, cs => cs = [.bool b]
  | .str s, cs => cs = [.string s]
  | .sl ds, cs => ∃ a cap L, cs = [.slice a ds.length cap] ∧ ds.length ≤ cap ∧ cap ≤ maxLen ∧ (a = none → cap = 0) ∧ (∀ i (h : i < L.length), ∃ x, a = some x ∧ S x.block ∧ w.cell? (x.add i) = some L[i]) ∧ RdAll S w ds L
  | .agg ds, cs => RdAll S w ds cs
def RdAll (S : Nat → Prop) (w : World) : List D → List Value → Prop
  | [], cs => cs = []
  | d :: ds, cs => ∃ c1 c2, cs = c1 ++ c2 ∧ Rd S w d c1 ∧ RdAll S w ds c2
end

mutual
def D.cells : D → Nat
  | .int _ => 1
  | .bool _ => 1
  | .str _ => 1
  | .sl _ => 1
  | .agg l => D.cellsAll l
def D.cellsAll : List D → Nat
  | [] => 0
  | d :: l => D.cells d + D.cellsAll l
end

def AnyB : Nat → Prop := fun _ => True

mutual
theorem Rd.len {S : Nat → Prop} {w : World} : ∀ (d : D) (cs : List Value), Rd S w d cs → cs.length = d.cells
  | .int n, cs, h => by simp [Rd] at h; simp [h, D.cells]
  | .bool n, cs, h => by simp [Rd] at h; simp [h, D.cells]
  | .str n, cs, h => by simp [Rd] at h; simp [h, D.cells]
  | .sl ds, cs, h => by obtain ⟨a, cap, L, rfl, _⟩ := h; simp [D.cells]
  | .agg ds, cs, h => by rw [D.cells]; exact RdAll.len ds cs h
theorem RdAll.len {S : Nat → Prop} {w : World} : ∀ (ds : List D) (cs : List Value), RdAll S w ds cs → cs.length = D.cellsAll ds
  | [], cs, h => by simp [RdAll] at h; simp [h, D.cellsAll]
  | d :: ds, cs, h => by
    obtain ⟨c1, c2, rfl, h1, h2⟩ := h
    simp [D.cellsAll, Rd.len d c1 h1, RdAll.len ds c2 h2]
end

mutual
/-- what lies in blocks that are as they were reads as it did; S may be widened, too -/
theorem Rd.keep {S S' : Nat → Prop} {w w' : World} (hS : ∀ k, S k → k < w.heap.size → S' k ∧ w'.heap[k]? = w.heap[k]?) : ∀ (d : D) (cs : List Value), Rd S w d cs → Rd S' w' d cs
  | .int n, cs, h => h
  | .bool n, cs, h => h
  | .str n, cs, h => h
  | .sl ds, cs, h => by
    obtain ⟨a, cap, L, rfl, h1, h2, h3, h4, h5⟩ := h
    refine ⟨a, cap, L, rfl, h1, h2, h3, fun i hi => ?_, RdAll.keep hS ds L h5⟩
    obtain ⟨x, rfl, hx, hc⟩ := h4 i hi
    have hlt := lt_of_cell hc
    rw [add_block] at hlt
    obtain ⟨k1, k2⟩ := hS _ hx hlt
    refine ⟨x, rfl, k1, ?_⟩
    rw [← hc]
    exact World.cell?_of_block (w := w) (by rw [add_block]; exact k2)
  | .agg ds, cs, h => RdAll.keep hS ds cs h
theorem RdAll.keep {S S' : Nat → Prop} {w w' : World} (hS : ∀ k, S k → k < w.heap.size → S' k ∧ w'.heap[k]? = w.heap[k]?) : ∀ (ds : List D) (cs : List Value), RdAll S w ds cs → RdAll S' w' ds cs
  | [], cs, h => h
  | d :: ds, cs, h => by
    obtain ⟨c1, c2, rfl, h1, h2⟩ := h
    exact ⟨c1, c2, rfl, Rd.keep hS d c1 h1, RdAll.keep hS ds c2 h2⟩
end

theorem Rd.below {S : Nat → Prop} {w w' : World} {d : D} {cs : List Value} (h : Rd S w d cs) (hb : Below w.heap.size w w') : Rd S w' d cs :=
  Rd.keep (fun k hk hlt => ⟨hk, hb.block k hlt⟩) d cs h
theorem RdAll.below {S : Nat → Prop} {w w' : World} {d : List D} {cs : List Value} (h : RdAll S w d cs) (hb : Below w.heap.size w w') : RdAll S w' d cs :=
  RdAll.keep (fun k hk hlt => ⟨hk, hb.block k hlt⟩) d cs h
theorem Rd.mono {S S' : Nat → Prop} {w : World} {d : D} {cs : List Value} (h : Rd S w d cs) (hs : ∀ k, S k → k < w.heap.size → S' k) : Rd S' w d cs :=
  Rd.keep (fun k hk hlt => ⟨hs k hk hlt, rfl⟩) d cs h
theorem RdAll.mono {S S' : Nat → Prop} {w : World} {d : List D} {cs : List Value} (h : RdAll S w d cs) (hs : ∀ k, S k → k < w.heap.size → S' k) : RdAll S' w d cs :=
  RdAll.keep (fun k hk hlt => ⟨hs k hk hlt, rfl⟩) d cs h
theorem Rd.any {S : Nat → Prop} {w : World} {d : D} {cs : List Value} (h : Rd S w d cs) : Rd AnyB w d cs := h.mono fun _ _ _ => trivial
theorem RdAll.any {S : Nat → Prop} {w : World} {d : List D} {cs : List Value} (h : RdAll S w d cs) : RdAll AnyB w d cs := h.mono fun _ _ _ => trivial

theorem RdAll.append {S : Nat → Prop} {w : World} : ∀ {ds es : List D} {c1 c2 : List Value}, RdAll S w ds c1 → RdAll S w es c2 → RdAll S w (ds ++ es) (c1 ++ c2)
  | [], es, c1, c2, h, k => by simp [RdAll] at h; subst h; simpa using k
  | d :: ds, es, c1, c2, h, k => by
    obtain ⟨a, b, rfl, h1, h2⟩ := h
    exact ⟨a, b ++ c2, by simp, h1, RdAll.append h2 k⟩
theorem RdAll.split {S : Nat → Prop} {w : World} : ∀ {ds es : List D} {c : List Value}, RdAll S w (ds ++ es) c → ∃ c1 c2, c = c1 ++ c2 ∧ RdAll S w ds c1 ∧ RdAll S w es c2
  | [], es, c, h => ⟨[], c, rfl, by simp [RdAll], h⟩
  | d :: ds, es, c, h => by
    obtain ⟨a, b, rfl, h1, h2⟩ := h
    obtain ⟨c1, c2, rfl, h3, h4⟩ := RdAll.split h2
    exact ⟨a ++ c1, c2, by simp, ⟨a, c1, rfl, h1, h3⟩, h4⟩
theorem RdAll.one {S : Nat → Prop} {w : World} {d : D} {c : List Value} (h : Rd S w d c) : RdAll S w [d] c := ⟨c, [], by simp, h, by simp [RdAll]⟩
theorem RdAll.one_iff {S : Nat → Prop} {w : World} {d : D} {c : List Value} : RdAll S w [d] c ↔ Rd S w d c := by
  constructor
  · rintro ⟨c1, c2, rfl, h, h2⟩
    simp [RdAll] at h2
    subst h2
    simpa using h
  · exact RdAll.one

theorem cellsAll_eq {k : Nat} : ∀ {ds : List D}, (∀ d ∈ ds, d.cells = k) → D.cellsAll ds = ds.length * k
  | [], _ => by simp [D.cellsAll]
  | d :: ds, h => by
    rw [D.cellsAll, h d List.mem_cons_self, cellsAll_eq fun x hx => h x (List.mem_cons_of_mem _ hx)]
    simp [Nat.add_mul]; omega

/-- one of many of k cells each -/
theorem RdAll.get {S : Nat → Prop} {w : World} {k : Nat} : ∀ {ds : List D} {L : List Value}, RdAll S w ds L → (∀ d ∈ ds, d.cells = k) → ∀ i (hi : i < ds.length), Rd S w ds[i] ((L.drop (i * k)).take k)
  | [], L, h, hk, i, hi => by simp at hi
  | d :: ds, L, h, hk, i, hi => by
    obtain ⟨c1, c2, rfl, h1, h2⟩ := h
    have hl : c1.length = k := by rw [Rd.len d c1 h1]; exact hk d List.mem_cons_self
    cases i with
    | zero => simpa [List.take_left' hl] using h1
    | succ i =>
      have := RdAll.get h2 (fun x hx => hk x (List.mem_cons_of_mem _ hx)) i (by simpa using hi)
      rw [show (i + 1) * k = c1.length + i * k by rw [hl, Nat.add_mul]; omega]
      have e : (c1 ++ c2).drop (c1.length + i * k) = c2.drop (i * k) := by rw [← List.drop_drop]; simp
      rw [e]
      simpa using this

theorem add_at (b off n : Nat) : (⟨b, off, none⟩ : Addr).add n = ⟨b, off + n, none⟩ := by unfold Addr.add; by_cases e : n = 0 <;> simp [e]

/-- a slice's form -/
theorem Rd.form {S : Nat → Prop} {w : World} {ds : List D} {v : Value} (h : Rd S w (.sl ds) [v]) : ∃ a cap, v = .slice a ds.length cap ∧ ds.length ≤ cap ∧ cap ≤ maxLen := by
  obtain ⟨a, cap, L, e, h1, h2, _⟩ := h
  simp at e
  exact ⟨a, cap, e, h1, h2⟩
theorem Rd.bounds {S : Nat → Prop} {w : World} {ds : List D} {a : Option Addr} {n cap : Nat} (h : Rd S w (.sl ds) [.slice a n cap]) : n = ds.length ∧ n ≤ cap ∧ cap ≤ maxLen := by
  obtain ⟨a, cap, e, h1, h2⟩ := h.form
  cases e
  exact ⟨rfl, h1, h2⟩

/-- an element of a slice: where it lies, its cells -/
theorem Rd.at {S : Nat → Prop} {w : World} {ds : List D} {a : Option Addr} {n cap k : Nat} (h : Rd S w (.sl ds) [.slice a n cap]) (hk : ∀ d ∈ ds, d.cells = k) (hp : 0 < k) {i : Nat} (hi : i < ds.length) :
    ∃ b off cs, a = some ⟨b, off, none⟩ ∧ S b ∧ b < w.heap.size ∧ Rd S w ds[i] cs ∧ cs.length = k ∧ ∀ j (h : j < cs.length), w.cell? ⟨b, off + (i * k + j), none⟩ = some cs[j] := by
  obtain ⟨a', cap', L, e, h1, h2, h3, h4, h5⟩ := h
  simp at e
  obtain ⟨rfl, rfl, rfl⟩ := e
  have hL : L.length = ds.length * k := by rw [RdAll.len ds L h5, cellsAll_eq hk]
  have hpos : 0 < L.length := by rw [hL]; exact Nat.mul_pos (by omega) hp
  obtain ⟨⟨b, off, spot⟩, rfl, hS, hc⟩ := h4 0 hpos
  have hs : spot = none := by simpa [Addr.add] using World.cell?_spot hc
  subst hs
  have hlt := lt_of_cell hc
  rw [add_block] at hlt
  have hik : (i + 1) * k ≤ ds.length * k := Nat.mul_le_mul_right _ hi
  rw [Nat.add_mul, Nat.one_mul] at hik
  refine ⟨b, off, (L.drop (i * k)).take k, rfl, hS, hlt, RdAll.get h5 hk i hi, by simp; omega, fun j hj => ?_⟩
  simp at hj
  obtain ⟨y, hy, _, h6⟩ := h4 (i * k + j) (by omega)
  cases hy
  rw [add_at] at h6
  rw [h6]
  simp

/-- a row of the call's own reads as a slice -/
theorem rd_of_own {S : Nat → Prop} {w : World} {B : Nat} {e : TypeId} {size : Nat} {v : Value} {n : Nat} {xs : List Value} {ds : List D} (h : w.ownsRow B e size v n xs) (hd : RdAll S w ds xs) (hn : ds.length = n) (hS : ∀ k, v.ownBlock = some k → S k) : Rd S w (.sl ds) [v] := by
  have hcell := fun {g : Nat} (hg : v.ownBlock = some g) => h.cells hg
  obtain ⟨hl, h⟩ := h
  subst hn
  rcases h with ⟨rfl, h0⟩ | ⟨g, cap, cur, rfl, hg, hh, hn, hc, hs, ht⟩
  · have : xs = [] := List.eq_nil_of_length_eq_zero (by rw [hl, h0]; simp)
    subst this
    exact ⟨none, 0, [], by rw [h0], by omega, by simp [maxLen], fun _ => rfl, fun i hi => by simp at hi, hd⟩
  · refine ⟨_, cap, xs, rfl, hn, hc, (fun h => by cases h), fun i hi => ⟨_, rfl, hS g rfl, ?_⟩, hd⟩
    exact hcell rfl i _ (List.getElem?_eq_getElem hi)

/-- the new row behind an append: what was read in it is still read, apart from the row's own block -/
theorem own_step {S : Nat → Prop} {w w3 : World} {v v' : Value} {ds es : List D} {xs news : List Value}
    (h1 : RdAll (fun k => S k ∧ v.ownBlock ≠ some k) w ds xs) (h2 : RdAll (fun k => S k ∧ v.ownBlock ≠ some k) w es news)
    (hg : w.grownBy w3 v.ownBlock) (hat : v'.ownBlock = v.ownBlock ∨ ∃ k, v'.ownBlock = some k ∧ w.heap.size ≤ k) : RdAll (fun k => S k ∧ v'.ownBlock ≠ some k) w3 (ds ++ es) (xs ++ news) := by
  have hS : ∀ k, (S k ∧ v.ownBlock ≠ some k) → k < w.heap.size → (S k ∧ v'.ownBlock ≠ some k) ∧ w3.heap[k]? = w.heap[k]? := by
    intro k hk hlt
    refine ⟨⟨hk.1, ?_⟩, hg.block k hlt (fun e => hk.2 e.symm)⟩
    rcases hat with e | ⟨j, e, hj⟩
    · rw [e]; exact hk.2
    · rw [e]; intro h; cases h; omega
  exact RdAll.append (RdAll.keep hS ds xs h1) (RdAll.keep hS es news h2)

theorem rdAll_ints {S : Nat → Prop} {w : World} : ∀ (l : List Int) (cs : List Value), RdAll S w (l.map .int) cs ↔ cs = ints l
  | [], cs => by simp [RdAll, ints]
  | x :: l, cs => by
    simp only [List.map_cons, RdAll, Rd]
    constructor
    · rintro ⟨c1, c2, rfl, rfl, h⟩
      rw [rdAll_ints] at h
      simp [h, ints]
    · rintro rfl
      exact ⟨[.int .i64 x], ints l, by simp [ints], rfl, (rdAll_ints l _).2 rfl⟩
def D.ints (l : List Int) : D := .sl (l.map .int)
theorem sl_rd {S : Nat → Prop} {w : World} {v : Value} {l : List Int} (h : Rd S w (D.ints l) [v]) : Sl w v (ints l) := by
  obtain ⟨a, cap, L, e, h1, h2, h3, h4, h5⟩ := h
  rw [rdAll_ints] at h5
  subst h5
  simp at e h1
  subst e
  refine ⟨a, cap, by simp [ints], by simpa [ints] using h1, h2, h3, fun i hi => ?_⟩
  obtain ⟨x, e, _, h5⟩ := h4 i hi
  exact ⟨x, e, h5⟩
end Go.Proofs.YtccjdgjehecdiaaDoor
namespace Go.Proofs.YtccjdgjehecdiaaDoor
open Go.RowKit

mutual
theorem Rd.ones {S : Nat → Prop} {w : World} : ∀ (d : D) (cs : List Value), Rd S w d cs → ∀ u ∈ cs, u.oneCell' = true
  | .int n, cs, h => by simp [Rd] at h; subst h; simp [Value.oneCell']
  | .bool n, cs, h => by simp [Rd] at h; subst h; simp [Value.oneCell']
  | .str n, cs, h => by simp [Rd] at h; subst h; simp [Value.oneCell']
  | .sl ds, cs, h => by obtain ⟨a, cap, L, rfl, _⟩ := h; simp [Value.oneCell']
  | .agg ds, cs, h => RdAll.ones ds cs h
theorem RdAll.ones {S : Nat → Prop} {w : World} : ∀ (ds : List D) (cs : List Value), RdAll S w ds cs → ∀ u ∈ cs, u.oneCell' = true
  | [], cs, h => by simp [RdAll] at h; subst h; simp
  | d :: ds, cs, h => by
    obtain ⟨c1, c2, rfl, h1, h2⟩ := h
    intro u hu
    rcases List.mem_append.1 hu with hu | hu
    · exact Rd.ones d c1 h1 u hu
    · exact RdAll.ones ds c2 h2 u hu
end

/-- a row of data of the call's own, in blocks of S, and beside the row's own block -/
structure RowD (S : Nat → Prop) (B : Nat) (e : TypeId) (size : Nat) (ds : List D) (v : Value) (wr : World) : Prop where
  own : ∃ xs, wr.ownsRow B e size v ds.length xs ∧ RdAll (fun k => S k ∧ v.ownBlock ≠ some k) wr ds xs
  le : B ≤ wr.heap.size
theorem RowD.keep {S : Nat → Prop} {B : Nat} {e : TypeId} {size : Nat} {ds : List D} {v : Value} {wr w' : World} (h : RowD S B e size ds v wr) (hb : Below wr.heap.size wr w') : RowD S B e size ds v w' := by
  obtain ⟨⟨xs, h1, h2⟩, h3⟩ := h
  exact ⟨⟨xs, own_keep h1 hb, h2.below hb⟩, Nat.le_trans h3 hb.size⟩
theorem RowD.form {S : Nat → Prop} {B : Nat} {e : TypeId} {size : Nat} {ds : List D} {v : Value} {wr : World} (h : RowD S B e size ds v wr) : ∃ a cap, v = .slice a ds.length cap ∧ ds.length ≤ cap ∧ cap ≤ maxLen ∧ ∀ k, v.ownBlock = some k → B ≤ k ∧ k < wr.heap.size := by
  obtain ⟨⟨xs, h1, h2⟩, h3⟩ := h
  obtain ⟨a, cap, rfl, e1, e2⟩ := own_len h1
  exact ⟨a, cap, rfl, e1, e2, h1.lt⟩
theorem RowD.nil (S : Nat → Prop) (B : Nat) (e : TypeId) (size : Nat) (w : World) (h : B ≤ w.heap.size) : RowD S B e size [] (.slice none 0 0) w := ⟨⟨[], World.ownsRow_nil _ _ _ _, by simp [RdAll]⟩, h⟩
/-- behind an append: W0: before it -/
theorem RowD.step {S T : Nat → Prop} {B : Nat} {e : TypeId} {size : Nat} {ds es : List D} {v v' : Value} {W0 W1 : World} {xs news : List Value} {n : Nat} (h1 : W0.ownsRow B e size v n xs) (h2 : RdAll (fun k => S k ∧ v.ownBlock ≠ some k) W0 ds xs) (hn : n = ds.length)
    (hp : RdAll T W0 es news) (hT : ∀ k, T k → k < W0.heap.size → S k ∧ v.ownBlock ≠ some k) (hB : B ≤ W0.heap.size)
    (ho : W1.ownsRow B e size v' (n + es.length) (xs ++ news)) (hg : W0.grownBy W1 v.ownBlock) (hat : v'.ownBlock = v.ownBlock ∨ ∃ k, v'.ownBlock = some k ∧ W0.heap.size ≤ k) : RowD S B e size (ds ++ es) v' W1 := by
  subst hn
  exact ⟨⟨xs ++ news, by rw [List.length_append]; exact ho, own_step h2 (hp.mono hT) hg hat⟩, Nat.le_trans hB hg.size⟩
end Go.Proofs.YtccjdgjehecdiaaDoor
namespace Go.Proofs.YtccjdgjehecdiaaDoor
open Go.RowKit

/-- as World.ownsRow, but the row may begin anywhere in its block -/
def ownsQ (w : World) (B : Nat) (e : TypeId) (size : Nat) (v : Value) (n : Nat) (xs : List Value) : Prop :=
  xs.length = n * size ∧
  ((v = .slice none 0 0 ∧ n = 0) ∨
   ∃ g off cap cur, v = .slice (some ⟨g, off, none⟩) n cap ∧ B ≤ g ∧ w.heap[g]? = some (.cells cur e (0, 0)) ∧ n ≤ cap ∧ cap ≤ maxLen ∧ off + cap * size ≤ cur.size ∧ (cur.toList.drop off).take (n * size) = xs)
theorem ownsQ_of {w : World} {B : Nat} {e : TypeId} {size : Nat} {v : Value} {n : Nat} {xs : List Value} (h : w.ownsRow B e size v n xs) : ownsQ w B e size v n xs := by
  obtain ⟨h1, h2⟩ := h
  refine ⟨h1, ?_⟩
  rcases h2 with h2 | ⟨g, cap, cur, rfl, a, b, c, d, f, t⟩
  · exact .inl h2
  · exact .inr ⟨g, 0, cap, cur, rfl, a, b, c, d, by omega, by simpa using t⟩
section
variable {w w' : World} {B : Nat} {e : TypeId} {size : Nat} {v : Value} {n : Nat} {xs : List Value}
theorem ownsQ.lt (h : ownsQ w B e size v n xs) : ∀ k, v.ownBlock = some k → B ≤ k ∧ k < w.heap.size := by
  intro k hk
  rcases h.2 with ⟨rfl, _⟩ | ⟨g, off, cap, cur, rfl, a, b, _⟩
  · cases hk
  · cases hk; exact ⟨a, (Array.getElem?_eq_some_iff.1 b).1⟩
theorem ownsQ.other {row : Option Nat} (h : ownsQ w B e size v n xs) (hg : w.grownBy w' row) (hne : ∀ k, v.ownBlock = some k → row ≠ some k) : ownsQ w' B e size v n xs := by
  have hlt := h.lt
  obtain ⟨h1, h2⟩ := h
  refine ⟨h1, ?_⟩
  rcases h2 with h2 | ⟨g, off, cap, cur, rfl, a, b, r⟩
  · exact .inl h2
  · exact .inr ⟨g, off, cap, cur, rfl, a, (hg.block g (hlt g rfl).2 (fun e => hne g rfl e.symm)).trans b, r⟩
theorem ownsQ.keep (h : ownsQ w B e size v n xs) (hb : Below w.heap.size w w') : ownsQ w' B e size v n xs := h.other (grown_below hb none) (fun k _ e => by cases e)
theorem ownsQ.form (h : ownsQ w B e size v n xs) : ∃ a cap, v = .slice a n cap ∧ n ≤ cap ∧ cap ≤ maxLen := by
  rcases h.2 with ⟨rfl, rfl⟩ | ⟨g, off, cap, cur, rfl, _, _, h1, h2, _⟩
  · exact ⟨_, _, rfl, by simp, by simp⟩
  · exact ⟨_, _, rfl, h1, h2⟩
theorem ownsQ.cells (h : ownsQ w B e size v n xs) (hn : 0 < n) : ∃ g off cap, v = .slice (some ⟨g, off, none⟩) n cap ∧ ∀ j u, xs[j]? = some u → w.cell? ⟨g, off + j, none⟩ = some u := by
  rcases h.2 with ⟨_, h0⟩ | ⟨g, off, cap, cur, rfl, _, hh, h1, h2, h3, ht⟩
  · omega
  · refine ⟨g, off, cap, rfl, fun j u hj => ?_⟩
    have hl := h.1
    have hj2 := (List.getElem?_eq_some_iff.1 hj).1
    rw [← ht, List.getElem?_take, if_pos (by omega), List.getElem?_drop] at hj
    simp [World.cell?, hh]
    simpa using hj
/-- x[1:] -/
theorem ownsQ.tail {g off cap : Nat} {ys : List Value} (h : ownsQ w B e size (.slice (some ⟨g, off, none⟩) (n + 1) cap) (n + 1) (ys ++ xs)) (hy : ys.length = size) (hs : 0 < size) : ownsQ w B e size (.slice (if cap = 1 then some ⟨g, off, none⟩ else some ⟨g, off + size, none⟩) n (cap - 1)) n xs := by
  obtain ⟨h1, h2⟩ := h
  rw [List.length_append, Nat.add_mul, hy] at h1
  refine ⟨by omega, ?_⟩
  rcases h2 with ⟨h2, _⟩ | ⟨g', off', cap', cur, hv, a, b, c, d, f, t⟩
  · cases h2
  · cases hv
    right
    by_cases e1 : cap = 1
    · subst e1
      obtain rfl : n = 0 := by omega
      have hx : xs = [] := List.eq_nil_of_length_eq_zero (by omega)
      refine ⟨g, off, 0, cur, by simp, a, b, by omega, by unfold maxLen; omega, by omega, by simp [hx]⟩
    · refine ⟨g, off + size, cap - 1, cur, by simp [e1], a, b, by omega, by omega, ?_, ?_⟩
      · have : cap * size = size + (cap - 1) * size := by
          obtain ⟨c', rfl⟩ : ∃ c', cap = c' + 1 := ⟨cap - 1, by omega⟩
          simp [Nat.add_mul]; omega
        omega
      · have h3 : (cur.toList.drop off).take (n * size + size) = ys ++ xs := by rw [← t]; congr 1; simp [Nat.add_mul]
        have h4 := congrArg (List.drop size) h3
        have h5 : List.drop size (ys ++ xs) = xs := by rw [← hy]; simp
        rw [List.drop_take, List.drop_drop, h5, Nat.add_sub_cancel] at h4
        exact h4
end
theorem run_append_roomQ {P : Program} (w : World) (t ty e : TypeId) (i : TypeInfo) (ht : P.underlying t = some (.slice e)) (hi : P.info? e = some i)
    (g off sLen sCap : Nat) (cur : Array Value) (hg : w.heap[g]? = some (.cells cur e (0, 0)))
    (a : Addr) (m c : Nat) (news : List Value) (hl : news.length = m * i.size) (hnews : ∀ j u, news[j]? = some u → w.cell? (a.add j) = some u) (h1 : ∀ u ∈ news, u.oneCell' = true)
    (hroom : sLen + m ≤ sCap) (hfit : off + sLen * i.size + news.length ≤ cur.size) :
    (Builtin.append_ #[t, t] ty #[.slice (some ⟨g, off, none⟩) sLen sCap, .slice (some a) m c]).run P w =
      .ok (.slice (some ⟨g, off, none⟩) (sLen + m) sCap) (w.setRow g (cur.toList.take (off + sLen * i.size) ++ news ++ cur.toList.drop (off + sLen * i.size + news.length)).toArray) := by
  have hf := run_firstCells_some (P := P) w i.size m a m c news hl hnews
  have hst := run_storeCells_at P g (off + sLen * i.size) e news 0 cur w hg (by simpa using hfit) h1
  simp only [Nat.add_zero] at hst
  simp [Builtin.append_, run_underlying ht, sizeOf, typeInfo, hi, Builtin.lenOf, hroom, hf, add_at, hst]

theorem run_append_q {P : Program} (w : World) (B : Nat) (t ty e : TypeId) (i : TypeInfo) (z : Value) (size bytes : Nat) (ht : P.underlying t = some (.slice e)) (hi : P.info? e = some i) (hz : i.zero = some z)
    (hsize : i.size = size) (hby : i.bytes = bytes) (hzs : z.cells.size = size) (hsz : 0 < size)
    (v : Value) (n : Nat) (xs : List Value) (hown : ownsQ w B e size v n xs)
    (a : Addr) (m c : Nat) (news : List Value) (hl : news.length = m * size) (hnews : ∀ j u, news[j]? = some u → w.cell? (a.add j) = some u) (h1 : ∀ u ∈ news, u.oneCell' = true) (hm : 0 < m)
    (h63 : n + m ≤ maxLen) (hbytes : (n + m) * bytes ≤ 140737488355328) (hbase : B ≤ w.heap.size) :
    ∃ g off cap w', (Builtin.append_ #[t, t] ty #[v, .slice (some a) m c]).run P w = .ok (.slice (some ⟨g, off, none⟩) (n + m) cap) w' ∧ ownsQ w' B e size (.slice (some ⟨g, off, none⟩) (n + m) cap) (n + m) (xs ++ news) ∧ w.grownBy w' v.ownBlock ∧ ((∃ cap0, v = .slice (some ⟨g, off, none⟩) n cap0) ∨ (g = w.heap.size ∧ w.grownBy w' none)) ∧ g < w'.heap.size := by
  subst hsize
  subst hby
  have hsmall : n + m ≤ 9223372036854775807 := by simp only [maxLen] at h63; omega
  have hlen : (xs ++ news).length = (n + m) * i.size := by rw [List.length_append, hown.1, hl, Nat.add_mul]
  have grown : ∀ (old : Nat), old < n + m → ∀ (row : Option Nat),
      ownsQ (w.drew.alloc (.cells (xs.toArray ++ news.toArray ++ Builtin.zeroCells z.cells (grownCap w (n + m) old e - (n + m))) e)) B e i.size
        (.slice (some ⟨w.heap.size, 0, none⟩) (n + m) (grownCap w (n + m) old e)) (n + m) (xs ++ news) ∧
      w.grownBy (w.drew.alloc (.cells (xs.toArray ++ news.toArray ++ Builtin.zeroCells z.cells (grownCap w (n + m) old e - (n + m))) e)) row := by
    intro old ho row
    have hge := grownCap_ge w (n + m) old e
    have hcm : grownCap w (n + m) old e ≤ maxLen := grownCap_le_maxLen w (n + m) old e h63
    refine ⟨ownsQ_of ⟨hlen, .inr ⟨w.heap.size, _, _, rfl, hbase, heap_alloc_new w.drew _, hge, hcm, ?_, ?_⟩⟩, ⟨rfl, rfl, rfl, by simp, fun k hk _ => ((Below.refl w.drew.heap.size w.drew).alloc (Nat.le_refl _) _).block k hk⟩⟩
    · simp only [Array.size_append, List.size_toArray, size_zeroCells, hzs, hown.1, hl, ← Nat.add_mul]
      congr 1
      omega
    · simp only [Array.toList_append, List.append_assoc]
      rw [← List.append_assoc, ← hlen]
      exact List.take_left
  rcases hown.2 with ⟨rfl, rfl⟩ | ⟨g, off, cap, cur, rfl, hbg, hg, hnc, hcm, hcs, htake⟩
  · have hx : xs = [] := List.eq_nil_of_length_eq_zero (by simpa using hown.1)
    subst hx
    have hr := run_append_nil (P := P) w t ty e i z ht hi hz a m c news hl hnews (by omega) (by omega) (by have hb := hbytes; simp only [Nat.zero_add] at hb; omega)
    have hgr := grown 0 (by omega) (Value.ownBlock (.slice none 0 0))
    have hgn := grown 0 (by omega) none
    simp only [Nat.zero_add, List.nil_append, Array.empty_append] at hgr hgn ⊢
    exact ⟨_, _, _, _, hr, hgr.1, hgr.2, .inr ⟨rfl, hgn.2⟩, by simp⟩
  · by_cases hroom : n + m ≤ cap
    · have hfit : off + n * i.size + news.length ≤ cur.size := by
        have h2 := Nat.mul_le_mul_right i.size hroom
        rw [Nat.add_mul] at h2
        omega
      have hr := run_append_roomQ (P := P) w t ty e i ht hi g off n cap cur hg a m c news hl hnews h1 hroom hfit
      refine ⟨_, _, _, _, hr, ⟨hlen, .inr ⟨g, off, cap, _, rfl, hbg, setRow_heap w g cur _ e _ hg, hroom, hcm, ?_, ?_⟩⟩, ⟨rfl, rfl, rfl, by simp, fun k _ hk => setRow_other w g k _ (fun e => hk (by simp [Value.ownBlock, e]))⟩, .inl ⟨cap, rfl⟩, by simpa using (Array.getElem?_eq_some_iff.1 hg).1⟩
      · simp only [List.size_toArray, List.length_append, List.length_take, List.length_drop, Array.length_toList]
        omega
      · have h3 : cur.toList.take (off + n * i.size) = cur.toList.take off ++ xs := by rw [List.take_add, htake]
        have h4 : (cur.toList.take off).length = off := by simp; omega
        simp only [h3, List.append_assoc]
        rw [List.drop_append_of_le_length (by omega), List.drop_eq_nil_of_le (by omega), List.nil_append, ← List.append_assoc, ← hlen]
        exact List.take_left
    · have holds : ∀ j u, xs[j]? = some u → w.cell? ((⟨g, off, none⟩ : Addr).add j) = some u := by
        intro j u hj
        rw [add_at]
        have hj2 := (List.getElem?_eq_some_iff.1 hj).1
        have hl' := hown.1
        rw [← htake, List.getElem?_take, if_pos (by omega), List.getElem?_drop] at hj
        simp [World.cell?, hg]
        simpa using hj
      have hr := run_append_grow (P := P) w t ty e i z ht hi hz ⟨g, off, none⟩ n cap xs hown.1 holds a m c news hl hnews (by omega) (by omega) (growslice_fits (by omega) hbytes)
      have hgr := grown cap (by omega) (Value.ownBlock (.slice (some ⟨g, off, none⟩) n cap))
      have hgn := grown cap (by omega) none
      exact ⟨_, _, _, _, hr, hgr.1, hgr.2, .inr ⟨rfl, hgn.2⟩, by simp⟩
/-- append of what lies in one block, at a step of a region that draws its order -/
theorem step_appQ {P : Program} {ops : Array Oper} {o : Oper} {a : Act} {K : Act → World → Prop} {Q : Exit → Act → World → Prop} {E' : Prop} {w0 : World} {t e : TypeId} {size bytes : Nat} (E : ElemT P t e size bytes)
    (hgd : o.guard = none) (s x : Operand) (ho : o.op = .call { callee := .builtin .append, args := #[s, x], argTypes := #[t, t] })
    {B : Nat} {v : Value} {n : Nat} {xs : List Value} {news : Array Value} (hown : ownsQ w0 B e size v n xs) (hs : a.eval s = v) {g0 : Nat} (hx : a.eval x = .slice (some ⟨g0, 0, none⟩) 1 1) (hg0 : w0.heap[g0]? = some (.cells news e (0, 0)))
    (hn : news.size = size) (h1 : news.toList.all Value.oneCell' = true) (hb : (n + 1) * bytes ≤ 140737488355328) (hm : n + 1 ≤ maxLen) (hB : B ≤ w0.heap.size)
    (h : ∀ g off cap w', ownsQ w' B e size (.slice (some ⟨g, off, none⟩) (n + 1) cap) (n + 1) (xs ++ news.toList) → w0.grownBy w' v.ownBlock → ((∃ cap0, v = .slice (some ⟨g, off, none⟩) n cap0) ∨ (g = w0.heap.size ∧ w0.grownBy w' none)) → g < w'.heap.size → K (a.put o.dst (.slice (some ⟨g, off, none⟩) (n + 1) cap)) w') :
    if Region.wanted o (yielded ops a.tmps) = true then Oper.wp P o a w0 K Q else E' := by
  obtain ⟨hu, ⟨i, z, hi, hz, hsz, hby, hzs⟩, hp⟩ := E
  have hw : Region.wanted o (yielded ops a.tmps) = true := by simp [Region.wanted, hgd]
  rw [if_pos hw]
  obtain ⟨g, off, cap, w', hr, h2, h3, h4, h5⟩ := run_append_q (P := P) w0 B t o.type e i z size bytes hu hi hz hsz hby hzs hp v n xs hown ⟨g0, 0, none⟩ 1 1 news.toList (by simp [hn]) (World.news_of_block hg0) (List.all_eq_true.1 h1) (by omega) hm hb hB
  unfold Oper.wp execOp
  simp only [ho, resolve, invoke, builtin, Sem.run_bind, Sem.run_pure, Result.andThen_ok, List.map_toArray, List.map_cons, List.map_nil, hs, hx, hr]
  exact h g off cap w' h2 h3 h4 h5
end Go.Proofs.YtccjdgjehecdiaaDoor
namespace Go.Proofs.YtccjdgjehecdiaaDoor
open Go.RowKit

theorem ints_one (l : List Int) : ∀ u ∈ ints l, u.oneCell' = true := by
  intro u hu; simp [ints] at hu; obtain ⟨x, _, rfl⟩ := hu; rfl

/-- what a function leaves that makes a new slice of ints -/
def NewInts (l : List Int) (w : World) (e : Ending) (w' : World) : Prop :=
  ∃ a cap, e = .returned (.slice a l.length cap) ∧ w'.ownsRow w.heap.size 3 1 (.slice a l.length cap) l.length (ints l) ∧ Below w.heap.size w w'

theorem newInts_of {l : List Int} {w w' : World} {v : Value} (h : w'.ownsRow w.heap.size 3 1 v l.length (ints l)) (hb : Below w.heap.size w w') : NewInts l w (.returned v) w' := by
  obtain ⟨a, cap, rfl, _, _⟩ := own_len h
  exact ⟨a, cap, rfl, h, hb⟩

set_option maxHeartbeats 400000 in
theorem clone_int (v : Value) (l : List Int) (w : World) (hv : Sl w v (ints l)) (hb : l.length * 8 ≤ 140737488355328) :
    Calls Tryd.prog 13 #[v] w (NewInts l w) := by
  have hnil := fun (w : World) (a : Option Addr) (n c : Nat) => Lib.run_eql_slice_nil (P := Tryd.prog) w 25 3 a n c 0 0 Tryd.underlying25
  obtain ⟨a, cap, rfl⟩ := hv.form
  have hm := hv.len.2.2
  cases a with
  | none =>
    have hl : l = [] := by
      rcases Nat.eq_zero_or_pos (ints l).length with h | h
      · simpa [ints] using h
      · obtain ⟨b, off, e, _⟩ := hv.at h; cases e
    subst hl
    go_enter Tryd.func13, Tryd.ntmps13
    go_wp2
    go_ret
    exact newInts_of (World.ownsRow_nil _ _ _ _) (Below.refl _ _)
  | some x =>
    have HV := Lib.hid (hv.keep ((Below.refl w.heap.size w).alloc (Nat.le_refl _) (.cells #[] 3)))
    have HO : Hid ((w.alloc (.cells #[] 3)).ownsRow w.heap.size 3 1 (.slice (some ⟨w.heap.size, 0, none⟩) 0 0) 0 []) := World.ownsRow_made w #[] 0 (Nat.le_refl _) (by simp) rfl
    clear hv
    go_enter Tryd.func13, Tryd.ntmps13
    go_wp2_with (at_builtin; refine wp_appS elInt rfl _ _ rfl HO.out rfl HV.out rfl (ints_one l) ?_ ?_ ?_ ?_)
    · rw [ints_len]; omega
    · rw [ints_len]; unfold maxLen; omega
    · simp
    · intro v' w' hown hg
      rw [ints_len] at hown
      have HO2 := Lib.hid hown
      have HB : Hid (Below w.heap.size w w') := ((Below.refl w.heap.size w).alloc (Nat.le_refl _) _).trans (below_grown hg (by simp) (fun k hk => by simp [Value.ownBlock] at hk; omega))
      clear hown hg
      go_wp2
      go_ret
      exact newInts_of (by simpa using HO2.out) HB.out

end Go.Proofs.YtccjdgjehecdiaaDoor
namespace Go.Proofs.YtccjdgjehecdiaaDoor
open Go.RowKit

/-- a literal slice, in the block that was laid last -/
theorem sl_lit {w : World} {v : Array Value} {e : TypeId} {g : Nat} (hg : g = w.heap.size) (h : v.size ≤ maxLen) : Sl (w.alloc (.cells v e)) (.slice (some ⟨g, 0, none⟩) v.size v.size) v.toList := by
  subst hg
  refine ⟨some ⟨w.heap.size, 0, none⟩, v.size, by simp, by simp, h, (fun h => by cases h), fun i hi => ⟨_, rfl, ?_⟩⟩
  have : (⟨w.heap.size, 0, none⟩ : Addr).add i = ⟨w.heap.size, i, none⟩ := by unfold Addr.add; by_cases e : i = 0 <;> simp [e]
  rw [this]
  have hh : (w.alloc (.cells v e)).heap[w.heap.size]? = some (.cells v e (0, 0)) := heap_alloc_new w _
  simp only [World.cell?, hh]
  simp at hi ⊢

end Go.Proofs.YtccjdgjehecdiaaDoor
namespace Go.Proofs.YtccjdgjehecdiaaDoor
open Go.RowKit

inductive Tree where
  | node (rule term : Int) (kids : List Tree)
def Tree.rule : Tree → Int | .node r _ _ => r
def Tree.term : Tree → Int | .node _ t _ => t
def Tree.kids : Tree → List Tree | .node _ _ k => k
/-- the subtrees that count -/
def kidsOf (t : Tree) : List Tree := if t.rule = -1 then [] else t.kids

mutual
def Tree.d : Tree → D
  | .node r t ks => .agg [.int r, .int t, .sl (Tree.dL ks)]
def Tree.dL : List Tree → List D
  | [] => []
  | k :: ks => Tree.d k :: Tree.dL ks
end
mutual
/-- the nodes in preorder; the kids of leaves are left out -/
def nodes : Tree → List Tree
  | .node r t ks => .node r t ks :: (if r = -1 then [] else nodesL ks)
def nodesL : List Tree → List Tree
  | [] => []
  | k :: ks => nodes k ++ nodesL ks
end
theorem nodes_eq (t : Tree) : nodes t = t :: nodesL (kidsOf t) := by
  cases t with
  | node r t ks =>
    rw [nodes]
    by_cases h : r = -1 <;> simp [kidsOf, Tree.rule, Tree.kids, h, nodesL]
/-- outside S nothing that was there has changed -/
structure Keeps (S : Nat → Prop) (w w' : World) : Prop where
  os : w'.os = w.os
  tape : w'.tape = w.tape
  output : w'.output = w.output
  size : w.heap.size ≤ w'.heap.size
  block : ∀ k, k < w.heap.size → ¬ S k → w'.heap[k]? = w.heap[k]?
theorem Keeps.below {S : Nat → Prop} {w w' : World} {B : Nat} (h : Keeps S w w') (hS : ∀ k, S k → B ≤ k) (hB : B ≤ w.heap.size) : Below B w w' :=
  ⟨h.os, h.tape, h.output, h.size, fun k hk => h.block k (by omega) (fun hs => by have := hS k hs; omega)⟩
theorem Keeps.trans {S S' : Nat → Prop} {a b c : World} (h : Keeps S a b) (k : Keeps S' b c) (hs : ∀ k, S' k → S k ∨ a.heap.size ≤ k) : Keeps S a c :=
  ⟨k.os.trans h.os, k.tape.trans h.tape, k.output.trans h.output, Nat.le_trans h.size k.size, fun i hi hn => (k.block i (Nat.lt_of_lt_of_le hi h.size) (fun e => (hs i e).elim (fun e => hn e) (fun e => by omega))).trans (h.block i hi hn)⟩
theorem Keeps.cells {S : Nat → Prop} {w w' : World} (h : Keeps S w w') {b : Nat} {o : Obj} (hb : w.heap[b]? = some o) (hS : ¬ S b) : w'.heap[b]? = some o := by
  rw [h.block b (Array.getElem?_eq_some_iff.1 hb).1 hS]; exact hb

end Go.Proofs.YtccjdgjehecdiaaDoor
namespace Go.Proofs.YtccjdgjehecdiaaDoor
open Go.RowKit

structure Sym where
  term : Bool
  n : Int
  deriving DecidableEq
structure Rule where
  left : Int
  right : List Sym
  deriving DecidableEq
def Sym.d (s : Sym) : D := .agg [.bool s.term, .int s.n]
def Rule.d (r : Rule) : D := .agg [.int r.left, .sl (r.right.map Sym.d)]
theorem syms_cells (l : List Sym) : ∀ d ∈ l.map Sym.d, d.cells = 2 := by
  intro d hd
  simp at hd
  obtain ⟨t, _, rfl⟩ := hd
  simp [Sym.d, D.cells, D.cellsAll]
theorem rules_cells (l : List Rule) : ∀ d ∈ l.map Rule.d, d.cells = 2 := by
  intro d hd
  simp at hd
  obtain ⟨t, _, rfl⟩ := hd
  simp [Rule.d, D.cells, D.cellsAll]
theorem Rd.sym {S : Nat → Prop} {w : World} {s : Sym} {cs : List Value} (h : Rd S w s.d cs) : cs = [.bool s.term, .int .i64 s.n] := by
  obtain ⟨c1, c2, rfl, h1, h2⟩ := h
  rw [RdAll.one_iff] at h2
  simp [Rd] at h1 h2
  subst h1 h2
  rfl
theorem rd_sym {S : Nat → Prop} {w : World} (s : Sym) : Rd S w s.d [.bool s.term, .int .i64 s.n] := ⟨[.bool s.term], [.int .i64 s.n], rfl, rfl, RdAll.one rfl⟩
theorem Rd.rule {S : Nat → Prop} {w : World} {r : Rule} {cs : List Value} (h : Rd S w r.d cs) : ∃ v, cs = [.int .i64 r.left, v] ∧ Rd S w (.sl (r.right.map Sym.d)) [v] := by
  obtain ⟨c1, c2, rfl, h1, h2⟩ := h
  rw [RdAll.one_iff] at h2
  simp [Rd] at h1
  subst h1
  have h4 := h2
  obtain ⟨a, cap, L, e, _⟩ := h2
  subst e
  exact ⟨_, rfl, h4⟩
theorem rd_rule {S : Nat → Prop} {w : World} {r : Rule} {v : Value} (h : Rd S w (.sl (r.right.map Sym.d)) [v]) : Rd S w r.d [.int .i64 r.left, v] := ⟨[.int .i64 r.left], [v], rfl, rfl, RdAll.one h⟩
theorem Rd.sym_at {S : Nat → Prop} {w : World} {l : List Sym} {a : Option Addr} {n cap i : Nat} (h : Rd S w (.sl (l.map Sym.d)) [.slice a n cap]) (hi : i < l.length) :
    ∃ b off, a = some ⟨b, off, none⟩ ∧ S b ∧ b < w.heap.size ∧ w.cell? ⟨b, off + i * 2, none⟩ = some (.bool l[i].term) ∧ w.cell? ⟨b, off + i * 2 + 1, none⟩ = some (.int .i64 l[i].n) := by
  obtain ⟨b, off, cs, ha, hS, hlt, hr, hl, hc⟩ := h.at (syms_cells l) (by decide) (i := i) (by simpa using hi)
  simp at hr
  obtain rfl := hr.sym
  exact ⟨b, off, ha, hS, hlt, by simpa using hc 0 (by simp), by simpa [Nat.add_assoc] using hc 1 (by simp)⟩
theorem Rd.rule_at {S : Nat → Prop} {w : World} {l : List Rule} {a : Option Addr} {n cap i : Nat} (h : Rd S w (.sl (l.map Rule.d)) [.slice a n cap]) (hi : i < l.length) :
    ∃ b off v, a = some ⟨b, off, none⟩ ∧ S b ∧ b < w.heap.size ∧ w.cell? ⟨b, off + i * 2, none⟩ = some (.int .i64 l[i].left) ∧ w.cell? ⟨b, off + i * 2 + 1, none⟩ = some v ∧ Rd S w (.sl (l[i].right.map Sym.d)) [v] := by
  obtain ⟨b, off, cs, ha, hS, hlt, hr, hl, hc⟩ := h.at (rules_cells l) (by decide) (i := i) (by simpa using hi)
  simp at hr
  obtain ⟨v, rfl, hk⟩ := hr.rule
  exact ⟨b, off, v, ha, hS, hlt, by simpa using hc 0 (by simp), by simpa [Nat.add_assoc] using hc 1 (by simp), hk⟩
end Go.Proofs.YtccjdgjehecdiaaDoor
namespace Go.Proofs.YtccjdgjehecdiaaDoor
open Go.RowKit
namespace Lg

def kidsW (T : Nat) (w : List Int) : List (List Int) := (List.range T).map fun t : Nat => w ++ [(t : Int)]
def ch (T n : Nat) (w : List Int) : List (List Int) := if w.length < n then kidsW T w else []
def lev (T : Nat) : Nat → List (List Int)
  | 0 => [[]]
  | k + 1 => (lev T k).flatMap (kidsW T)
def every (T n : Nat) : List (List Int) := (List.range (n + 1)).flatMap (lev T)
def geo (T : Nat) : Nat → Nat
  | 0 => 0
  | k + 1 => geo T k + T ^ k
section
variable {T n i : Nat}
theorem kids_mem {w u : List Int} (h : u ∈ kidsW T w) : ∃ t, t < T ∧ u = w ++ [(t : Int)] := by
  unfold kidsW at h
  obtain ⟨t, h1, rfl⟩ := List.mem_map.1 h
  exact ⟨t, List.mem_range.1 h1, rfl⟩
theorem lev_len : ∀ (k : Nat) (w : List Int), w ∈ lev T k → w.length = k
  | 0, w, h => by simp [lev] at h; subst h; rfl
  | k + 1, w, h => by
    rw [lev] at h
    obtain ⟨v, h1, h2⟩ := List.mem_flatMap.1 h
    obtain ⟨t, _, rfl⟩ := kids_mem h2
    simp [lev_len k v h1]
theorem lev_sym : ∀ (k : Nat) (w : List Int), w ∈ lev T k → ∀ x ∈ w, 0 ≤ x ∧ x < (T : Int)
  | 0, w, h => by simp [lev] at h; subst h; simp
  | k + 1, w, h => by
    rw [lev] at h
    obtain ⟨v, h1, h2⟩ := List.mem_flatMap.1 h
    obtain ⟨t, ht, rfl⟩ := kids_mem h2
    intro x hx
    rcases List.mem_append.1 hx with hx | hx
    · exact lev_sym k v h1 x hx
    · simp at hx; subst hx; omega
theorem flat_cong {α β : Type} {f g : α → List β} : ∀ (l : List α), (∀ a ∈ l, f a = g a) → l.flatMap f = l.flatMap g
  | [], _ => rfl
  | a :: l, h => by
    rw [List.flatMap_cons, List.flatMap_cons, h a List.mem_cons_self, flat_cong l fun b hb => h b (List.mem_cons_of_mem _ hb)]
theorem lev_ch {k : Nat} (hk : k < n) : (lev T k).flatMap (ch T n) = lev T (k + 1) := by
  rw [lev]
  refine flat_cong _ fun w hw => ?_
  unfold ch
  rw [if_pos (by rw [lev_len k w hw]; exact hk)]
theorem lev_end : (lev T n).flatMap (ch T n) = [] := by
  rw [flat_cong (g := fun _ => []) _ fun w hw => by unfold ch; rw [if_neg (by rw [lev_len n w hw]; exact Nat.lt_irrefl n)]]
  simp
theorem every_ch : every T n = [] :: (every T n).flatMap (ch T n) := by
  have h1 : (every T n).flatMap (ch T n) = (List.range n).flatMap fun k => lev T (k + 1) := by
    unfold every
    rw [List.flatMap_assoc, List.range_succ, List.flatMap_append]
    rw [flat_cong (g := fun k => lev T (k + 1)) (List.range n) fun k hk => lev_ch (List.mem_range.1 hk)]
    simp [lev_end]
  rw [h1]
  unfold every
  rw [List.range_succ_eq_map, List.flatMap_cons, List.flatMap_map]
  rfl
theorem sum_c {α : Type} (c : Nat) : ∀ l : List α, (l.map fun _ => c).sum = l.length * c
  | [] => by simp
  | _ :: l => by rw [List.map_cons, List.sum_cons, sum_c c l, List.length_cons, Nat.add_mul]; omega
theorem every_len : (every T n).length = geo T (n + 1) := by
  unfold every
  have h : ∀ k, (lev T k).length = T ^ k := by
    intro k
    induction k with
    | zero => rfl
    | succ k ih =>
      rw [lev, List.length_flatMap, Nat.pow_succ]
      have : (lev T k).map (fun a => (kidsW T a).length) = (lev T k).map fun _ => T := List.map_congr_left fun a _ => by simp [kidsW]
      rw [this, sum_c, ih]
  induction n with
  | zero => simp [geo, lev]
  | succ m ih => rw [List.range_succ, List.flatMap_append, List.length_append, ih, geo]; simp [h, geo]
theorem every_mem {w : List Int} (h : w ∈ every T n) : w.length ≤ n ∧ ∀ x ∈ w, 0 ≤ x ∧ x < (T : Int) := by
  unfold every at h
  obtain ⟨k, h1, h2⟩ := List.mem_flatMap.1 h
  have := List.mem_range.1 h1
  exact ⟨by rw [lev_len k w h2]; omega, lev_sym k w h2⟩
theorem every_sorted : (every T n).Pairwise fun a b => a.length ≤ b.length := by
  unfold every
  rw [List.pairwise_flatMap]
  refine ⟨fun k _ => ?_, ?_⟩
  · exact List.pairwise_iff_forall_sublist.2 fun {a b} hs => by rw [lev_len k a (hs.subset (by simp)), lev_len k b (hs.subset (by simp))]; exact Nat.le_refl _
  · refine List.Pairwise.imp (R := fun a b => a < b) (fun {a b} hab x hx y hy => ?_) (List.pairwise_lt_range)
    rw [lev_len a x hx, lev_len b y hy]; omega
/-- what lies in the queue's row behind i rounds -/
def outI (T n i : Nat) : List (List Int) := [] :: ((every T n).take i).flatMap (ch T n)
theorem outI_zero : outI T n 0 = [[]] := by unfold outI; rw [List.take_zero]; rfl
theorem outI_pre : every T n = outI T n i ++ ((every T n).drop i).flatMap (ch T n) := by
  conv => lhs; rw [every_ch]
  unfold outI
  rw [List.cons_append, ← List.flatMap_append, List.take_append_drop]
theorem outI_next (hi : i < (every T n).length) : outI T n (i + 1) = outI T n i ++ ch T n (every T n)[i] := by
  unfold outI
  rw [List.take_succ_eq_append_getElem hi, List.flatMap_append, List.cons_append]
  simp
theorem outI_le : (outI T n i).length ≤ (every T n).length := by
  have h := congrArg List.length (outI_pre (T := T) (n := n) (i := i))
  rw [List.length_append] at h; omega
theorem outI_get {j : Nat} (hj : j < (outI T n i).length) : (outI T n i)[j]'hj = (every T n)[j]'(Nat.lt_of_lt_of_le hj outI_le) := by
  have h := outI_pre (T := T) (n := n) (i := i)
  have h2 : (every T n)[j]? = (outI T n i ++ ((every T n).drop i).flatMap (ch T n))[j]? := by rw [← h]
  rw [List.getElem?_append_left hj, List.getElem?_eq_getElem hj, List.getElem?_eq_getElem (Nat.lt_of_lt_of_le hj outI_le)] at h2
  exact (Option.some.inj h2).symm
/-- the queue is empty at the end alone -/
theorem outI_end (h : (outI T n i).length ≤ i) (hi : i ≤ (every T n).length) : i = (every T n).length ∧ outI T n i = every T n := by
  have hp := outI_pre (T := T) (n := n) (i := i)
  have hlen := congrArg List.length hp
  rw [List.length_append] at hlen
  have hX : ∀ m, ∀ w ∈ (every T n).drop (outI T n i).length, w.length ≤ m → False := by
    intro m
    induction m with
    | zero =>
      intro w hw hm
      have e : (every T n).drop (outI T n i).length = ((every T n).drop i).flatMap (ch T n) := by
        conv => lhs; rw [hp]
        rw [List.drop_left]
      rw [e] at hw
      obtain ⟨v, _, h2⟩ := List.mem_flatMap.1 hw
      unfold ch at h2
      split at h2
      · obtain ⟨t, _, rfl⟩ := kids_mem h2
        simp at hm
      · cases h2
    | succ m ih =>
      intro w hw hm
      have e : (every T n).drop (outI T n i).length = ((every T n).drop i).flatMap (ch T n) := by
        conv => lhs; rw [hp]
        rw [List.drop_left]
      rw [e] at hw
      obtain ⟨v, h1, h2⟩ := List.mem_flatMap.1 hw
      have hv : v ∈ (every T n).drop (outI T n i).length := by
        have : (every T n).drop i = ((every T n).drop (outI T n i).length).drop (i - (outI T n i).length) := by rw [List.drop_drop]; congr 1; omega
        rw [this] at h1
        exact List.mem_of_mem_drop h1
      unfold ch at h2
      split at h2
      · obtain ⟨t, _, rfl⟩ := kids_mem h2
        rw [List.length_append] at hm
        simp at hm
        exact ih v hv (by omega)
      · cases h2
  have hnil : (every T n).drop (outI T n i).length = [] := by
    cases hd : (every T n).drop (outI T n i).length with
    | nil => rfl
    | cons w l => exact (hX w.length w (by rw [hd]; exact List.mem_cons_self) (Nat.le_refl _)).elim
  have hl2 := congrArg List.length hnil
  rw [List.length_drop] at hl2
  simp at hl2
  have hle := outI_le (T := T) (n := n) (i := i)
  have e : (outI T n i).length = (every T n).length := by omega
  refine ⟨by omega, ?_⟩
  have : (((every T n).drop i).flatMap (ch T n)) = [] := List.eq_nil_of_length_eq_zero (by omega)
  rw [this, List.append_nil] at hp
  exact hp.symm
/-- at a word of full length all words are there -/
theorem outI_full (hi : i < (every T n).length) (h : ((every T n)[i]).length = n) : outI T n i = every T n := by
  have hp := outI_pre (T := T) (n := n) (i := i)
  have : ((every T n).drop i).flatMap (ch T n) = [] := by
    rw [flat_cong (g := fun _ => []) _ fun w hw => ?_]
    · simp
    · obtain ⟨j, hj, rfl⟩ := List.getElem_of_mem hw
      rw [List.length_drop] at hj
      unfold ch
      rw [if_neg]
      rw [List.getElem_drop]
      have hle : ((every T n)[i]).length ≤ ((every T n)[i + j]).length := by
        by_cases e : j = 0
        · subst e; exact Nat.le_refl _
        · exact (List.pairwise_iff_getElem.1 every_sorted) i (i + j) hi (by omega) (by omega)
      omega
  rw [this, List.append_nil] at hp
  exact hp.symm
end
end Lg
end Go.Proofs.YtccjdgjehecdiaaDoor
namespace Go.Proofs.YtccjdgjehecdiaaDoor
open Go.RowKit
namespace Lg

theorem elWords : ElemT Tryd.prog 35 25 1 24 := ElemT.mk' (z := .slice none 0 0) Tryd.underlying35 (by kernel_rfl) rfl (by decide)
structure WQ (B : Nat) (L : List (List Int)) (v : Value) (W : World) : Prop where
  own : ∃ xs, ownsQ W B 25 1 v L.length xs ∧ RdAll (fun k => B ≤ k ∧ v.ownBlock ≠ some k) W (L.map D.ints) xs
  le : B ≤ W.heap.size
theorem words_cells (L : List (List Int)) : ∀ d ∈ L.map D.ints, d.cells = 1 := by
  intro d hd
  obtain ⟨l, _, rfl⟩ := List.mem_map.1 hd
  rfl
section
variable {B : Nat} {L : List (List Int)} {v : Value} {W W' : World}
theorem WQ.keep (h : WQ B L v W) (hb : Below W.heap.size W W') : WQ B L v W' := by
  obtain ⟨⟨xs, h1, h2⟩, h3⟩ := h
  exact ⟨⟨xs, h1.keep hb, h2.below hb⟩, Nat.le_trans h3 hb.size⟩
theorem WQ.form (h : WQ B L v W) : ∃ a cap, v = .slice a L.length cap ∧ L.length ≤ cap ∧ cap ≤ maxLen := by
  obtain ⟨⟨xs, h1, h2⟩, h3⟩ := h
  exact h1.form
theorem WQ.lt (h : WQ B L v W) : ∀ k, v.ownBlock = some k → B ≤ k ∧ k < W.heap.size := by
  obtain ⟨⟨xs, h1, h2⟩, h3⟩ := h
  exact h1.lt
theorem WQ.start {g c : Nat} {a : Option Addr} (hg : W.heap[g]? = some (.cells #[.slice a 0 c] 25 (0, 0))) (hB : B ≤ g) (hc : c ≤ maxLen) (ha : a = none → c = 0) : WQ B [[]] (.slice (some ⟨g, 0, none⟩) 1 1) W := by
  have hlt := (Array.getElem?_eq_some_iff.1 hg).1
  refine ⟨⟨[.slice a 0 c], ⟨rfl, .inr ⟨g, 0, 1, _, rfl, hB, hg, by simp, by unfold maxLen; omega, by simp, by simp⟩⟩, ?_⟩, by omega⟩
  exact ⟨[.slice a 0 c], [], rfl, ⟨a, c, [], by simp, by simp, hc, ha, fun i hi => by simp at hi, by simp [RdAll]⟩, by simp [RdAll]⟩
theorem WQ.at (h : WQ B L v W) {i : Nat} (hi : i < L.length) : ∃ g off cap u, v = .slice (some ⟨g, off, none⟩) L.length cap ∧ W.cell? ⟨g, off + i, none⟩ = some u ∧ Sl W u (ints L[i]) := by
  obtain ⟨⟨xs, h1, h2⟩, h3⟩ := h
  obtain ⟨g, off, cap, rfl, hc⟩ := h1.cells (by omega)
  have h4 := h2.get (words_cells L) i (by simpa using hi)
  have hl := h1.1
  have hix : i < xs.length := by omega
  have e1 : (xs.drop (i * 1)).take 1 = [xs[i]] := by
    rw [Nat.mul_one, List.drop_eq_getElem_cons hix]; rfl
  rw [e1] at h4
  simp only [List.getElem_map] at h4
  exact ⟨g, off, cap, xs[i], rfl, hc i _ (List.getElem?_eq_getElem hix), sl_rd h4⟩
/-- the first word -/
theorem WQ.first {x : List Int} (h : WQ B (x :: L) v W) : ∃ g off cap u, v = .slice (some ⟨g, off, none⟩) (L.length + 1) cap ∧ W.cell? ⟨g, off, none⟩ = some u ∧ 1 ≤ cap ∧ Rd (fun k => B ≤ k ∧ v.ownBlock ≠ some k) W (D.ints x) [u] := by
  have hf := h.form
  obtain ⟨⟨xs, h1, h2⟩, h3⟩ := h
  obtain ⟨c1, c2, rfl, k1, k2⟩ := h2
  have hl : c1.length = 1 := by rw [Rd.len _ _ k1]; rfl
  obtain ⟨u, rfl⟩ : ∃ u, c1 = [u] := by
    match c1, hl with
    | [u], _ => exact ⟨u, rfl⟩
  obtain ⟨g, off, cap, rfl, hc⟩ := h1.cells (by simp)
  obtain ⟨a', cap', e, e1, _⟩ := hf
  cases e
  exact ⟨g, off, cap, u, rfl, by simpa using hc 0 u rfl, by simp at e1; omega, k1⟩
theorem WQ.tail {x : List Int} {g off cap : Nat} (h : WQ B (x :: L) (.slice (some ⟨g, off, none⟩) (L.length + 1) cap) W) : WQ B L (.slice (if cap = 1 then some ⟨g, off, none⟩ else some ⟨g, off + 1, none⟩) L.length (cap - 1)) W := by
  obtain ⟨⟨xs, h1, h2⟩, h3⟩ := h
  obtain ⟨c1, c2, rfl, k1, k2⟩ := h2
  have hl : c1.length = 1 := by rw [Rd.len _ _ k1]; rfl
  refine ⟨⟨c2, h1.tail hl (by decide), ?_⟩, h3⟩
  refine k2.mono fun k hk _ => ⟨hk.1, fun e => hk.2 ?_⟩
  by_cases hc : cap = 1
  · rw [if_pos hc] at e; exact e
  · rw [if_neg hc] at e; exact e
/-- append of one word -/
theorem wp_appW {ops : Array Oper} {rest : List Oper} {o : Oper} {a : Act} {Q : Exit → Act → World → Prop} {w0 : World} (hgd : o.guard = none) (s x : Operand) (ho : o.op = .call { callee := .builtin .append, args := #[s, x], argTypes := #[35, 35] })
    {y : List Int} {u : Value} {g0 n : Nat} (h : WQ B L v w0) (hn : L.length = n) (hs : a.eval s = v) (hx : a.eval x = .slice (some ⟨g0, 0, none⟩) 1 1) (hg0 : w0.heap[g0]? = some (.cells #[u] 25 (0, 0))) (hu : Rd (fun k => B ≤ k ∧ v.ownBlock ≠ some k) w0 (D.ints y) [u]) (hb : n + 1 ≤ 1000000)
    (hK : ∀ g off cap w', WQ B (L ++ [y]) (.slice (some ⟨g, off, none⟩) (n + 1) cap) w' → w0.grownBy w' v.ownBlock → (v.ownBlock = some g ∨ w0.heap.size ≤ g) → wpList Tryd.prog ops Q rest (a.put o.dst (.slice (some ⟨g, off, none⟩) (n + 1) cap)) w') :
    wpList Tryd.prog ops Q (o :: rest) a w0 := by
  subst hn
  obtain ⟨⟨xs, h1, h2⟩, h3⟩ := h
  have hform : ∃ aa n c, u = .slice aa n c := by
    obtain ⟨aa, cap, l, e, _⟩ := hu
    simp at e
    exact ⟨aa, _, cap, e⟩
  obtain ⟨aa, un, uc, rfl⟩ := hform
  refine wpList_plain hgd fun K' hK' => ?_
  have := step_appQ (ops := ops) (K := K') (Q := Q) (E' := True) elWords hgd s x ho h1 hs hx hg0 rfl (by simp [Value.oneCell']) (by omega) (by unfold maxLen; omega) h3 (fun g off cap w' a1 a2 a3 a4 => hK' _ _ (hK g off cap w' ⟨⟨_, by simpa using a1, ?_⟩, Nat.le_trans h3 a2.size⟩ a2 (by rcases a3 with ⟨cap0, e⟩ | ⟨e, _⟩; exact .inl (by rw [e]; rfl); exact .inr (by omega))))
  · rwa [if_pos (by simp [Region.wanted, hgd])] at this
  · rw [List.map_append]
    refine own_step h2 ⟨[.slice aa un uc], [], rfl, hu, by simp [RdAll]⟩ a2 ?_
    rcases a3 with ⟨cap0, e⟩ | ⟨e, _⟩
    · exact .inl (by rw [e]; rfl)
    · exact .inr ⟨g, rfl, by omega⟩
end
/-- a word that was taken out of the row -/
theorem word_step {B g off n cap : Nat} {v u : Value} {x : List Int} {W W' : World} (h : Rd (fun k => B ≤ k ∧ v.ownBlock ≠ some k) W (D.ints x) [u]) (hg : W.grownBy W' v.ownBlock) (hat : v.ownBlock = some g ∨ W.heap.size ≤ g) : Rd (fun k => B ≤ k ∧ (Value.slice (some ⟨g, off, none⟩) n cap).ownBlock ≠ some k) W' (D.ints x) [u] := by
  have h1 : RdAll (fun k => B ≤ k ∧ v.ownBlock ≠ some k) W [D.ints x] [u] := ⟨[u], [], rfl, h, by simp [RdAll]⟩
  have h2 := own_step (S := fun k => B ≤ k) (v' := .slice (some ⟨g, off, none⟩) n cap) (es := []) (news := []) h1 (by simp [RdAll]) hg (by
    rcases hat with e | e
    · exact .inl (by rw [e]; rfl)
    · exact .inr ⟨g, rfl, e⟩)
  simp only [List.append_nil] at h2
  obtain ⟨c1, c2, e, h3, h4⟩ := h2
  simp [RdAll] at h4
  subst h4
  simp at e
  rw [← e] at h3
  exact h3
/-- a new row of ints as a word -/
theorem word_new {S : Nat → Prop} {W : World} {B : Nat} {v : Value} {l : List Int} (h : W.ownsRow B 3 1 v l.length (ints l)) (hS : ∀ k, B ≤ k → S k) : Rd S W (D.ints l) [v] :=
  rd_of_own h ((rdAll_ints l _).2 rfl) (by simp) (fun k e => hS k (h.lt k e).1)
end Lg
end Go.Proofs.YtccjdgjehecdiaaDoor
namespace Go.Proofs.YtccjdgjehecdiaaDoor
open Go.RowKit
namespace Lg

theorem kids_take {T t : Nat} {u : List Int} (h : t < T) : (kidsW T u).take (t + 1) = (kidsW T u).take t ++ [u ++ [(t : Int)]] := by
  have hl : t < (kidsW T u).length := by simp [kidsW]; exact h
  rw [List.take_succ_eq_append_getElem hl]
  congr 2
  simp [kidsW]
theorem kids_len {T : Nat} {u : List Int} : (kidsW T u).length = T := by simp [kidsW]
theorem ints_app (l : List Int) (t : Int) : ints l ++ [.int .i64 t] = ints (l ++ [t]) := by simp [ints]
def EvPost (T n : Nat) (w : World) (e : Ending) (w' : World) : Prop := ∃ v, e = .returned v ∧ WQ w.heap.size (every T n) v w' ∧ Below w.heap.size w w'
set_option maxHeartbeats 4000000 in
set_option maxRecDepth 100000 in
theorem everyE (T n : Nat) (hT : T ≤ 8) (hn : n ≤ 12) (hlen : (every T n).length ≤ 1000) (w : World) : Calls Tryd.prog 9 #[.int .i64 (T : Int), .int .i64 (n : Int)] w (EvPost T n w) := by
  obtain ⟨PST, HP⟩ := nameIt (EvPost T n w)
  rw [HP.out]
  have HFIN : Hid (∀ v w', WQ w.heap.size (every T n) v w' → Below w.heap.size w w' → PST (.returned v) w') := by
    intro v w' h1 h2; rw [← HP.out]; exact ⟨v, rfl, h1, h2⟩
  clear HP
  have HEL : Hid ((every T n).length ≤ 1000) := hlen
  obtain ⟨EL, HELN⟩ := nameIt (every T n).length
  have hEL : EL ≤ 1000 := by rw [← HELN.out]; exact hlen
  have HOL : Hid (∀ i, (outI T n i).length ≤ EL) := fun i => by rw [← HELN.out]; exact outI_le
  clear hlen HEL
  obtain ⟨w1, HW1⟩ := nameIt (w.alloc (.cells #[] 3))
  have hb1 : Below w.heap.size w w1 := by rw [← HW1.out]; exact (Below.refl _ _).alloc (Nat.le_refl _) _
  obtain ⟨w2, HW2⟩ := nameIt (w1.alloc (.cells #[.slice (some ⟨w.heap.size, 0, none⟩) 0 0] 25))
  have hb2 : Below w1.heap.size w1 w2 := by rw [← HW2.out]; exact (Below.refl _ _).alloc (Nat.le_refl _) _
  have X2 : w2.heap[w1.heap.size]? = some (.cells #[.slice (some ⟨w.heap.size, 0, none⟩) 0 0] 25 (0, 0)) := by rw [← HW2.out]; exact bx_new _ _ _ rfl
  have hs1 : w1.heap.size = w.heap.size + 1 := by rw [← HW1.out]; simp
  have HQ0 : Hid (WQ w.heap.size (outI T n 0) (.slice (some ⟨w.heap.size + 1, 0, none⟩) (outI T n 0).length 1) w2) := by
    rw [← hs1, outI_zero]
    exact WQ.start X2 hb1.size (Nat.zero_le _) (fun h => by cases h)
  have HB2 : Hid (Below w.heap.size w w2) := hb1.trans (hb2.mono hb1.size)
  have hl0 : (outI T n 0).length = 1 := by rw [outI_zero]; rfl
  rw [hl0] at HQ0
  have HCL : Hid (∀ (a : Option Addr) (c k : Nat) (l : List Int) W, l.length = k → k ≤ 100 → Sl W (.slice a k c) (ints l) → Calls Tryd.prog 13 #[.slice a k c] W (NewInts l W)) := fun a c k l W h1 h2 h3 => clone_int _ l W h3 (by omega)
  obtain ⟨gq, HGQ⟩ := nameIt (w.heap.size + 1)
  rw [HGQ.out] at HQ0
  have hb0 : w.heap.size ≤ w.heap.size := Nat.le_refl _
  clear hb1 hb2 X2 hs1 hl0
  go_enter Tryd.func9, Tryd.ntmps9
  go_upto_region 2 with fail
  rw [HW1.out, HW2.out, HGQ.out]
  clear HW1 HW2
  go_wp2_with fail
  go_loopg [5, 6, 7] EL (fun gg v5 v6 v7 wr => ∃ (i g off m cap : Nat), i ≤ EL ∧ EL - i ≤ gg ∧ v5 = .slice (some ⟨g, off, none⟩) m cap ∧ v6 = .int .i64 (i : Int) ∧ Hid ((outI T n i).length = m) ∧ Hid (WQ w.heap.size (outI T n i) (.slice (some ⟨g, off, none⟩) m cap) wr) ∧ Hid (Below w.heap.size w wr))
  case atStart => exact ⟨0, gq, 0, 1, 1, by omega, by omega, rfl, rfl, (by show _ = _; rw [outI_zero]; rfl), HQ0, HB2⟩
  case round =>
    clear HQ0 HB2
    obtain ⟨i, g, off, m, cap, hi, hgg, rfl, rfl, HM, HQ, HB⟩ := hrel
    obtain ⟨w3, rfl⟩ : ∃ ww : World, ww = wr := ⟨_, rfl⟩
    have hmE : m ≤ EL := by have := HOL.out i; rw [HM.out] at this; exact this
    by_cases him : i < m
    · have him' : (i : Int) < (m : Int) := by omega
      have hi0 : (0 : Int) ≤ (i : Int) := by omega
      have hiE : i < (every T n).length := by rw [HELN.out]; omega
      have hix : i < (outI T n i).length := by rw [HM.out]; exact him
      have hge := outI_get (T := T) (n := n) (i := i) hix
      have HNEXT : Hid (outI T n (i + 1) = outI T n i ++ ch T n (every T n)[i]) := outI_next hiE
      have HFULL : Hid ((every T n)[i].length = n → outI T n i = every T n) := outI_full hiE
      have hmem := every_mem (List.getElem_mem hiE)
      obtain ⟨g', off', cap', u0, hv, c0, hs0⟩ := HQ.out.at hix
      rw [HM.out] at hv
      cases hv
      rw [hge] at hs0
      have HAT : Hid (∀ (k : List (List Int)) (v : Value) W, WQ w.heap.size (outI T n i ++ k) v W → ∃ g off cap u, v = .slice (some ⟨g, off, none⟩) (outI T n i ++ k).length cap ∧ W.cell? ⟨g, off + i, none⟩ = some u ∧ Sl W u (ints (every T n)[i])) := fun k v W h => by
        obtain ⟨g, off, cap, u, e1, e2, e3⟩ := h.at (i := i) (by rw [List.length_append]; omega)
        rw [List.getElem_append_left hix, hge] at e3
        exact ⟨g, off, cap, u, e1, e2, e3⟩
      obtain ⟨ws, HWS⟩ := nameIt (every T n)[i]
      rw [HWS.out] at HNEXT HFULL hmem hs0
      simp only [HWS.out] at HAT
      obtain ⟨a0, l0, k0, rfl⟩ : ∃ a l k, u0 = .slice a l k := by obtain ⟨a, k, rfl⟩ := hs0.form; exact ⟨_, _, _, rfl⟩
      have hl0 : l0 = ws.length := by obtain ⟨a, k, e⟩ := hs0.form; cases e; rw [ints_len]
      subst hl0
      obtain ⟨wl, HWL⟩ := nameIt ws.length
      rw [HWL.out] at c0 HFULL hmem
      have hwl : wl ≤ n := hmem.1
      clear hge hs0 hmem
      by_cases hwn : wl = n
      · have hwn' : ((wl : Int) == (n : Int)) = true := by simp; omega
        have HE := Lib.hid (HFIN.out (.slice (some ⟨g, off, none⟩) m cap) w3 (by rw [← HFULL.out hwn]; exact HQ.out) HB.out)
        clear hwn
        go_wp2_with fail
        exact HE.out
      · have hwn' : ((wl : Int) == (n : Int)) = false := by simp; omega
        have hwlt : wl < n := by omega
        have HCH : Hid (outI T n (i + 1) = outI T n i ++ kidsW T ws) := by
          show _ = _
          rw [HNEXT.out]
          unfold ch
          rw [if_pos (by rw [HWL.out]; exact hwlt)]
        have HQ1 : Hid (WQ w.heap.size (outI T n i ++ (kidsW T ws).take 0) (.slice (some ⟨g, off, none⟩) m cap) w3) := by rw [List.take_zero, List.append_nil]; exact HQ.out
        have hme : m + T ≤ EL := by
          have h1 := HOL.out (i + 1)
          rw [HCH.out, List.length_append, HM.out, kids_len] at h1
          exact h1
        clear hwn HFULL HNEXT
        go_wp2_with fail
        go_loopg [5, 7, 24] T (fun gg v5 v7 v24 wr => ∃ (t g off cap : Nat), t ≤ T ∧ T - t ≤ gg ∧ v5 = .slice (some ⟨g, off, none⟩) (m + t) cap ∧ v24 = .int .i64 (t : Int) ∧ Hid (WQ w.heap.size (outI T n i ++ (kidsW T ws).take t) (.slice (some ⟨g, off, none⟩) (m + t) cap) wr) ∧ Hid (Below w.heap.size w wr))
        case atStart => exact ⟨0, g, off, cap, by omega, by omega, rfl, rfl, HQ1, HB⟩
        case round =>
          clear HQ1 HQ HB c0
          obtain ⟨t, g2, off2, cap2, ht, hg2, rfl, rfl, HQ, HB⟩ := hrel
          obtain ⟨w4, rfl⟩ : ∃ ww : World, ww = wr := ⟨_, rfl⟩
          by_cases htT : t < T
          · have htT' : (t : Int) < (T : Int) := by omega
            have hlm : (outI T n i ++ (kidsW T ws).take t).length = m + t := by rw [List.length_append, HM.out, List.length_take, kids_len]; omega
            obtain ⟨g', off', cap', u1, hv, c1, hs1⟩ := HAT.out _ _ w4 HQ.out
            rw [hlm] at hv
            cases hv
            obtain ⟨a1, k1, rfl⟩ := hs1.form
            rw [ints_len, HWL.out] at c1 hs1
            have HC1 := Lib.hid (HCL.out a1 k1 wl ws w4 HWL.out (by omega) hs1)
            have him1 : (i : Int) < ((m + t : Nat) : Int) := by omega
            obtain ⟨mt, HMT⟩ := nameIt (m + t)
            rw [HMT.out] at HQ him1
            rw [HMT.out]
            have hmt : mt + 1 ≤ 1001 := by have := HMT.out; omega
            clear hs1
            go_wp2_with fail
            with_reducible refine HC1.out.mono ?_
            rintro e w5 ⟨a5, c5, rfl, ho5, hb5⟩
            rw [HWL.out] at ho5
            rw [HWL.out]
            have HO5 := Lib.hid ho5
            have HQ5 := Lib.hid (HQ.out.keep hb5)
            have hB5 := hb5.size
            have HB5 := Lib.hid hb5
            clear ho5 hb5 HC1 c1
            go_wp2_with (at_builtin; refine wp_app1 elInt rfl _ _ rfl HO5.out rfl rfl rfl rfl (by omega) (by unfold maxLen; omega) hB5 ?_)
            intro v6 w6 ho6 hg6
            obtain ⟨a6, c6, rfl, -, -⟩ := own_len ho6
            have hb6 : Below w4.heap.size w4 w6 := HB5.out.grown hg6 hB5 (fun k e => (HO5.out.lt k e).1)
            have ho6' : w6.ownsRow w4.heap.size 3 1 (.slice a6 (wl + 1) c6) (ws ++ [(t : Int)]).length (ints (ws ++ [(t : Int)])) := by
              have e1 : (ws ++ [(t : Int)]).length = wl + 1 := by rw [List.length_append, HWL.out]; rfl
              rw [e1, ← ints_app]; exact ho6
            have HQ6 := HQ.out.keep hb6
            have hwd : Rd (fun k => w.heap.size ≤ k ∧ (Value.slice (some ⟨g2, off2, none⟩) mt cap2).ownBlock ≠ some k) w6 (D.ints (ws ++ [(t : Int)])) [.slice a6 (wl + 1) c6] :=
              word_new ho6' fun k hk => ⟨by have := HB.out.size; omega, fun e => by have := (HQ.out.lt k e).2; omega⟩
            have hb7 : Below w6.heap.size w6 (w6.alloc (.cells #[.slice a6 (wl + 1) c6] 25)) := (Below.refl _ _).alloc (Nat.le_refl _) _
            have HQ7 := Lib.hid (HQ6.keep hb7)
            have HX7 : Hid ((w6.alloc (.cells #[.slice a6 (wl + 1) c6] 25)).heap[w6.heap.size]? = some (.cells #[.slice a6 (wl + 1) c6] 25 (0, 0))) := bx_new _ _ _ rfl
            have HU7 := Lib.hid (hwd.below hb7)
            have HB7 : Hid (Below w.heap.size w (w6.alloc (.cells #[.slice a6 (wl + 1) c6] 25))) := HB.out.trans ((hb6.trans (hb7.mono hb6.size)).mono HB.out.size)
            have HLM := Lib.hid hlm
            have HKT : Hid ((kidsW T ws).take (t + 1) = (kidsW T ws).take t ++ [ws ++ [(t : Int)]]) := kids_take htT
            have HMT1 : Hid (mt + 1 = m + (t + 1)) := by show _ = _; have := HMT.out; omega
            clear ho6 ho6' hg6 hb6 HQ6 hwd hb7 HQ HB5 HO5 HQ5 hlm
            go_wp2_with (at_builtin; refine wp_appW rfl _ _ rfl HQ7.out (HLM.out.trans HMT.out) rfl rfl HX7.out HU7.out (by omega) ?_)
            intro g3 off3 cap3 w8 hq8 hg8 _
            have HQ8 : Hid (WQ w.heap.size (outI T n i ++ (kidsW T ws).take (t + 1)) (.slice (some ⟨g3, off3, none⟩) (m + (t + 1)) cap3) w8) := by
              rw [HKT.out, ← HMT1.out]
              exact hq8
            have HB8 : Hid (Below w.heap.size w w8) := HB7.out.grown hg8 HB7.out.size (fun k e => (HQ7.out.lt k e).1)
            clear hq8 hg8
            go_wp2_with fail
            go_roundg (T - (t + 1))
            case measure => omega
            case rel => exact ⟨t + 1, g3, off3, cap3, by omega, by omega, by rw [HMT1.out], by go_num, HQ8, HB8⟩
          · have htT' : ¬ (t : Int) < (T : Int) := by omega
            have htE : t = T := by omega
            have HQN : Hid (WQ w.heap.size (outI T n (i + 1)) (.slice (some ⟨g2, off2, none⟩) (m + t) cap2) w4) := by
              have h := HQ.out
              rw [List.take_of_length_le (by rw [kids_len]; omega)] at h
              rw [HCH.out]; exact h
            have HMN : Hid ((outI T n (i + 1)).length = m + t) := by
              show _ = _
              rw [HCH.out, List.length_append, HM.out, kids_len]; omega
            clear htE
            have hi1 : IntKind.i64.wrap ((i : Int) + 1) = ((i + 1 : Nat) : Int) := by rw [IntWalk.i64_in _ (by omega)]; omega
            go_wp2_with fail
            go_roundg (EL - (i + 1))
            case measure => omega
            case rel => exact ⟨i + 1, g2, off2, m + t, cap2, by omega, by omega, rfl, by first | rfl | go_num, HMN, HQN, HB⟩
    · have him' : ¬ (i : Int) < (m : Int) := by omega
      have HE : Hid (PST (.returned (.slice (some ⟨g, off, none⟩) m cap)) w3) := by
        have h1 := outI_end (T := T) (n := n) (i := i) (by rw [HM.out]; omega) (by rw [HELN.out]; exact hi)
        exact HFIN.out _ _ (by rw [← h1.2]; exact HQ.out) HB.out
      go_wp2_with fail
      exact HE.out
end Lg
end Go.Proofs.YtccjdgjehecdiaaDoor
namespace Go.Proofs.YtccjdgjehecdiaaDoor
open Go.RowKit
namespace Lg

def LS (L : Nat → List Int → Prop) (s : Sym) (u : List Int) : Prop := if s.term then u = [s.n] else L s.n.toNat u
def LL (L : Nat → List Int → Prop) : List Sym → List Int → Prop
  | [], u => u = []
  | s :: l, u => ∃ a b, u = a ++ b ∧ LS L s a ∧ LL L l b
/-- words with a tree of at most so many levels -/
def LN (rules : List Rule) : Nat → Nat → List Int → Prop
  | 0, _, _ => False
  | h + 1, A, u => ∃ r ∈ rules, r.left = (A : Int) ∧ LL (LN rules h) r.right u
def Lang (rules : List Rule) (A : Nat) (u : List Int) : Prop := ∃ h, LN rules h A u
section
variable {rules : List Rule} {L L' : Nat → List Int → Prop} {A : Nat} {u : List Int}
theorem LS_mono (h : ∀ A u, L A u → L' A u) {s : Sym} (hs : LS L s u) : LS L' s u := by
  unfold LS at hs ⊢
  by_cases e : s.term = true
  · rw [if_pos e] at hs ⊢; exact hs
  · rw [if_neg e] at hs ⊢; exact h _ _ hs
theorem LL_mono (h : ∀ A u, L A u → L' A u) : ∀ {l : List Sym} {u : List Int}, LL L l u → LL L' l u
  | [], _, hs => hs
  | _ :: _, _, ⟨a, b, e, h1, h2⟩ => ⟨a, b, e, LS_mono h h1, LL_mono h h2⟩
theorem LN_step : ∀ {h : Nat} {A : Nat} {u : List Int}, LN rules h A u → LN rules (h + 1) A u
  | 0, _, _, hs => hs.elim
  | _ + 1, _, _, ⟨r, h1, h2, h3⟩ => ⟨r, h1, h2, LL_mono (fun _ _ => LN_step) h3⟩
theorem LN_mono {h h' : Nat} (hh : h ≤ h') (hs : LN rules h A u) : LN rules h' A u := by
  induction hh with
  | refl => exact hs
  | step _ ih => exact LN_step ih
theorem LL_lang : ∀ {l : List Sym} {u : List Int}, LL (Lang rules) l u → ∃ h, LL (LN rules h) l u
  | [], _, hs => ⟨0, hs⟩
  | s :: l, u, ⟨a, b, e, h1, h2⟩ => by
    obtain ⟨h, h3⟩ := LL_lang h2
    have h4 : ∃ h', LS (LN rules h') s a := by
      unfold LS at h1 ⊢
      by_cases e : s.term = true
      · rw [if_pos e] at h1; exact ⟨0, by rw [if_pos e]; exact h1⟩
      · rw [if_neg e] at h1; obtain ⟨h', h1⟩ := h1; exact ⟨h', by rw [if_neg e]; exact h1⟩
    obtain ⟨h', h4⟩ := h4
    exact ⟨max h h', a, b, e, LS_mono (fun _ _ => LN_mono (Nat.le_max_right _ _)) h4, LL_mono (fun _ _ => LN_mono (Nat.le_max_left _ _)) h3⟩
theorem lang_rule {r : Rule} (hr : r ∈ rules) (hl : r.left = (A : Int)) (h : LL (Lang rules) r.right u) : Lang rules A u := by
  obtain ⟨h', h2⟩ := LL_lang h
  exact ⟨h' + 1, r, hr, hl, h2⟩
/-- what is closed under the rules has all words -/
theorem lang_ind {P : Nat → List Int → Prop} (hc : ∀ r ∈ rules, ∀ (A : Nat) (u : List Int), r.left = (A : Int) → LL P r.right u → P A u) : ∀ {A : Nat} {u : List Int}, Lang rules A u → P A u := by
  have key : ∀ h A u, LN rules h A u → P A u := by
    intro h
    induction h with
    | zero => intro A u hs; exact hs.elim
    | succ h ih =>
      rintro A u ⟨r, h1, h2, h3⟩
      exact hc r h1 A u h2 (LL_mono ih h3)
  rintro A u ⟨h, hs⟩
  exact key h A u hs
end
/-- a part of a word -/
def seg (w : List Int) (i j : Nat) : List Int := (w.drop i).take (j - i)
theorem seg_len {w : List Int} {i j : Nat} (hj : j ≤ w.length) : (seg w i j).length = j - i := by
  unfold seg; rw [List.length_take, List.length_drop]; omega
theorem seg_app {w : List Int} {i p j : Nat} (h1 : i ≤ p) (h2 : p ≤ j) : seg w i p ++ seg w p j = seg w i j := by
  unfold seg
  have e : w.drop p = (w.drop i).drop (p - i) := by rw [List.drop_drop]; congr 1; omega
  rw [e, show j - i = (p - i) + (j - p) by omega, List.take_add]
theorem seg_one {w : List Int} {p : Nat} (hp : p < w.length) : seg w p (p + 1) = [w[p]] := by
  unfold seg
  rw [List.drop_eq_getElem_cons hp, show p + 1 - p = 1 by omega]
  rfl
theorem seg_nil {w : List Int} {i : Nat} : seg w i i = [] := by unfold seg; rw [Nat.sub_self, List.take_zero]
theorem seg_all {w : List Int} : seg w 0 w.length = w := by unfold seg; rw [List.drop_zero, Nat.sub_zero, List.take_length]
end Lg
end Go.Proofs.YtccjdgjehecdiaaDoor
