/- Own small laws: a slice value that reads as a list of one-cell values. Own small laws, more: rows of the call's own, written in place; what calls leave. Contracts of the library's generic functions over slices of ints: Equal, Delete. Nested data in memory: whole numbers, truth values, strings, slices and structs, read out of cells. Rows of nested data of the call's own: append of one datum, of a slice of data. Trees, in plain Lean, and how they read. Symbols and rules of grammars, in plain Lean, and how they read. Contracts of the library's generic functions over slices of ints: Clone, Grow of nil, Concat. The contracts of cmp.Compare, cmp.Or, slices.Compare of whole numbers. Grammars, in plain Lean: which are valid. slices.Clone of rules and of symbols. A region that draws its order: loads are taken first where their cells stay as they are until the tail begins. Plain: the words of a nonterminal. Plain: which parts of a word a nonterminal derives, by bits (core.Ends). Plain: the lowest bit of a number. math/bits.TrailingZeros32 at a table that lies. Which nonterminals derive others: two ways to reckon it, in plain Lean. Plain: what a census asks: which lengths lists of symbols can have; why counting ends. -/
import Derived.WalkKit
import Derived.ProofKit
import Derived.Below
import Derived.Deep.Slices
import Derived.Lib.Hide
import Derived.Deep.RegionLaw
import Derived.Laws.IdiomCopy
import Derived.Deep.QuietTactic
import Derived.BigQuiet
import Derived.Outline
import Derived.Lib.SlicesDelete
import Derived.Lib.SliceRun
import Derived.Laws.AppendOwnNone
import Derived.Lib.AppendZerosOnto
import Derived.Test.YthnkgmlhpefldaaDoorRows
import Derived.Maps.AppendAt
import Derived.Deep.AppendLies
import Derived.Deep.LoopGhost
import Derived.Deep.Cut
import Derived.Shelf.Abstract
import Derived.Deep.Onto
import Derived.Deep.DeepCutAuto
import Derived.StillTailTactics
import Derived.Deep.RegionHeld3
import Derived.Lib.TrailingZeros
import Derived.Laws.BitsAllLaws
import Derived.Shelf.Spec.TrailingZeros
namespace Go.Proofs.YthnkgmlhpefldaaDoor
open Go.RowKit

/-- the slice value v reads, in w, as the list L of values of one cell each -/
def Sl (w : World) (v : Value) (L : List Value) : Prop :=
  ∃ a cap, v = .slice a L.length cap ∧ L.length ≤ cap ∧ cap ≤ maxLen ∧ (a = none → cap = 0) ∧ ∀ i (h : i < L.length), ∃ x, a = some x ∧ w.cell? (x.add i) = some L[i]

theorem Sl.cases {w : World} {v : Value} {L : List Value} (h : Sl w v L) :
    (L = [] ∧ ∃ a cap, v = .slice a 0 cap ∧ cap ≤ maxLen ∧ (a = none → cap = 0)) ∨
    ∃ b off cap, v = .slice (some ⟨b, off, none⟩) L.length cap ∧ 0 < L.length ∧ L.length ≤ cap ∧ cap ≤ maxLen ∧ ∀ i (h : i < L.length), w.cell? ⟨b, off + i, none⟩ = some L[i] := by
  obtain ⟨a, cap, rfl, hl, hc, hn, hx⟩ := h
  rcases Nat.eq_zero_or_pos L.length with h0 | h0
  · left
    obtain rfl := List.eq_nil_of_length_eq_zero h0
    exact ⟨rfl, a, cap, rfl, hc, hn⟩
  · right
    obtain ⟨⟨b, off, spot⟩, rfl, h1⟩ := hx 0 h0
    have hs : spot = none := by simpa [Addr.add] using World.cell?_spot h1
    subst hs
    refine ⟨b, off, cap, rfl, h0, hl, hc, fun i hi => ?_⟩
    obtain ⟨y, hy, h2⟩ := hx i hi
    cases hy
    rw [← h2]
    congr 1
    unfold Addr.add
    by_cases e : i = 0 <;> simp [e]

theorem nameIt {α : Type} (a : α) : ∃ x, Hid (a = x) := ⟨a, rfl⟩

theorem lt_of_cell {w : World} {x : Addr} {v : Value} (h : w.cell? x = some v) : x.block < w.heap.size := by
  unfold World.cell? at h
  split at h
  · rename_i e
    exact (Array.getElem?_eq_some_iff.1 e).1
  · cases h

theorem add_block (x : Addr) (i : Nat) : (x.add i).block = x.block := by
  unfold Addr.add
  by_cases e : i = 0 <;> simp [e]

/-- what was there when a call began reads behind it as before -/
theorem Sl.keep {w w' : World} {v : Value} {L : List Value} (h : Sl w v L) (hb : Below w.heap.size w w') : Sl w' v L := by
  obtain ⟨a, cap, rfl, hl, hc, hn, hx⟩ := h
  refine ⟨a, cap, rfl, hl, hc, hn, fun i hi => ?_⟩
  obtain ⟨x, rfl, h1⟩ := hx i hi
  exact ⟨x, rfl, by rw [← h1]; exact hb.cell (lt_of_cell h1)⟩

/-- at an index inside, the address is known -/
theorem Sl.at {w : World} {a : Option Addr} {n cap : Nat} {L : List Value} (h : Sl w (.slice a n cap) L) {k : Nat} (hk : k < n) :
    ∃ b off, a = some ⟨b, off, none⟩ ∧ ∀ i (h : i < L.length), w.cell? ⟨b, off + i, none⟩ = some L[i] := by
  rcases h.cases with ⟨_, a', c', e, _⟩ | ⟨b, off, c', e, _, _, _, hx⟩
  · cases e; omega
  · cases e; exact ⟨b, off, rfl, hx⟩

theorem Sl.len {w : World} {a : Option Addr} {n cap : Nat} {L : List Value} (h : Sl w (.slice a n cap) L) : n = L.length ∧ n ≤ cap ∧ cap ≤ maxLen := by
  obtain ⟨a', c', e, hl, hc, _, _⟩ := h
  cases e; exact ⟨rfl, hl, hc⟩

theorem Sl.form {w : World} {v : Value} {L : List Value} (h : Sl w v L) : ∃ a cap, v = .slice a L.length cap := by
  obtain ⟨a', c', e, _⟩ := h; exact ⟨a', c', e⟩

/-- what a program's table says of a slice type and its elements' type -/
structure ElemT (P : Program) (t e : TypeId) (size bytes : Nat) : Prop where
  und : P.underlying t = some (.slice e)
  info : ∃ (i : TypeInfo) (z : Value), P.info? e = some i ∧ i.zero = some z ∧ i.size = size ∧ i.bytes = bytes ∧ z.cells.size = size
  pos : 0 < size

theorem ElemT.mk' {P : Program} {t e : TypeId} {size bytes : Nat} {z : Value} (h : P.underlying t = some (.slice e)) (hi : (P.info? e).map (fun i => (i.zero, i.size, i.bytes)) = some (some z, size, bytes)) (hz : z.cells.size = size) (hp : 0 < size) : ElemT P t e size bytes := by
  obtain ⟨i, h1, h2, h3, h4⟩ := info_parts hi
  exact ⟨h, ⟨i, z, h1, h2, h3, h4, hz⟩, hp⟩

section
open Go.ChangeShapes Go.WideShapes Go.Deep
variable {H : Type} {enc : TypeId × Value → H} {P : Program} {w : World}

end

end Go.Proofs.YthnkgmlhpefldaaDoor
namespace Go.Proofs.YthnkgmlhpefldaaDoor
open Go.RowKit

/-- a row that was there stays the call's own over whatever makes new memory only -/
theorem own_keep {w w' : World} {B : Nat} {e : TypeId} {s : Nat} {v : Value} {n : Nat} {xs : List Value} (h : w.ownsRow B e s v n xs) (hb : Below w.heap.size w w') : w'.ownsRow B e s v n xs := by
  obtain ⟨h1, h2⟩ := h
  refine ⟨h1, ?_⟩
  rcases h2 with h2 | ⟨g, cap, cur, rfl, hg, hh, r⟩
  · exact .inl h2
  · refine .inr ⟨g, cap, cur, rfl, hg, ?_, r⟩
    rw [hb.block g (Array.getElem?_eq_some_iff.1 hh).1]; exact hh

theorem below_grown {w w' : World} {B : Nat} {row : Option Nat} (hg : w.grownBy w' row) (hB : B ≤ w.heap.size) (hr : ∀ k, row = some k → B ≤ k) : Below B w w' := (Below.refl B w).grown hg hB hr

theorem grown_below {w w' : World} (hb : Below w.heap.size w w') (row : Option Nat) : w.grownBy w' row := ⟨hb.os, hb.tape, hb.output, hb.size, fun k hk _ => hb.block k hk⟩

theorem grown_trans {a b c : World} {row : Option Nat} (h : a.grownBy b row) (k : b.grownBy c row) : a.grownBy c row :=
  ⟨k.os.trans h.os, k.tape.trans h.tape, k.output.trans h.output, Nat.le_trans h.size k.size, fun i hi hn => (k.block i (Nat.lt_of_lt_of_le hi h.size) hn).trans (h.block i hi hn)⟩

theorem below_drewN (w : World) (n : Nat) : Below w.heap.size w (w.drewN n) := ⟨rfl, rfl, rfl, Nat.le_refl _, fun _ _ => rfl⟩

theorem grown_cell (w : World) (a : Addr) (v : Value) : w.grownBy (w.setCell a v) (some a.block) := ⟨rfl, rfl, rfl, by simp [World.setCell], fun k _ hn => Below.heap_setCell _ _ _ _ (fun e => hn (by rw [e]))⟩

/-- the rest of a slice, cut inside its capacity -/
theorem Sl.rest {w : World} {a : Option Addr} {n cap k : Nat} {L : List Value} (h : Sl w (.slice a n cap) L) (hk : k ≤ n) (hc : cap ≠ k) : Sl w (.slice (a.map fun x => x.add k) (n - k) (cap - k)) (L.drop k) := by
  obtain ⟨a', cap', e, hl, hcm, hn, hx⟩ := h
  cases e
  refine ⟨a.map (fun x => x.add k), cap - k, by simp, by simp; omega, by omega, fun h => ?_, fun i hi => ?_⟩
  · have := hn (by simpa using h); omega
  simp at hi
  obtain ⟨x, rfl, h1⟩ := hx (k + i) (by omega)
  exact ⟨x.add k, rfl, by rw [Deep.add_add, h1]; simp⟩

theorem Sl.start {w : World} {a : Option Addr} {n cap : Nat} {L : List Value} (h : Sl w (.slice a n cap) L) {j : Nat} (hj : j ≤ n) : Sl w (.slice a j cap) (L.take j) := by
  obtain ⟨a', cap', e, hl, hcm, hn, hx⟩ := h
  cases e
  refine ⟨a, cap, by simp [Nat.min_eq_left hj], by simp; omega, hcm, hn, fun k hk => ?_⟩
  simp at hk
  obtain ⟨x, rfl, h1⟩ := hx k (by omega)
  exact ⟨x, rfl, by rw [h1]; simp⟩

theorem own_len {w : World} {B : Nat} {e : TypeId} {s : Nat} {v : Value} {n : Nat} {xs : List Value} (h : w.ownsRow B e s v n xs) : ∃ a cap, v = .slice a n cap ∧ n ≤ cap ∧ cap ≤ maxLen := by
  rcases h.2 with ⟨rfl, rfl⟩ | ⟨g, cap, cur, rfl, _, _, h1, h2, _⟩
  · exact ⟨_, _, rfl, by simp, by simp⟩
  · exact ⟨_, _, rfl, h1, h2⟩

/-- append of a whole slice of one-cell elements, to a row of the call's own -/
theorem wp_appS {P : Program} {ops : Array Oper} {rest : List Oper} {o : Oper} {a : Act} {Q : Exit → Act → World → Prop} {w : World} {t e : TypeId} {bytes : Nat} (E : ElemT P t e 1 bytes)
    (hgd : o.guard = none) (s x : Operand) (ho : o.op = .call { callee := .builtin .append, args := #[s, x], argTypes := #[t, t] })
    {B : Nat} {v u : Value} {n : Nat} {xs L : List Value} (hown : w.ownsRow B e 1 v n xs) (hs : a.eval s = v) (hsl : Sl w u L) (hx : a.eval x = u)
    (h1 : ∀ z ∈ L, z.oneCell' = true) (hb : (n + L.length) * bytes ≤ 140737488355328) (hm : n + L.length ≤ maxLen) (hB : B ≤ w.heap.size)
    (h : ∀ v' w', w'.ownsRow B e 1 v' (n + L.length) (xs ++ L) → w.grownBy w' v.ownBlock → wpList P ops Q rest (a.put o.dst v') w') :
    wpList P ops Q (o :: rest) a w := by
  obtain ⟨hu, ⟨i, z, hi, hz, hsz, hby, hzs⟩, hp⟩ := E
  obtain ⟨a', cap, rfl, hl, hc, hn, hcell⟩ := hsl
  cases a' with
  | none =>
    obtain rfl : cap = 0 := hn rfl
    have hL : L = [] := List.eq_nil_of_length_eq_zero (by omega)
    subst hL
    refine wpList_append_own_none hgd s x t ho B e i 1 hu hi v n xs hs hown hx (h v w (by simpa using hown) ?_)
    exact ⟨rfl, rfl, rfl, Nat.le_refl _, fun _ _ _ => rfl⟩
  | some ad =>
    refine wpList_append_own w hgd s x t ho B e i z 1 bytes hu hi hz hsz hby hzs hp v n xs hs hown ad L.length cap L hx (by simp) ?_ h1 hm hb hB fun v' w' h2 h3 _ => h v' w' h2 h3
    intro j y hj
    obtain ⟨hj1, hj2⟩ := List.getElem?_eq_some_iff.1 hj
    obtain ⟨y', hy, h2⟩ := hcell j hj1
    cases hy
    rw [h2, hj2]

theorem bx_keep {w w' : World} {b : Nat} {o : Obj} (h : w.heap[b]? = some o) (hb : Below w.heap.size w w') : w'.heap[b]? = some o := by
  rw [hb.block b (Array.getElem?_eq_some_iff.1 h).1]; exact h

theorem bx_cells2 {w : World} {b : Nat} {x0 x1 : Value} {T : TypeId} (h : w.heap[b]? = some (.cells #[x0, x1] T (0, 0))) :
    w.cell? ⟨b, 0, none⟩ = some x0 ∧ w.cell? ⟨b, 0 + 1, none⟩ = some x1 := by
  refine ⟨?_, ?_⟩ <;> simp [World.cell?, h]
theorem bx_cells1 {w : World} {b : Nat} {x0 : Value} {T : TypeId} (h : w.heap[b]? = some (.cells #[x0] T (0, 0))) : w.cell? ⟨b, 0, none⟩ = some x0 := by
  simp [World.cell?, h]
theorem bx_free1 {w : World} {b : Nat} {x0 : Value} {T : TypeId} (h : w.heap[b]? = some (.cells #[x0] T (0, 0))) : w.frozen? ⟨b, 0, none⟩ = false := by
  simp [World.frozen?, h]
theorem bx_cells4 {w : World} {b : Nat} {x0 x1 x2 x3 : Value} {T : TypeId} (h : w.heap[b]? = some (.cells #[x0, x1, x2, x3] T (0, 0))) :
    w.cell? ⟨b, 0, none⟩ = some x0 ∧ w.cell? ⟨b, 0 + 1, none⟩ = some x1 ∧ w.cell? ⟨b, 0 + 2, none⟩ = some x2 ∧ w.cell? ⟨b, 0 + 3, none⟩ = some x3 := by
  refine ⟨?_, ?_, ?_, ?_⟩ <;> simp [World.cell?, h]
theorem bx_free4 {w : World} {b : Nat} {x0 x1 x2 x3 : Value} {T : TypeId} (h : w.heap[b]? = some (.cells #[x0, x1, x2, x3] T (0, 0))) :
    w.frozen? ⟨b, 0, none⟩ = false ∧ w.frozen? ⟨b, 0 + 1, none⟩ = false ∧ w.frozen? ⟨b, 0 + 2, none⟩ = false ∧ w.frozen? ⟨b, 0 + 3, none⟩ = false := by
  refine ⟨?_, ?_, ?_, ?_⟩ <;> simp [World.frozen?, h]
/-- one cell of a box, stored into -/
theorem bx_set {w : World} {b : Nat} {cs : Array Value} {T : TypeId} (h : w.heap[b]? = some (.cells cs T (0, 0))) (j : Nat) (v : Value) : (w.setCell ⟨b, j, none⟩ v).heap[b]? = some (.cells (cs.setIfInBounds j v) T (0, 0)) := by
  simp [World.setCell, Array.getElem?_modify, h]
theorem bx_other {w : World} {b c : Nat} {o : Obj} (h : w.heap[b]? = some o) (hne : b ≠ c) (j : Nat) (v : Value) : (w.setCell ⟨c, j, none⟩ v).heap[b]? = some o := by
  rw [Below.heap_setCell _ _ _ _ hne]; exact h
theorem bx_new (w : World) (o : Obj) (g : Nat) (hg : g = w.heap.size) : (w.alloc o).heap[g]? = some o := by subst hg; exact heap_alloc_new w o

end Go.Proofs.YthnkgmlhpefldaaDoor
namespace Go.Proofs.YthnkgmlhpefldaaDoor
open Go.RowKit

def ints (l : List Int) : List Value := l.map (Value.int .i64)
theorem ints_len (l : List Int) : (ints l).length = l.length := by simp [ints]
theorem ints_get (l : List Int) (i : Nat) (h : i < (ints l).length) : (ints l)[i] = .int .i64 (l[i]'(by simpa [ints] using h)) := by simp [ints]
set_option maxHeartbeats 400000 in
theorem equal_ne (a a' : Option Addr) (n n' cap cap' : Nat) (w : World) (h : n ≠ n') (hn : n ≤ maxLen) (hn' : n' ≤ maxLen) :
    Calls Tryd.prog 8 #[.slice a n cap, .slice a' n' cap'] w fun e w' => e = .returned (.bool false) ∧ w = w' := by
  unfold maxLen at hn hn'
  have hb : ((n : Int) != (n' : Int)) = true := by rw [bne_iff_ne]; omega
  go_enter Tryd.func8, Tryd.ntmps8
  go_wp2
  go_ret
  exact ⟨rfl, rfl⟩

set_option maxHeartbeats 400000 in
theorem equal_eq (a a' : Option Addr) (cap cap' : Nat) (x y : List Int) (w : World) (hl : x.length = y.length) (hx : Sl w (.slice a x.length cap) (ints x)) (hy : Sl w (.slice a' x.length cap') (ints y)) :
    Calls Tryd.prog 8 #[.slice a x.length cap, .slice a' x.length cap'] w fun e w' => e = .returned (.bool (x == y)) ∧ Below w.heap.size w w' := by
  have HX := Lib.hid hx
  have HY := Lib.hid hy
  have hm := (hx.len).2
  have HL := Lib.hid hl
  clear hx hy hl
  unfold maxLen at hm
  obtain ⟨hm1, hm2⟩ := hm
  have hb : ((x.length : Int) != (x.length : Int)) = false := by simp
  go_enter Tryd.func8, Tryd.ntmps8
  go_wp2
  go_loopw [13] (fun t wr => ∃ k : Nat, k ≤ x.length ∧ t = .int .i64 k ∧ Hid (x.take k = y.take k) ∧ Hid (Below w.heap.size w wr)) (fun t _ => x.length - (intOf t).toNat)
  case atStart => exact ⟨0, by omega, rfl, rfl, Below.refl _ _⟩
  case round =>
    obtain ⟨k, hk, rfl, HT, HB⟩ := hrel
    by_cases hlt : k < x.length
    · obtain ⟨b, off, rfl, hc⟩ := (HX.out.keep HB.out).at hlt
      obtain ⟨b', off', rfl, hc'⟩ := (HY.out.keep HB.out).at hlt
      have hcell := hc k (by rw [ints_len]; exact hlt)
      have hcell' := hc' k (by rw [ints_len, ← HL.out]; exact hlt)
      rw [ints_get] at hcell hcell'
      clear hc hc'
      have h1 : (k : Int) < (x.length : Int) := by omega
      have HS : Hid (∀ p q, x[k] = p → y[k]'(by rw [← HL.out]; exact hlt) = q → (p = q → x.take (k + 1) = y.take (k + 1)) ∧ (p ≠ q → (x == y) = false)) := by
        intro p q hp hq
        constructor
        · intro e
          rw [List.take_succ_eq_append_getElem hlt, List.take_succ_eq_append_getElem (by rw [← HL.out]; exact hlt), HT.out, hp, hq, e]
        · intro e
          rw [beq_eq_false_iff_ne]
          intro exy
          subst exy
          exact e (hp.symm.trans hq)
      generalize hp : x[k] = p at *
      generalize hq : y[k]'(by rw [← HL.out]; exact hlt) = q at *
      have HS2 := Lib.hid (HS.out p q rfl rfl)
      clear HS hp hq
      by_cases hpq : p = q
      · subst hpq
        have hne : (p != p) = false := by simp
        have HE := Lib.hid (HS2.out.1 rfl)
        clear HS2
        go_wp2
        go_quiet (fail)
        go_wp2
        exact ⟨⟨k + 1, by omega, by go_num, HE.out, HB.out.trans ((below_drewN wr _).mono HB.out.size)⟩, by simp [intOf]; omega⟩
      · have hne : (p != q) = true := by rw [bne_iff_ne]; exact hpq
        have HE := Lib.hid (HS2.out.2 hpq)
        have HPQ := Lib.hid hpq
        clear HS2 hpq
        go_wp2
        go_quiet (fail)
        go_wp2
        go_ret
        rw [HE.out]
        exact ⟨rfl, HB.out.trans ((below_drewN wr _).mono HB.out.size)⟩
    · have HE : Hid ((x == y) = true) := by
        show _ = _
        have := HT.out
        rw [List.take_of_length_le (by omega), List.take_of_length_le (by have := HL.out; omega)] at this
        rw [this]; simp
      go_wp2
      go_ret
      rw [HE.out]
      exact ⟨rfl, HB.out⟩

/-- slices.Equal at []int -/
theorem equal (v v' : Value) (x y : List Int) (w : World) (hx : Sl w v (ints x)) (hy : Sl w v' (ints y)) :
    Calls Tryd.prog 8 #[v, v'] w fun e w' => e = .returned (.bool (x == y)) ∧ Below w.heap.size w w' := by
  obtain ⟨a, cap, rfl⟩ := hx.form
  obtain ⟨a', cap', rfl⟩ := hy.form
  rw [ints_len] at hx hy ⊢
  rw [ints_len]
  by_cases h : x.length = y.length
  · rw [← h] at hy ⊢
    exact equal_eq a a' cap cap' x y w h hx hy
  · refine (equal_ne a a' _ _ cap cap' w h ?_ ?_).mono ?_
    · exact Nat.le_trans hx.len.2.1 hx.len.2.2
    · exact Nat.le_trans hy.len.2.1 hy.len.2.2
    · rintro e w' ⟨rfl, rfl⟩
      have : (x == y) = false := by rw [beq_eq_false_iff_ne]; intro e; exact h (by rw [e])
      rw [this]
      exact ⟨rfl, Below.refl _ _⟩

end Go.Proofs.YthnkgmlhpefldaaDoor
namespace Go.Proofs.YthnkgmlhpefldaaDoor
open Go.RowKit

inductive D where
  | int (n : Int)
  | bool (b : Bool)
  | str (s : ByteArray)
  | sl (l : List D)
  | agg (l : List D)

mutual
/-- the cells cs read as the datum, in blocks of S alone -/
def Rd (S : Nat → Prop) (w : World) : D → List Value → Prop
  | .int n, cs => cs = [.int .i64 n]
  | .bool b, cs => cs = [.bool b]
  | .str s, cs => cs = [.string s]
  | .sl ds, cs => ∃ a cap L, cs = [.slice a ds.length cap] ∧ ds.length ≤ cap ∧ cap ≤ maxLen ∧ (a = none → cap = 0) ∧ (∀ i (h : i < L.length), ∃ x, a = some x ∧ S x.block ∧ w.cell? (x.add i) = some L[i]) ∧ RdAll S w ds L
  | .agg ds, cs => RdAll S w ds cs
def RdAll (S : Nat → Prop) (w : World) : List D → List Value → Prop
  | [], cs => cs = []
  | d :: ds, cs => ∃ c1 c2, cs = c1 ++ c2 ∧ Rd S w d c1 ∧ RdAll S w ds c2
end

mutual
def D.cells : D → Nat
  | .int _ => 1
  | .bool _ => 1
  | .str _ => 1
  | .sl _ => 1
  | .agg l => D.cellsAll l
def D.cellsAll : List D → Nat
  | [] => 0
  | d :: l => D.cells d + D.cellsAll l
end

def AnyB : Nat → Prop := fun _ => True

mutual
theorem Rd.len {S : Nat → Prop} {w : World} : ∀ (d : D) (cs : List Value), Rd S w d cs → cs.length = d.cells
  | .int n, cs, h => by simp [Rd] at h; simp [h, D.cells]
  | .bool n, cs, h => by simp [Rd] at h; simp [h, D.cells]
  | .str n, cs, h => by simp [Rd] at h; simp [h, D.cells]
  | .sl ds, cs, h => by obtain ⟨a, cap, L, rfl, _⟩ := h; simp [D.cells]
  | .agg ds, cs, h => by rw [D.cells]; exact RdAll.len ds cs h
theorem RdAll.len {S : Nat → Prop} {w : World} : ∀ (ds : List D) (cs : List Value), RdAll S w ds cs → cs.length = D.cellsAll ds
  | [], cs, h => by simp [RdAll] at h; simp [h, D.cellsAll]
  | d :: ds, cs, h => by
    obtain ⟨c1, c2, rfl, h1, h2⟩ := h
    simp [D.cellsAll, Rd.len d c1 h1, RdAll.len ds c2 h2]
end

mutual
/-- what lies in blocks that are as they were reads as it did; S may be widened, too -/
theorem Rd.keep {S S' : Nat → Prop} {w w' : World} (hS : ∀ k, S k → k < w.heap.size → S' k ∧ w'.heap[k]? = w.heap[k]?) : ∀ (d : D) (cs : List Value), Rd S w d cs → Rd S' w' d cs
  | .int n, cs, h => h
  | .bool n, cs, h => h
  | .str n, cs, h => h
  | .sl ds, cs, h => by
    obtain ⟨a, cap, L, rfl, h1, h2, h3, h4, h5⟩ := h
    refine ⟨a, cap, L, rfl, h1, h2, h3, fun i hi => ?_, RdAll.keep hS ds L h5⟩
    obtain ⟨x, rfl, hx, hc⟩ := h4 i hi
    have hlt := lt_of_cell hc
    rw [add_block] at hlt
    obtain ⟨k1, k2⟩ := hS _ hx hlt
    refine ⟨x, rfl, k1, ?_⟩
    rw [← hc]
    exact World.cell?_of_block (w := w) (by rw [add_block]; exact k2)
  | .agg ds, cs, h => RdAll.keep hS ds cs h
theorem RdAll.keep {S S' : Nat → Prop} {w w' : World} (hS : ∀ k, S k → k < w.heap.size → S' k ∧ w'.heap[k]? = w.heap[k]?) : ∀ (ds : List D) (cs : List Value), RdAll S w ds cs → RdAll S' w' ds cs
  | [], cs, h => h
  | d :: ds, cs, h => by
    obtain ⟨c1, c2, rfl, h1, h2⟩ := h
    exact ⟨c1, c2, rfl, Rd.keep hS d c1 h1, RdAll.keep hS ds c2 h2⟩
end

theorem Rd.below {S : Nat → Prop} {w w' : World} {d : D} {cs : List Value} (h : Rd S w d cs) (hb : Below w.heap.size w w') : Rd S w' d cs :=
  Rd.keep (fun k hk hlt => ⟨hk, hb.block k hlt⟩) d cs h
theorem RdAll.below {S : Nat → Prop} {w w' : World} {d : List D} {cs : List Value} (h : RdAll S w d cs) (hb : Below w.heap.size w w') : RdAll S w' d cs :=
  RdAll.keep (fun k hk hlt => ⟨hk, hb.block k hlt⟩) d cs h
theorem Rd.mono {S S' : Nat → Prop} {w : World} {d : D} {cs : List Value} (h : Rd S w d cs) (hs : ∀ k, S k → k < w.heap.size → S' k) : Rd S' w d cs :=
  Rd.keep (fun k hk hlt => ⟨hs k hk hlt, rfl⟩) d cs h
theorem RdAll.mono {S S' : Nat → Prop} {w : World} {d : List D} {cs : List Value} (h : RdAll S w d cs) (hs : ∀ k, S k → k < w.heap.size → S' k) : RdAll S' w d cs :=
  RdAll.keep (fun k hk hlt => ⟨hs k hk hlt, rfl⟩) d cs h
theorem Rd.any {S : Nat → Prop} {w : World} {d : D} {cs : List Value} (h : Rd S w d cs) : Rd AnyB w d cs := h.mono fun _ _ _ => trivial
theorem RdAll.any {S : Nat → Prop} {w : World} {d : List D} {cs : List Value} (h : RdAll S w d cs) : RdAll AnyB w d cs := h.mono fun _ _ _ => trivial

theorem RdAll.append {S : Nat → Prop} {w : World} : ∀ {ds es : List D} {c1 c2 : List Value}, RdAll S w ds c1 → RdAll S w es c2 → RdAll S w (ds ++ es) (c1 ++ c2)
  | [], es, c1, c2, h, k => by simp [RdAll] at h; subst h; simpa using k
  | d :: ds, es, c1, c2, h, k => by
    obtain ⟨a, b, rfl, h1, h2⟩ := h
    exact ⟨a, b ++ c2, by simp, h1, RdAll.append h2 k⟩
theorem RdAll.split {S : Nat → Prop} {w : World} : ∀ {ds es : List D} {c : List Value}, RdAll S w (ds ++ es) c → ∃ c1 c2, c = c1 ++ c2 ∧ RdAll S w ds c1 ∧ RdAll S w es c2
  | [], es, c, h => ⟨[], c, rfl, by simp [RdAll], h⟩
  | d :: ds, es, c, h => by
    obtain ⟨a, b, rfl, h1, h2⟩ := h
    obtain ⟨c1, c2, rfl, h3, h4⟩ := RdAll.split h2
    exact ⟨a ++ c1, c2, by simp, ⟨a, c1, rfl, h1, h3⟩, h4⟩
theorem RdAll.one {S : Nat → Prop} {w : World} {d : D} {c : List Value} (h : Rd S w d c) : RdAll S w [d] c := ⟨c, [], by simp, h, by simp [RdAll]⟩
theorem RdAll.one_iff {S : Nat → Prop} {w : World} {d : D} {c : List Value} : RdAll S w [d] c ↔ Rd S w d c := by
  constructor
  · rintro ⟨c1, c2, rfl, h, h2⟩
    simp [RdAll] at h2
    subst h2
    simpa using h
  · exact RdAll.one

theorem cellsAll_eq {k : Nat} : ∀ {ds : List D}, (∀ d ∈ ds, d.cells = k) → D.cellsAll ds = ds.length * k
  | [], _ => by simp [D.cellsAll]
  | d :: ds, h => by
    rw [D.cellsAll, h d List.mem_cons_self, cellsAll_eq fun x hx => h x (List.mem_cons_of_mem _ hx)]
    simp [Nat.add_mul]; omega

/-- one of many of k cells each -/
theorem RdAll.get {S : Nat → Prop} {w : World} {k : Nat} : ∀ {ds : List D} {L : List Value}, RdAll S w ds L → (∀ d ∈ ds, d.cells = k) → ∀ i (hi : i < ds.length), Rd S w ds[i] ((L.drop (i * k)).take k)
  | [], L, h, hk, i, hi => by simp at hi
  | d :: ds, L, h, hk, i, hi => by
    obtain ⟨c1, c2, rfl, h1, h2⟩ := h
    have hl : c1.length = k := by rw [Rd.len d c1 h1]; exact hk d List.mem_cons_self
    cases i with
    | zero => simpa [List.take_left' hl] using h1
    | succ i =>
      have := RdAll.get h2 (fun x hx => hk x (List.mem_cons_of_mem _ hx)) i (by simpa using hi)
      rw [show (i + 1) * k = c1.length + i * k by rw [hl, Nat.add_mul]; omega]
      have e : (c1 ++ c2).drop (c1.length + i * k) = c2.drop (i * k) := by rw [← List.drop_drop]; simp
      rw [e]
      simpa using this

theorem add_at (b off n : Nat) : (⟨b, off, none⟩ : Addr).add n = ⟨b, off + n, none⟩ := by unfold Addr.add; by_cases e : n = 0 <;> simp [e]

/-- a slice's form -/
theorem Rd.form {S : Nat → Prop} {w : World} {ds : List D} {v : Value} (h : Rd S w (.sl ds) [v]) : ∃ a cap, v = .slice a ds.length cap ∧ ds.length ≤ cap ∧ cap ≤ maxLen := by
  obtain ⟨a, cap, L, e, h1, h2, _⟩ := h
  simp at e
  exact ⟨a, cap, e, h1, h2⟩
theorem Rd.bounds {S : Nat → Prop} {w : World} {ds : List D} {a : Option Addr} {n cap : Nat} (h : Rd S w (.sl ds) [.slice a n cap]) : n = ds.length ∧ n ≤ cap ∧ cap ≤ maxLen := by
  obtain ⟨a, cap, e, h1, h2⟩ := h.form
  cases e
  exact ⟨rfl, h1, h2⟩

/-- an element of a slice: where it lies, its cells -/
theorem Rd.at {S : Nat → Prop} {w : World} {ds : List D} {a : Option Addr} {n cap k : Nat} (h : Rd S w (.sl ds) [.slice a n cap]) (hk : ∀ d ∈ ds, d.cells = k) (hp : 0 < k) {i : Nat} (hi : i < ds.length) :
    ∃ b off cs, a = some ⟨b, off, none⟩ ∧ S b ∧ b < w.heap.size ∧ Rd S w ds[i] cs ∧ cs.length = k ∧ ∀ j (h : j < cs.length), w.cell? ⟨b, off + (i * k + j), none⟩ = some cs[j] := by
  obtain ⟨a', cap', L, e, h1, h2, h3, h4, h5⟩ := h
  simp at e
  obtain ⟨rfl, rfl, rfl⟩ := e
  have hL : L.length = ds.length * k := by rw [RdAll.len ds L h5, cellsAll_eq hk]
  have hpos : 0 < L.length := by rw [hL]; exact Nat.mul_pos (by omega) hp
  obtain ⟨⟨b, off, spot⟩, rfl, hS, hc⟩ := h4 0 hpos
  have hs : spot = none := by simpa [Addr.add] using World.cell?_spot hc
  subst hs
  have hlt := lt_of_cell hc
  rw [add_block] at hlt
  have hik : (i + 1) * k ≤ ds.length * k := Nat.mul_le_mul_right _ hi
  rw [Nat.add_mul, Nat.one_mul] at hik
  refine ⟨b, off, (L.drop (i * k)).take k, rfl, hS, hlt, RdAll.get h5 hk i hi, by simp; omega, fun j hj => ?_⟩
  simp at hj
  obtain ⟨y, hy, _, h6⟩ := h4 (i * k + j) (by omega)
  cases hy
  rw [add_at] at h6
  rw [h6]
  simp

/-- a row of the call's own reads as a slice -/
theorem rd_of_own {S : Nat → Prop} {w : World} {B : Nat} {e : TypeId} {size : Nat} {v : Value} {n : Nat} {xs : List Value} {ds : List D} (h : w.ownsRow B e size v n xs) (hd : RdAll S w ds xs) (hn : ds.length = n) (hS : ∀ k, v.ownBlock = some k → S k) : Rd S w (.sl ds) [v] := by
  have hcell := fun {g : Nat} (hg : v.ownBlock = some g) => h.cells hg
  obtain ⟨hl, h⟩ := h
  subst hn
  rcases h with ⟨rfl, h0⟩ | ⟨g, cap, cur, rfl, hg, hh, hn, hc, hs, ht⟩
  · have : xs = [] := List.eq_nil_of_length_eq_zero (by rw [hl, h0]; simp)
    subst this
    exact ⟨none, 0, [], by rw [h0], by omega, by simp [maxLen], fun _ => rfl, fun i hi => by simp at hi, hd⟩
  · refine ⟨_, cap, xs, rfl, hn, hc, (fun h => by cases h), fun i hi => ⟨_, rfl, hS g rfl, ?_⟩, hd⟩
    exact hcell rfl i _ (List.getElem?_eq_getElem hi)

/-- the new row behind an append: what was read in it is still read, apart from the row's own block -/
theorem own_step {S : Nat → Prop} {w w3 : World} {v v' : Value} {ds es : List D} {xs news : List Value}
    (h1 : RdAll (fun k => S k ∧ v.ownBlock ≠ some k) w ds xs) (h2 : RdAll (fun k => S k ∧ v.ownBlock ≠ some k) w es news)
    (hg : w.grownBy w3 v.ownBlock) (hat : v'.ownBlock = v.ownBlock ∨ ∃ k, v'.ownBlock = some k ∧ w.heap.size ≤ k) : RdAll (fun k => S k ∧ v'.ownBlock ≠ some k) w3 (ds ++ es) (xs ++ news) := by
  have hS : ∀ k, (S k ∧ v.ownBlock ≠ some k) → k < w.heap.size → (S k ∧ v'.ownBlock ≠ some k) ∧ w3.heap[k]? = w.heap[k]? := by
    intro k hk hlt
    refine ⟨⟨hk.1, ?_⟩, hg.block k hlt (fun e => hk.2 e.symm)⟩
    rcases hat with e | ⟨j, e, hj⟩
    · rw [e]; exact hk.2
    · rw [e]; intro h; cases h; omega
  exact RdAll.append (RdAll.keep hS ds xs h1) (RdAll.keep hS es news h2)

/-- append of one element, to a row of the call's own; where the new row lies -/
theorem wp_app1at {P : Program} {ops : Array Oper} {rest : List Oper} {o : Oper} {a : Act} {Q : Exit → Act → World → Prop} {w0 : World} {t e : TypeId} {size bytes : Nat} (E : ElemT P t e size bytes)
    (hgd : o.guard = none) (s x : Operand) (ho : o.op = .call { callee := .builtin .append, args := #[s, x], argTypes := #[t, t] })
    {B : Nat} {v : Value} {n : Nat} {xs : List Value} {news : Array Value} (hown : w0.ownsRow B e size v n xs) (hs : a.eval s = v) {g0 : Nat} (hx : a.eval x = .slice (some ⟨g0, 0, none⟩) 1 1) (hg0 : g0 = w0.heap.size)
    (hn : news.size = size) (h1 : news.toList.all Value.oneCell' = true) (hb : (n + 1) * bytes ≤ 140737488355328) (hm : n + 1 ≤ maxLen) (hB : B ≤ w0.heap.size)
    (h : ∀ v' w', w'.ownsRow B e size v' (n + 1) (xs ++ news.toList) → w0.grownBy w' v.ownBlock → (v'.ownBlock = v.ownBlock ∨ ∃ k, v'.ownBlock = some k ∧ w0.heap.size ≤ k) → wpList P ops Q rest (a.put o.dst v') w') :
    wpList P ops Q (o :: rest) a (w0.alloc (.cells news e)) := by
  subst hg0
  obtain ⟨hu, ⟨i, z, hi, hz, hsz, hby, hzs⟩, hp⟩ := E
  refine wpList_append_own_at (w0.alloc (.cells news e)) hgd s x t ho B e i z size bytes hu hi hz hsz hby hzs hp v n xs hs (hown.alloc _) ⟨w0.heap.size, 0, none⟩ 1 1 news.toList hx (by simp [hn]) ?_ (List.all_eq_true.1 h1) hm hb (by simp; omega) ?_
  · intro j u hj
    have : (⟨w0.heap.size, 0, none⟩ : Addr).add j = ⟨w0.heap.size, j, none⟩ := by unfold Addr.add; by_cases e : j = 0 <;> simp [e]
    rw [this]
    have hh : (w0.alloc (.cells news e)).heap[w0.heap.size]? = some (.cells news e (0, 0)) := heap_alloc_new w0 _
    simp only [World.cell?, hh]
    simpa using hj
  · intro v' w' h2 h3 _ h5
    refine h v' w' h2 ?_ ?_
    · have h4 := World.grownBy_alloc w0 (.cells news e) v.ownBlock
      exact ⟨h3.os.trans h4.os, h3.tape.trans h4.tape, h3.output.trans h4.output, Nat.le_trans h4.size h3.size, fun k hk hne => (h3.block k (Nat.lt_of_lt_of_le hk h4.size) hne).trans (h4.block k hk hne)⟩
    · rcases h5 with h5 | h5
      · exact .inl h5
      · exact .inr ⟨_, h5, by simp⟩

theorem rdAll_ints {S : Nat → Prop} {w : World} : ∀ (l : List Int) (cs : List Value), RdAll S w (l.map .int) cs ↔ cs = ints l
  | [], cs => by simp [RdAll, ints]
  | x :: l, cs => by
    simp only [List.map_cons, RdAll, Rd]
    constructor
    · rintro ⟨c1, c2, rfl, rfl, h⟩
      rw [rdAll_ints] at h
      simp [h, ints]
    · rintro rfl
      exact ⟨[.int .i64 x], ints l, by simp [ints], rfl, (rdAll_ints l _).2 rfl⟩
def D.ints (l : List Int) : D := .sl (l.map .int)
theorem sl_rd {S : Nat → Prop} {w : World} {v : Value} {l : List Int} (h : Rd S w (D.ints l) [v]) : Sl w v (ints l) := by
  obtain ⟨a, cap, L, e, h1, h2, h3, h4, h5⟩ := h
  rw [rdAll_ints] at h5
  subst h5
  simp at e h1
  subst e
  refine ⟨a, cap, by simp [ints], by simpa [ints] using h1, h2, h3, fun i hi => ?_⟩
  obtain ⟨x, e, _, h5⟩ := h4 i hi
  exact ⟨x, e, h5⟩
end Go.Proofs.YthnkgmlhpefldaaDoor
namespace Go.Proofs.YthnkgmlhpefldaaDoor
open Go.RowKit

mutual
theorem Rd.ones {S : Nat → Prop} {w : World} : ∀ (d : D) (cs : List Value), Rd S w d cs → ∀ u ∈ cs, u.oneCell' = true
  | .int n, cs, h => by simp [Rd] at h; subst h; simp [Value.oneCell']
  | .bool n, cs, h => by simp [Rd] at h; subst h; simp [Value.oneCell']
  | .str n, cs, h => by simp [Rd] at h; subst h; simp [Value.oneCell']
  | .sl ds, cs, h => by obtain ⟨a, cap, L, rfl, _⟩ := h; simp [Value.oneCell']
  | .agg ds, cs, h => RdAll.ones ds cs h
theorem RdAll.ones {S : Nat → Prop} {w : World} : ∀ (ds : List D) (cs : List Value), RdAll S w ds cs → ∀ u ∈ cs, u.oneCell' = true
  | [], cs, h => by simp [RdAll] at h; subst h; simp
  | d :: ds, cs, h => by
    obtain ⟨c1, c2, rfl, h1, h2⟩ := h
    intro u hu
    rcases List.mem_append.1 hu with hu | hu
    · exact Rd.ones d c1 h1 u hu
    · exact RdAll.ones ds c2 h2 u hu
end

/-- append of a slice of data to a row of the call's own -/
theorem wp_appD {P : Program} {ops : Array Oper} {rest : List Oper} {o : Oper} {a : Act} {Q : Exit → Act → World → Prop} {w : World} {t e : TypeId} {size bytes : Nat} (E : ElemT P t e size bytes)
    (hgd : o.guard = none) (s x : Operand) (ho : o.op = .call { callee := .builtin .append, args := #[s, x], argTypes := #[t, t] })
    {B : Nat} {v u : Value} {n : Nat} {xs : List Value} {S : Nat → Prop} {ds : List D} (hown : w.ownsRow B e size v n xs) (hs : a.eval s = v) (hsl : Rd S w (.sl ds) [u]) (hx : a.eval x = u) (hk : ∀ d ∈ ds, d.cells = size)
    (hb : (n + ds.length) * bytes ≤ 140737488355328) (hm : n + ds.length ≤ maxLen) (hB : B ≤ w.heap.size)
    (h : ∀ v' w' L, RdAll S w ds L → w'.ownsRow B e size v' (n + ds.length) (xs ++ L) → w.grownBy w' v.ownBlock → (v'.ownBlock = v.ownBlock ∨ ∃ k, v'.ownBlock = some k ∧ w.heap.size ≤ k) → wpList P ops Q rest (a.put o.dst v') w') :
    wpList P ops Q (o :: rest) a w := by
  obtain ⟨hu, ⟨i, z, hi, hz, hsz, hby, hzs⟩, hp⟩ := E
  obtain ⟨a', cap, L, e1, hl, hc, hn, hcell, hd⟩ := hsl
  simp at e1
  subst e1
  have hL : L.length = ds.length * size := by rw [RdAll.len _ _ hd, cellsAll_eq hk]
  cases a' with
  | none =>
    obtain rfl : cap = 0 := hn rfl
    have h0 : ds.length = 0 := by omega
    have hL0 : L = [] := List.eq_nil_of_length_eq_zero (by rw [hL, h0]; simp)
    subst hL0
    rw [h0] at hx
    refine wpList_append_own_none hgd s x t ho B e i size hu hi v n xs hs hown hx (h v w [] hd (by simpa [h0] using hown) ?_ (.inl rfl))
    exact ⟨rfl, rfl, rfl, Nat.le_refl _, fun _ _ _ => rfl⟩
  | some ad =>
    refine wpList_append_own_at w hgd s x t ho B e i z size bytes hu hi hz hsz hby hzs hp v n xs hs hown ad ds.length cap L hx hL ?_ (RdAll.ones _ _ hd) hm hb hB fun v' w' h2 h3 _ h5 => h v' w' L hd h2 h3 (h5.imp id fun e => ⟨_, e, Nat.le_refl _⟩)
    intro j y hj
    obtain ⟨hj1, hj2⟩ := List.getElem?_eq_some_iff.1 hj
    obtain ⟨y', hy, _, h2⟩ := hcell j hj1
    cases hy
    rw [h2, hj2]

/-- append of what lies in one block, at a step of a region that draws its order -/
theorem step_appB {P : Program} {ops : Array Oper} {o : Oper} {a : Act} {K : Act → World → Prop} {Q : Exit → Act → World → Prop} {E' : Prop} {w0 : World} {t e : TypeId} {size bytes : Nat} (E : ElemT P t e size bytes)
    (hgd : o.guard = none) (s x : Operand) (ho : o.op = .call { callee := .builtin .append, args := #[s, x], argTypes := #[t, t] })
    {B : Nat} {v : Value} {n : Nat} {xs : List Value} {news : Array Value} (hown : w0.ownsRow B e size v n xs) (hs : a.eval s = v) {g0 : Nat} (hx : a.eval x = .slice (some ⟨g0, 0, none⟩) 1 1) (hg0 : w0.heap[g0]? = some (.cells news e (0, 0)))
    (hn : news.size = size) (h1 : news.toList.all Value.oneCell' = true) (hb : (n + 1) * bytes ≤ 140737488355328) (hm : n + 1 ≤ maxLen) (hB : B ≤ w0.heap.size)
    (h : ∀ g cap w', w'.ownsRow B e size (.slice (some ⟨g, 0, none⟩) (n + 1) cap) (n + 1) (xs ++ news.toList) → w0.grownBy w' v.ownBlock → (v.ownBlock = some g ∨ g = w0.heap.size) → g < w'.heap.size → K (a.put o.dst (.slice (some ⟨g, 0, none⟩) (n + 1) cap)) w') :
    if Region.wanted o (yielded ops a.tmps) = true then Oper.wp P o a w0 K Q else E' := by
  obtain ⟨hu, ⟨i, z, hi, hz, hsz, hby, hzs⟩, hp⟩ := E
  exact step_append_lies w0 hgd s x t ho B e i z size bytes hu hi hz hsz hby hzs hp v n xs hs hown ⟨g0, 0, none⟩ 1 1 news.toList hx (by simp [hn]) (World.news_of_block hg0) (List.all_eq_true.1 h1) (by omega) hm hb hB w0.heap.size rfl h

/-- a row of data of the call's own, in blocks of S, and beside the row's own block -/
structure RowD (S : Nat → Prop) (B : Nat) (e : TypeId) (size : Nat) (ds : List D) (v : Value) (wr : World) : Prop where
  own : ∃ xs, wr.ownsRow B e size v ds.length xs ∧ RdAll (fun k => S k ∧ v.ownBlock ≠ some k) wr ds xs
  le : B ≤ wr.heap.size
theorem RowD.keep {S : Nat → Prop} {B : Nat} {e : TypeId} {size : Nat} {ds : List D} {v : Value} {wr w' : World} (h : RowD S B e size ds v wr) (hb : Below wr.heap.size wr w') : RowD S B e size ds v w' := by
  obtain ⟨⟨xs, h1, h2⟩, h3⟩ := h
  exact ⟨⟨xs, own_keep h1 hb, h2.below hb⟩, Nat.le_trans h3 hb.size⟩
theorem RowD.form {S : Nat → Prop} {B : Nat} {e : TypeId} {size : Nat} {ds : List D} {v : Value} {wr : World} (h : RowD S B e size ds v wr) : ∃ a cap, v = .slice a ds.length cap ∧ ds.length ≤ cap ∧ cap ≤ maxLen ∧ ∀ k, v.ownBlock = some k → B ≤ k ∧ k < wr.heap.size := by
  obtain ⟨⟨xs, h1, h2⟩, h3⟩ := h
  obtain ⟨a, cap, rfl, e1, e2⟩ := own_len h1
  exact ⟨a, cap, rfl, e1, e2, h1.lt⟩
theorem RowD.rd {S : Nat → Prop} {B : Nat} {e : TypeId} {size : Nat} {ds : List D} {v : Value} {wr : World} (h : RowD S B e size ds v wr) : Rd (fun k => S k ∨ B ≤ k) wr (.sl ds) [v] := by
  obtain ⟨⟨xs, h1, h2⟩, h3⟩ := h
  exact rd_of_own h1 (h2.mono fun k hk _ => .inl hk.1) rfl (fun k e => .inr (h1.lt k e).1)
theorem RowD.nil (S : Nat → Prop) (B : Nat) (e : TypeId) (size : Nat) (w : World) (h : B ≤ w.heap.size) : RowD S B e size [] (.slice none 0 0) w := ⟨⟨[], World.ownsRow_nil _ _ _ _, by simp [RdAll]⟩, h⟩
/-- behind an append: W0: before it -/
theorem RowD.step {S T : Nat → Prop} {B : Nat} {e : TypeId} {size : Nat} {ds es : List D} {v v' : Value} {W0 W1 : World} {xs news : List Value} {n : Nat} (h1 : W0.ownsRow B e size v n xs) (h2 : RdAll (fun k => S k ∧ v.ownBlock ≠ some k) W0 ds xs) (hn : n = ds.length)
    (hp : RdAll T W0 es news) (hT : ∀ k, T k → k < W0.heap.size → S k ∧ v.ownBlock ≠ some k) (hB : B ≤ W0.heap.size)
    (ho : W1.ownsRow B e size v' (n + es.length) (xs ++ news)) (hg : W0.grownBy W1 v.ownBlock) (hat : v'.ownBlock = v.ownBlock ∨ ∃ k, v'.ownBlock = some k ∧ W0.heap.size ≤ k) : RowD S B e size (ds ++ es) v' W1 := by
  subst hn
  exact ⟨⟨xs ++ news, by rw [List.length_append]; exact ho, own_step h2 (hp.mono hT) hg hat⟩, Nat.le_trans hB hg.size⟩
end Go.Proofs.YthnkgmlhpefldaaDoor
namespace Go.Proofs.YthnkgmlhpefldaaDoor
open Go.RowKit

inductive Tree where
  | node (rule term : Int) (kids : List Tree)
def Tree.rule : Tree → Int | .node r _ _ => r
def Tree.term : Tree → Int | .node _ t _ => t
def Tree.kids : Tree → List Tree | .node _ _ k => k
/-- the subtrees that count -/
def kidsOf (t : Tree) : List Tree := if t.rule = -1 then [] else t.kids

mutual
def Tree.d : Tree → D
  | .node r t ks => .agg [.int r, .int t, .sl (Tree.dL ks)]
def Tree.dL : List Tree → List D
  | [] => []
  | k :: ks => Tree.d k :: Tree.dL ks
end
theorem dL_map : ∀ ks : List Tree, Tree.dL ks = ks.map Tree.d
  | [] => rfl
  | k :: ks => by simp [Tree.dL, dL_map ks]
theorem Tree.d_eq (t : Tree) : t.d = .agg [.int t.rule, .int t.term, .sl (t.kids.map Tree.d)] := by
  cases t; simp [Tree.d, dL_map, Tree.rule, Tree.term, Tree.kids]
theorem Tree.d_cells (t : Tree) : t.d.cells = 3 := by rw [Tree.d_eq]; simp [D.cells, D.cellsAll]
theorem trees_cells (ts : List Tree) : ∀ d ∈ ts.map Tree.d, d.cells = 3 := by
  intro d hd
  simp at hd
  obtain ⟨t, _, rfl⟩ := hd
  exact t.d_cells

mutual
/-- the nodes in preorder; the kids of leaves are left out -/
def nodes : Tree → List Tree
  | .node r t ks => .node r t ks :: (if r = -1 then [] else nodesL ks)
def nodesL : List Tree → List Tree
  | [] => []
  | k :: ks => nodes k ++ nodesL ks
end
theorem nodes_eq (t : Tree) : nodes t = t :: nodesL (kidsOf t) := by
  cases t with
  | node r t ks =>
    rw [nodes]
    by_cases h : r = -1 <;> simp [kidsOf, Tree.rule, Tree.kids, h, nodesL]
/-- outside S nothing that was there has changed -/
structure Keeps (S : Nat → Prop) (w w' : World) : Prop where
  os : w'.os = w.os
  tape : w'.tape = w.tape
  output : w'.output = w.output
  size : w.heap.size ≤ w'.heap.size
  block : ∀ k, k < w.heap.size → ¬ S k → w'.heap[k]? = w.heap[k]?
theorem Keeps.below {S : Nat → Prop} {w w' : World} {B : Nat} (h : Keeps S w w') (hS : ∀ k, S k → B ≤ k) (hB : B ≤ w.heap.size) : Below B w w' :=
  ⟨h.os, h.tape, h.output, h.size, fun k hk => h.block k (by omega) (fun hs => by have := hS k hs; omega)⟩
theorem Keeps.trans {S S' : Nat → Prop} {a b c : World} (h : Keeps S a b) (k : Keeps S' b c) (hs : ∀ k, S' k → S k ∨ a.heap.size ≤ k) : Keeps S a c :=
  ⟨k.os.trans h.os, k.tape.trans h.tape, k.output.trans h.output, Nat.le_trans h.size k.size, fun i hi hn => (k.block i (Nat.lt_of_lt_of_le hi h.size) (fun e => (hs i e).elim (fun e => hn e) (fun e => by omega))).trans (h.block i hi hn)⟩
theorem Keeps.cells {S : Nat → Prop} {w w' : World} (h : Keeps S w w') {b : Nat} {o : Obj} (hb : w.heap[b]? = some o) (hS : ¬ S b) : w'.heap[b]? = some o := by
  rw [h.block b (Array.getElem?_eq_some_iff.1 hb).1 hS]; exact hb

/-- three cells of an element -/
theorem Rd.tree {S : Nat → Prop} {w : World} {t : Tree} {cs : List Value} (h : Rd S w t.d cs) : ∃ v, cs = [.int .i64 t.rule, .int .i64 t.term, v] ∧ Rd S w (.sl (t.kids.map Tree.d)) [v] := by
  rw [Tree.d_eq] at h
  obtain ⟨c1, c2, rfl, h1, c3, c4, rfl, h2, h3⟩ := h
  rw [RdAll.one_iff] at h3
  simp [Rd] at h1 h2
  subst h1 h2
  have h4 := h3
  obtain ⟨a, cap, L, e, _⟩ := h3
  subst e
  exact ⟨_, rfl, h4⟩
theorem Rd.kid {S : Nat → Prop} {w : World} {ks : List Tree} {a : Option Addr} {n cap i : Nat} (h : Rd S w (.sl (ks.map Tree.d)) [.slice a n cap]) (hi : i < ks.length) :
    ∃ b off v, a = some ⟨b, off, none⟩ ∧ S b ∧ b < w.heap.size ∧ w.cell? ⟨b, off + i * 3, none⟩ = some (.int .i64 ks[i].rule) ∧ w.cell? ⟨b, off + i * 3 + 1, none⟩ = some (.int .i64 ks[i].term) ∧ w.cell? ⟨b, off + i * 3 + 2, none⟩ = some v ∧ Rd S w (.sl (ks[i].kids.map Tree.d)) [v] := by
  obtain ⟨b, off, cs, ha, hS, hlt, hr, hl, hc⟩ := h.at (trees_cells ks) (by decide) (i := i) (by simpa using hi)
  simp at hr
  obtain ⟨v, rfl, hk⟩ := hr.tree
  exact ⟨b, off, v, ha, hS, hlt, by simpa using hc 0 (by simp), by simpa [Nat.add_assoc] using hc 1 (by simp), by simpa [Nat.add_assoc] using hc 2 (by simp), hk⟩
end Go.Proofs.YthnkgmlhpefldaaDoor
namespace Go.Proofs.YthnkgmlhpefldaaDoor
open Go.RowKit

structure Sym where
  term : Bool
  n : Int
  deriving DecidableEq
structure Rule where
  left : Int
  right : List Sym
  deriving DecidableEq
def Sym.d (s : Sym) : D := .agg [.bool s.term, .int s.n]
def Rule.d (r : Rule) : D := .agg [.int r.left, .sl (r.right.map Sym.d)]
theorem syms_cells (l : List Sym) : ∀ d ∈ l.map Sym.d, d.cells = 2 := by
  intro d hd
  simp at hd
  obtain ⟨t, _, rfl⟩ := hd
  simp [Sym.d, D.cells, D.cellsAll]
theorem rules_cells (l : List Rule) : ∀ d ∈ l.map Rule.d, d.cells = 2 := by
  intro d hd
  simp at hd
  obtain ⟨t, _, rfl⟩ := hd
  simp [Rule.d, D.cells, D.cellsAll]
theorem Rd.sym {S : Nat → Prop} {w : World} {s : Sym} {cs : List Value} (h : Rd S w s.d cs) : cs = [.bool s.term, .int .i64 s.n] := by
  obtain ⟨c1, c2, rfl, h1, h2⟩ := h
  rw [RdAll.one_iff] at h2
  simp [Rd] at h1 h2
  subst h1 h2
  rfl
theorem rd_sym {S : Nat → Prop} {w : World} (s : Sym) : Rd S w s.d [.bool s.term, .int .i64 s.n] := ⟨[.bool s.term], [.int .i64 s.n], rfl, rfl, RdAll.one rfl⟩
theorem Rd.rule {S : Nat → Prop} {w : World} {r : Rule} {cs : List Value} (h : Rd S w r.d cs) : ∃ v, cs = [.int .i64 r.left, v] ∧ Rd S w (.sl (r.right.map Sym.d)) [v] := by
  obtain ⟨c1, c2, rfl, h1, h2⟩ := h
  rw [RdAll.one_iff] at h2
  simp [Rd] at h1
  subst h1
  have h4 := h2
  obtain ⟨a, cap, L, e, _⟩ := h2
  subst e
  exact ⟨_, rfl, h4⟩
theorem rd_rule {S : Nat → Prop} {w : World} {r : Rule} {v : Value} (h : Rd S w (.sl (r.right.map Sym.d)) [v]) : Rd S w r.d [.int .i64 r.left, v] := ⟨[.int .i64 r.left], [v], rfl, rfl, RdAll.one h⟩
theorem Rd.sym_at {S : Nat → Prop} {w : World} {l : List Sym} {a : Option Addr} {n cap i : Nat} (h : Rd S w (.sl (l.map Sym.d)) [.slice a n cap]) (hi : i < l.length) :
    ∃ b off, a = some ⟨b, off, none⟩ ∧ S b ∧ b < w.heap.size ∧ w.cell? ⟨b, off + i * 2, none⟩ = some (.bool l[i].term) ∧ w.cell? ⟨b, off + i * 2 + 1, none⟩ = some (.int .i64 l[i].n) := by
  obtain ⟨b, off, cs, ha, hS, hlt, hr, hl, hc⟩ := h.at (syms_cells l) (by decide) (i := i) (by simpa using hi)
  simp at hr
  obtain rfl := hr.sym
  exact ⟨b, off, ha, hS, hlt, by simpa using hc 0 (by simp), by simpa [Nat.add_assoc] using hc 1 (by simp)⟩
theorem Rd.rule_at {S : Nat → Prop} {w : World} {l : List Rule} {a : Option Addr} {n cap i : Nat} (h : Rd S w (.sl (l.map Rule.d)) [.slice a n cap]) (hi : i < l.length) :
    ∃ b off v, a = some ⟨b, off, none⟩ ∧ S b ∧ b < w.heap.size ∧ w.cell? ⟨b, off + i * 2, none⟩ = some (.int .i64 l[i].left) ∧ w.cell? ⟨b, off + i * 2 + 1, none⟩ = some v ∧ Rd S w (.sl (l[i].right.map Sym.d)) [v] := by
  obtain ⟨b, off, cs, ha, hS, hlt, hr, hl, hc⟩ := h.at (rules_cells l) (by decide) (i := i) (by simpa using hi)
  simp at hr
  obtain ⟨v, rfl, hk⟩ := hr.rule
  exact ⟨b, off, v, ha, hS, hlt, by simpa using hc 0 (by simp), by simpa [Nat.add_assoc] using hc 1 (by simp), hk⟩
theorem elSym : ElemT Tryd.prog 30 44 2 16 := ElemT.mk' (z := .agg #[.bool false, .int .i64 0]) Tryd.underlying30 (by kernel_rfl) rfl (by decide)
theorem elRule : ElemT Tryd.prog 23 32 2 32 := ElemT.mk' (z := .agg #[.int .i64 0, .slice none 0 0]) Tryd.underlying23 (by kernel_rfl) rfl (by decide)
end Go.Proofs.YthnkgmlhpefldaaDoor
namespace Go.Proofs.YthnkgmlhpefldaaDoor
open Go.RowKit

end Go.Proofs.YthnkgmlhpefldaaDoor
namespace Go.Proofs.YthnkgmlhpefldaaDoor
open Go.RowKit

theorem getD_get {α : Type} (l : List α) (i : Nat) (d : α) (h : i < l.length) : l.getD i d = l[i] := by simp [List.getD, h]

/-- a literal slice, in the block that was laid last -/
theorem sl_lit {w : World} {v : Array Value} {e : TypeId} {g : Nat} (hg : g = w.heap.size) (h : v.size ≤ maxLen) : Sl (w.alloc (.cells v e)) (.slice (some ⟨g, 0, none⟩) v.size v.size) v.toList := by
  subst hg
  refine ⟨some ⟨w.heap.size, 0, none⟩, v.size, by simp, by simp, h, (fun h => by cases h), fun i hi => ⟨_, rfl, ?_⟩⟩
  have : (⟨w.heap.size, 0, none⟩ : Addr).add i = ⟨w.heap.size, i, none⟩ := by unfold Addr.add; by_cases e : i = 0 <;> simp [e]
  rw [this]
  have hh : (w.alloc (.cells v e)).heap[w.heap.size]? = some (.cells v e (0, 0)) := heap_alloc_new w _
  simp only [World.cell?, hh]
  simp at hi ⊢

end Go.Proofs.YthnkgmlhpefldaaDoor
namespace Go.Proofs.YthnkgmlhpefldaaDoor
open Go.RowKit

def cmp3 (a b : Int) : Int := if a < b then -1 else if b < a then 1 else 0
theorem cmp3_self (a : Int) : cmp3 a a = 0 := by simp [cmp3]
theorem cmp3_zero {a b : Int} (h : cmp3 a b = 0) : a = b := by
  unfold cmp3 at h
  by_cases h1 : a < b
  · simp [h1] at h
  · by_cases h2 : b < a
    · simp [h1, h2] at h
    · omega
def orL : List Int → Int
  | [] => 0
  | x :: l => if x = 0 then orL l else x

set_option maxHeartbeats 400000 in
theorem isNaN (x : Int) (w : World) : Calls Tryd.prog 56 #[.int .i64 x] w fun e w' => e = .returned (.bool false) ∧ w = w' := by
  have h : (x != x) = false := by simp
  go_enter Tryd.func56, Tryd.ntmps56
  go_wp2
  go_ret
  exact ⟨rfl, rfl⟩

set_option maxHeartbeats 400000 in
theorem compareInt (x y : Int) (w : World) : Calls Tryd.prog 53 #[.int .i64 x, .int .i64 y] w fun e w' => e = .returned (.int .i64 (cmp3 x y)) ∧ w = w' := by
  obtain ⟨c, HC⟩ := nameIt (cmp3 x y)
  have hc : (x < y ∧ c = -1) ∨ (¬ x < y ∧ y < x ∧ c = 1) ∨ (¬ x < y ∧ ¬ y < x ∧ c = 0) := by
    have := HC.out
    unfold cmp3 at this
    split at this
    · exact .inl ⟨by assumption, this.symm⟩
    · split at this
      · exact .inr (.inl ⟨by assumption, by assumption, this.symm⟩)
      · exact .inr (.inr ⟨by assumption, by assumption, this.symm⟩)
  rw [HC.out]
  rcases hc with ⟨h1, rfl⟩ | ⟨h1, h2, rfl⟩ | ⟨h1, h2, rfl⟩
  all_goals
    go_enter Tryd.func53, Tryd.ntmps53
    go_wp2_with (go_at_call 56; (with_reducible refine (isNaN _ _).mono ?_); rintro e w' ⟨rfl, rfl⟩)
    go_ret
    exact ⟨rfl, rfl⟩

set_option maxHeartbeats 1000000 in
theorem orInt (v : Value) (l : List Int) (w : World) (hl : Sl w v (ints l)) :
    Calls Tryd.prog 52 #[v] w fun e w' => e = .returned (.int .i64 (orL l)) ∧ w = w' := by
  obtain ⟨a, cap, rfl⟩ := hl.form
  rw [ints_len] at hl
  rw [ints_len]
  have hc := hl.len.2
  unfold maxLen at hc
  obtain ⟨hc1, hc2⟩ := hc
  have HL := Lib.hid hl
  clear hl
  go_enter Tryd.func52, Tryd.ntmps52
  go_wp2
  go_loopg [8] l.length (fun gg v8 wr => ∃ i : Nat, i ≤ l.length ∧ l.length - i ≤ gg ∧ v8 = .int .i64 i ∧ wr = w ∧ Hid (orL (l.drop i) = orL l))
  case atStart => exact ⟨0, by omega, by omega, rfl, rfl, rfl⟩
  case round =>
    obtain ⟨i, hi, hg, rfl, rfl, HE⟩ := hrel
    by_cases hlt : i < l.length
    · have hlt' : (i : Int) < (l.length : Int) := by omega
      obtain ⟨ba, oa, hae, hca⟩ := HL.out.at hlt
      have c1 := hca i (by rw [ints_len]; exact hlt)
      rw [ints_get] at c1
      have h1 := HE.out
      rw [List.drop_eq_getElem_cons hlt, orL] at h1
      obtain ⟨x, HX⟩ := nameIt (l[i]'hlt)
      rw [HX.out] at c1 h1
      have H1 := Lib.hid h1
      subst hae
      clear hca h1
      by_cases h0 : x = 0
      · subst h0
        have h2 := H1.out
        rw [if_pos rfl] at h2
        have HE2 := Lib.hid h2
        clear h2
        go_wp2
        go_roundg (l.length - (i + 1))
        case measure => omega
        case rel => exact ⟨i + 1, by omega, by omega, by go_num, rfl, HE2⟩
      · have h2 := H1.out
        rw [if_neg h0] at h2
        have HE2 := Lib.hid h2
        have hcb : (x != 0) = true := by simpa using h0
        clear h2 h0
        go_wp2
        go_ret
        exact ⟨by rw [← HE2.out]; rfl, rfl⟩
    · have hlt' : ¬ (i : Int) < (l.length : Int) := by omega
      have HE2 : Hid (orL l = 0) := by show _ = _; rw [← HE.out, List.drop_of_length_le (by omega), orL]
      go_wp2
      go_ret
      exact ⟨by rw [HE2.out]; rfl, rfl⟩
end Go.Proofs.YthnkgmlhpefldaaDoor
namespace Go.Proofs.YthnkgmlhpefldaaDoor
open Go.RowKit

structure Gram where
  terms : Int
  nons : Int
  start : Int
  rules : List Rule
  deriving DecidableEq
def Gram.d (g : Gram) : D := .agg [.int g.terms, .int g.nons, .int g.start, .sl (g.rules.map Rule.d)]
def hasS (g : Gram) (s : Sym) : Bool := decide (0 ≤ s.n) && (s.term && decide (s.n < g.terms) || !s.term && decide (s.n < g.nons))
def ordS (a b : Sym) : Int := if a.term = b.term then cmp3 a.n b.n else if a.term then -1 else 1
def cmpS : List Sym → List Sym → Int
  | [], [] => 0
  | [], _ :: _ => -1
  | _ :: _, [] => 1
  | x :: l, y :: m => if ordS x y = 0 then cmpS l m else ordS x y
def cmpR (a b : Rule) : Int := orL [cmp3 a.left b.left, cmpS a.right b.right]
theorem ordS_zero {a b : Sym} : ordS a b = 0 ↔ a = b := by
  constructor
  · intro h
    unfold ordS at h
    by_cases e : a.term = b.term
    · rw [if_pos e] at h
      have := cmp3_zero h
      cases a; cases b; simp_all
    · rw [if_neg e] at h
      split at h <;> simp at h
  · rintro rfl
    simp [ordS, cmp3_self]
theorem cmpS_zero : ∀ {l m : List Sym}, cmpS l m = 0 ↔ l = m
  | [], [] => by simp [cmpS]
  | [], _ :: _ => by simp [cmpS]
  | _ :: _, [] => by simp [cmpS]
  | x :: l, y :: m => by
    rw [cmpS]
    by_cases h : ordS x y = 0
    · rw [if_pos h, cmpS_zero]
      rw [ordS_zero] at h
      simp [h]
    · rw [if_neg h]
      rw [ordS_zero] at h
      constructor
      · intro h2; rw [ordS_zero] at h2; exact absurd h2 h
      · intro h2; simp at h2; exact absurd h2.1 h
theorem cmpR_zero {a b : Rule} : cmpR a b = 0 ↔ a = b := by
  unfold cmpR
  simp only [orL]
  constructor
  · intro h
    by_cases h1 : cmp3 a.left b.left = 0
    · rw [if_pos h1] at h
      by_cases h2 : cmpS a.right b.right = 0
      · have := cmp3_zero h1
        rw [cmpS_zero] at h2
        cases a; cases b; simp_all
      · rw [if_neg h2] at h; exact absurd h h2
    · rw [if_neg h1] at h; exact absurd h h1
  · rintro rfl
    have : cmpS a.right a.right = 0 := cmpS_zero.2 rfl
    simp [cmp3_self, this]
/-- the fault of the rule i -/
def faultR (g : Gram) (i : Nat) (r : Rule) : Int :=
  if r.left < 0 ∨ g.nons ≤ r.left then 3 else if 4 < r.right.length then 2 else if r.right.any (fun s => !hasS g s) then 3 else if (g.rules.take i).any (fun x => cmpR x r == 0) then 6 else 0
def faultsFrom (g : Gram) : Nat → List Rule → Int
  | _, [] => 0
  | i, r :: l => if faultR g i r = 0 then faultsFrom g (i + 1) l else faultR g i r
def badHead (g : Gram) : Bool := decide (g.terms < 1) || decide (8 < g.terms) || decide (g.nons < 1) || decide (10 < g.nons) || decide (g.start < 0) || decide (g.nons ≤ g.start)
def checkG (g : Gram) : Int := if badHead g then 1 else if 32 < g.rules.length then 2 else faultsFrom g 0 g.rules
theorem faultsFrom_at {g : Gram} {i : Nat} (h : i < g.rules.length) : faultsFrom g i (g.rules.drop i) = if faultR g i g.rules[i] = 0 then faultsFrom g (i + 1) (g.rules.drop (i + 1)) else faultR g i g.rules[i] := by
  rw [List.drop_eq_getElem_cons h, faultsFrom]
theorem faultsFrom_zero {g : Gram} : ∀ {l : List Rule} {i : Nat}, faultsFrom g i l = 0 → ∀ r ∈ l, 0 ≤ r.left ∧ r.left < g.nons ∧ r.right.length ≤ 4 ∧ ∀ s ∈ r.right, hasS g s = true
  | [], i, _, r, hr => by simp at hr
  | x :: l, i, h, r, hr => by
    rw [faultsFrom] at h
    by_cases h0 : faultR g i x = 0
    · rw [if_pos h0] at h
      rcases List.mem_cons.1 hr with rfl | hr
      · unfold faultR at h0
        by_cases h1 : r.left < 0 ∨ g.nons ≤ r.left
        · rw [if_pos h1] at h0; simp at h0
        · rw [if_neg h1] at h0
          by_cases h2 : 4 < r.right.length
          · rw [if_pos h2] at h0; simp at h0
          · rw [if_neg h2] at h0
            by_cases h3 : r.right.any (fun s => !hasS g s) = true
            · rw [if_pos h3] at h0; simp at h0
            · refine ⟨by omega, by omega, by omega, fun s hs => ?_⟩
              simp at h3
              exact h3 s hs
      · exact faultsFrom_zero h r hr
    · rw [if_neg h0] at h; exact absurd h h0
theorem checkG_zero {g : Gram} (h : checkG g = 0) : (1 ≤ g.terms ∧ g.terms ≤ 8 ∧ 1 ≤ g.nons ∧ g.nons ≤ 10 ∧ 0 ≤ g.start ∧ g.start < g.nons) ∧ g.rules.length ≤ 32 ∧ ∀ r ∈ g.rules, 0 ≤ r.left ∧ r.left < g.nons ∧ r.right.length ≤ 4 ∧ ∀ s ∈ r.right, hasS g s = true := by
  unfold checkG at h
  by_cases h1 : badHead g = true
  · rw [if_pos h1] at h; simp at h
  · rw [if_neg h1] at h
    by_cases h2 : 32 < g.rules.length
    · rw [if_pos h2] at h; simp at h
    · rw [if_neg h2] at h
      refine ⟨?_, by omega, faultsFrom_zero h⟩
      simp [badHead] at h1
      omega
end Go.Proofs.YthnkgmlhpefldaaDoor
namespace Go.Proofs.YthnkgmlhpefldaaDoor
open Go.RowKit
namespace Gs

def RulesPost (S : Nat → Prop) (l : List Rule) (w : World) (e : Ending) (w' : World) : Prop :=
  ∃ a c, e = .returned (.slice a l.length c) ∧ RowD S w.heap.size 32 2 (l.map Rule.d) (.slice a l.length c) w' ∧ Below w.heap.size w w'
theorem _root_.Go.Proofs.YthnkgmlhpefldaaDoor.RowD.lower {S : Nat → Prop} {B B' : Nat} {e : TypeId} {size : Nat} {ds : List D} {v : Value} {wr : World} (h : RowD S B e size ds v wr) (hb : B' ≤ B) : RowD S B' e size ds v wr := by
  obtain ⟨⟨xs, h1, h2⟩, h3⟩ := h
  exact ⟨⟨xs, h1.mono hb, h2⟩, Nat.le_trans hb h3⟩
set_option maxHeartbeats 1000000 in
theorem cloneRules (S : Nat → Prop) (l : List Rule) (a : Option Addr) (c : Nat) (w : World) (h : Rd S w (.sl (l.map Rule.d)) [.slice a l.length c]) (hb : l.length ≤ 1000) :
    Calls Tryd.prog 17 #[.slice a l.length c] w (RulesPost S l w) := by
  have hnil := fun (w : World) (a : Option Addr) (n c : Nat) => Lib.run_eql_slice_nil (P := Tryd.prog) w 23 32 a n c 0 0 Tryd.underlying23
  cases a with
  | none =>
    have hl : l = [] := by
      cases l with
      | nil => rfl
      | cons x l => obtain ⟨b, off, v, e, _⟩ := h.rule_at (i := 0) (by simp); cases e
    subst hl
    go_enter Tryd.func17, Tryd.ntmps17
    go_wp2
    go_ret
    exact ⟨none, 0, rfl, RowD.nil _ _ _ _ _ (Nat.le_refl _), Below.refl _ _⟩
  | some x =>
    have hb1 : Below w.heap.size w (w.alloc (.cells #[] 32)) := (Below.refl _ _).alloc (Nat.le_refl _) _
    have HV := Lib.hid ((h.mono (S' := fun k => S k ∧ k < w.heap.size) fun k hs hk => ⟨hs, hk⟩).below hb1)
    have HO : Hid ((w.alloc (.cells #[] 32)).ownsRow w.heap.size 32 2 (.slice (some ⟨w.heap.size, 0, none⟩) 0 0) 0 []) := World.ownsRow_made w #[] 0 (Nat.le_refl _) (by simp) rfl
    have HB1 := Lib.hid hb1
    have HML : Hid ((l.map Rule.d).length = l.length) := by show _ = _; simp
    clear h hb1
    go_enter Tryd.func17, Tryd.ntmps17
    go_wp2_with (at_builtin; refine wp_appD elRule rfl _ _ rfl HO.out rfl HV.out rfl (rules_cells l) (by rw [HML.out]; omega) (by rw [HML.out]; unfold maxLen; omega) (by simp) ?_)
    intro v' w' L hd ho hg hat
    have hb2 : Below w.heap.size w w' := HB1.out.trans (below_grown hg (by simp) (fun k hk => by simp [Value.ownBlock] at hk; omega))
    have hrow : RowD S w.heap.size 32 2 (l.map Rule.d) v' w' := by
      refine ⟨⟨L, by simpa using ho, ?_⟩, hb2.size⟩
      refine RdAll.keep (fun k hk _ => ⟨⟨hk.1, fun e => by have := (ho.lt k e).1; omega⟩, hg.block k (by simp; have := hk.2; omega) (fun e => by simp [Value.ownBlock] at e; have := hk.2; omega)⟩) _ _ hd
    obtain ⟨a', c', rfl, -, -, -⟩ := hrow.form
    rw [HML.out] at hrow
    rw [HML.out]
    have HR := Lib.hid hrow
    have HB2 := Lib.hid hb2
    clear hd ho hg hat hb2 hrow
    go_wp2
    go_ret
    exact ⟨a', c', rfl, HR.out, HB2.out⟩
def SymsPost (l : List Sym) (w : World) (e : Ending) (w' : World) : Prop :=
  ∃ a c, e = .returned (.slice a l.length c) ∧ Rd (fun k => w.heap.size ≤ k) w' (.sl (l.map Sym.d)) [.slice a l.length c] ∧ Below w.heap.size w w'
theorem symsW {S S' : Nat → Prop} {w w' : World} {sy : List Sym} {xs : List Value} (h : RdAll S w (sy.map Sym.d) xs) : RdAll S' w' (sy.map Sym.d) xs := by
  induction sy generalizing xs with
  | nil => exact h
  | cons s sy ih =>
    obtain ⟨c1, c2, rfl, h1, h2⟩ := h
    obtain rfl := h1.sym
    exact ⟨_, _, rfl, rd_sym s, ih h2⟩
set_option maxHeartbeats 1000000 in
theorem cloneSyms (l : List Sym) (a : Option Addr) (c : Nat) (w : World) (h : Rd AnyB w (.sl (l.map Sym.d)) [.slice a l.length c]) (hb : l.length ≤ 1000) :
    Calls Tryd.prog 34 #[.slice a l.length c] w (SymsPost l w) := by
  have hnil := fun (w : World) (a : Option Addr) (n c : Nat) => Lib.run_eql_slice_nil (P := Tryd.prog) w 30 44 a n c 0 0 Tryd.underlying30
  cases a with
  | none =>
    have hl : l = [] := by
      cases l with
      | nil => rfl
      | cons x l => obtain ⟨b, off, e, _⟩ := h.sym_at (i := 0) (by simp); cases e
    subst hl
    go_enter Tryd.func34, Tryd.ntmps34
    go_wp2
    go_ret
    exact ⟨none, 0, rfl, ⟨none, 0, [], rfl, by simp, by simp [maxLen], fun _ => rfl, fun i hi => by simp at hi, rfl⟩, Below.refl _ _⟩
  | some x =>
    have hb1 : Below w.heap.size w (w.alloc (.cells #[] 44)) := (Below.refl _ _).alloc (Nat.le_refl _) _
    have HV := Lib.hid (h.below hb1)
    have HO : Hid ((w.alloc (.cells #[] 44)).ownsRow w.heap.size 44 2 (.slice (some ⟨w.heap.size, 0, none⟩) 0 0) 0 []) := World.ownsRow_made w #[] 0 (Nat.le_refl _) (by simp) rfl
    have HB1 := Lib.hid hb1
    have HML : Hid ((l.map Sym.d).length = l.length) := by show _ = _; simp
    clear h hb1
    go_enter Tryd.func34, Tryd.ntmps34
    go_wp2_with (at_builtin; refine wp_appD elSym rfl _ _ rfl HO.out rfl HV.out rfl (syms_cells l) (by rw [HML.out]; omega) (by rw [HML.out]; unfold maxLen; omega) (by simp) ?_)
    intro v' w' L hd ho hg hat
    have hb2 : Below w.heap.size w w' := HB1.out.trans (below_grown hg (by simp) (fun k hk => by simp [Value.ownBlock] at hk; omega))
    have hrow : Rd (fun k => w.heap.size ≤ k) w' (.sl (l.map Sym.d)) [v'] := rd_of_own ho (by simpa using symsW hd) (by simp) (fun k e => (ho.lt k e).1)
    obtain ⟨a', c', rfl, -, -⟩ := hrow.form
    rw [HML.out] at hrow
    rw [HML.out]
    have HR := Lib.hid hrow
    have HB2 := Lib.hid hb2
    clear hd ho hg hat hb2 hrow
    go_wp2
    go_ret
    exact ⟨a', c', rfl, HR.out, HB2.out⟩
end Gs
end Go.Proofs.YthnkgmlhpefldaaDoor
namespace Go.Proofs.YthnkgmlhpefldaaDoor
open Go.RowKit

section
variable {P : Program} {ops : Array Oper} {Q : Exit → Act → World → Prop} {md : Region.Mode} {S : World → Prop} {n : Nat}
/-- whatever order is picked; S holds behind every operation until number n has come up -/
def wpU (P : Program) (md : Region.Mode) (ops : Array Oper) (Q : Exit → Act → World → Prop) (S : World → Prop) (n : Nat) : Nat → Array Bool → Act → World → Prop
  | 0, listed, a, w => Region.ready md ops listed = [] ∧ Q .normal a w
  | f + 1, listed, a, w =>
    (Region.ready md ops listed = [] → Q .normal a w) ∧
    ∀ i ∈ Region.ready md ops listed, wpOp P ops Q i (fun a' w' => ((listed.setIfInBounds i true).getD n true = false → S w') ∧ wpU P md ops Q S n f (listed.setIfInBounds i true) a' w') a w
theorem wpAny_of_U : ∀ (f : Nat) (listed : Array Bool) (a : Act) (w : World), wpU P md ops Q S n f listed a w → wpAny P md ops Q f listed a w
  | 0, _, _, _, h => h
  | f + 1, _, _, _, h => ⟨h.1, fun i hi => wpOp_mono (fun a' w' h' => wpAny_of_U f _ a' w' h'.2) (h.2 i hi)⟩
theorem wpU_first {i : Nat} {oi : Oper} {v : Value} (hi : ops[i]? = some oi) (hsel : ∀ (j : Nat) (o : Oper) cs b, ops[j]? = some o → o.op ≠ .select cs b)
    (hQ : ∀ c a w, Q (.panic c) (a.put oi.dst v) w → Q (.panic c) a w) (hs : Region.sinkB md ops n = true) (hc : Region.chainB md ops n = true) (hn : n < ops.size) (hin : i < n) :
    ∀ (f : Nat) (listed : Array Bool) (a : Act) (w : World), HeadInv md ops n listed →
      (∀ j oj, ops[j]? = some oj → j ≠ i → listed.getD j true = false → (∀ e ∈ oj.after, Region.binds md e = true → e.on ≠ i) → oi.apart ops oj = true) →
      i ∈ Region.ready md ops listed → YieldsIf P ops S oi v a → S w →
      wpU P md ops Q S n f (listed.setIfInBounds i true) (a.put oi.dst v) w → wpU P md ops Q S n (f + 1) listed a w := by
  intro f
  induction f with
  | zero =>
    intro listed a w inv _ hr hy hS H
    refine ⟨fun h => (by rw [h] at hr; cases hr), fun j hj => ?_⟩
    by_cases hji : j = i
    · subst hji; exact hy.wpOp hi hS ⟨fun _ => hS, H⟩
    · have h1 := ready_mono hj hji
      rw [H.1] at h1
      cases h1
  | succ f ih =>
    intro listed a w inv hfree hr hy hS H
    have hun := (mem_ready.1 hr).1
    refine ⟨fun h => (by rw [h] at hr; cases hr), fun j hj => ?_⟩
    have hjn : j < n := by
      rcases Nat.lt_or_ge j n with h | h
      · exact h
      · exact absurd hj (tail_waits hs hc hn inv _ i rfl hin hun j h)
    by_cases hji : j = i
    · subst hji; exact hy.wpOp hi hS ⟨fun _ => hS, H⟩
    · have h1 := H.2 j (ready_mono hj hji)
      obtain ⟨hjun, oj, hoj, hall⟩ := mem_ready.1 hj
      have hnot : ∀ e ∈ oj.after, Region.binds md e = true → e.on ≠ i := fun e he hb heq => by
        have h1 := hall e he hb
        rw [heq, getD_both hun] at h1
        cases h1
      have h2 := wpOp_putIf hoj (hfree j oj hoj hji hjun hnot) (fun cs b => hsel i oi cs b hi) (fun cs b => hsel j oj cs b hoj) hQ hy h1
      have hfree' : ∀ k ok, ops[k]? = some ok → k ≠ i → (listed.setIfInBounds j true).getD k true = false →
          (∀ e ∈ ok.after, Region.binds md e = true → e.on ≠ i) → oi.apart ops ok = true := fun k ok hk hki hun hno => by
        refine hfree k ok hk hki ?_ hno
        by_cases hjk : j = k
        · subst hjk; exact hjun
        · rw [getD_set_ne true hjk] at hun; exact hun
      have hnn : ((listed.setIfInBounds i true).setIfInBounds j true).getD n true = false := by
        rw [getD_set_ne true (by omega), getD_set_ne true (by omega)]
        exact inv.tail n (Nat.le_refl _) hn
      refine wpOp_mono (fun a' w' h3 => ⟨fun _ => h3.2.1 hnn, ih (listed.setIfInBounds j true) a' w' (inv.set hj hjn) hfree' (ready_mono hr (Ne.symm hji)) h3.1 (h3.2.1 hnn) ?_⟩) h2
      rw [Array.setIfInBounds_comm _ _ hji]
      exact h3.2.2
theorem wpU_take {i : Nat} {oi : Oper} {v : Value} {f : Nat} {listed : Array Bool} {a : Act} {w : World} (hi : ops[i]? = some oi) (inv : HeadInv md ops n listed) (hs : Region.sinkB md ops n = true) (hc : Region.chainB md ops n = true) (hn : n < ops.size) (hin : i < n)
    (hsel : Region.noSelect ops = true) (hf : Region.free md ops listed i = true) (hr : (Region.ready md ops listed).contains i = true)
    (hQ : ∀ c a w, Q (.panic c) (a.put oi.dst v) w → Q (.panic c) a w) (hy : YieldsIf P ops S oi v a) (hS : S w)
    (h : HeadInv md ops n (listed.setIfInBounds i true) → wpU P md ops Q S n f (listed.setIfInBounds i true) (a.put oi.dst v) w) : wpU P md ops Q S n (f + 1) listed a w :=
  wpU_first hi (Region.noSelect_spec hsel) hQ hs hc hn hin f listed a w inv (Region.free_spec hi hf) (by simpa using hr) hy hS (h (inv.set (by simpa using hr) hin))
theorem wp_region_U {id : Nat} {a : Act} {w : World} (n : Nat) (hm : P.follows .mixedOrders = true)
    (h : HeadInv .any ops n (Array.replicate ops.size false) → wpU P .any ops Q S n ops.size (Array.replicate ops.size false) a w.drew) : (Code.region id ops true).wp P Q a w :=
  wp_region_any hm (wpAny_of_U _ _ _ _ (h ⟨by simp, fun j oj _ hl => (by rw [getD_replicate_false] at hl; cases hl), fun t _ ht => getD_in (by simpa using ht) (getD_replicate_false _ _)⟩))
/-- the way on, shut -/
def OnU (P : Program) (md : Region.Mode) (ops : Array Oper) (Q : Exit → Act → World → Prop) (S : World → Prop) (n f : Nat) (listed : Array Bool) (K : Act → World → Prop) : Prop :=
  ∀ a w, (listed.getD n true = false → S w) → wpU P md ops Q S n f listed a w → K a w
theorem OnU.out {f : Nat} {listed : Array Bool} {K : Act → World → Prop} (h : OnU P md ops Q S n f listed K) (a : Act) (w : World) (hS : listed.getD n true = false → S w) (hw : wpU P md ops Q S n f listed a w) : K a w := h a w hS hw
theorem wpU_one {i : Nat} {o : Oper} {f : Nat} {listed : Array Bool} {a : Act} {w : World} (hr : Region.ready md ops listed = [i]) (ho : ops[i]? = some o)
    (h : ∀ K : Act → World → Prop, OnU P md ops Q S n f (listed.setIfInBounds i true) K → if Region.wanted o (yielded ops a.tmps) = true then Oper.wp P o a w K Q else K (a.put o.dst undef) w) : wpU P md ops Q S n (f + 1) listed a w := by
  refine ⟨fun h0 => (by rw [hr] at h0; cases h0), fun j hj => ?_⟩
  rw [hr] at hj
  obtain rfl : j = i := by simpa using hj
  exact wpOp_step ho (fun K hK => h K (fun a w hS hW => hK a w ⟨hS, hW⟩))
theorem wpU_two {i j : Nat} {o o' : Oper} {f : Nat} {listed : Array Bool} {a : Act} {w : World} (hr : Region.ready md ops listed = [i, j]) (ho : ops[i]? = some o) (ho' : ops[j]? = some o')
    (h : ∀ K : Act → World → Prop, OnU P md ops Q S n f (listed.setIfInBounds i true) K → if Region.wanted o (yielded ops a.tmps) = true then Oper.wp P o a w K Q else K (a.put o.dst undef) w)
    (h' : ∀ K : Act → World → Prop, OnU P md ops Q S n f (listed.setIfInBounds j true) K → if Region.wanted o' (yielded ops a.tmps) = true then Oper.wp P o' a w K Q else K (a.put o'.dst undef) w) : wpU P md ops Q S n (f + 1) listed a w := by
  refine ⟨fun h0 => (by rw [hr] at h0; cases h0), fun k hk => ?_⟩
  rw [hr] at hk
  rcases List.mem_cons.1 hk with rfl | hk
  · exact wpOp_step ho (fun K hK => h K (fun a w hS hW => hK a w ⟨hS, hW⟩))
  · obtain rfl : k = j := by simpa using hk
    exact wpOp_step ho' (fun K hK => h' K (fun a w hS hW => hK a w ⟨hS, hW⟩))
theorem wpU_done {listed : Array Bool} {a : Act} {w : World} (hr : Region.ready md ops listed = []) (h : Q .normal a w) : ∀ f, wpU P md ops Q S n f listed a w
  | 0 => ⟨hr, h⟩
  | _ + 1 => ⟨fun _ => h, by rw [hr]; simp⟩
end
end Go.Proofs.YthnkgmlhpefldaaDoor
namespace Go.Proofs.YthnkgmlhpefldaaDoor
open Go.RowKit
namespace Lg

def LS (L : Nat → List Int → Prop) (s : Sym) (u : List Int) : Prop := if s.term then u = [s.n] else L s.n.toNat u
def LL (L : Nat → List Int → Prop) : List Sym → List Int → Prop
  | [], u => u = []
  | s :: l, u => ∃ a b, u = a ++ b ∧ LS L s a ∧ LL L l b
/-- words with a tree of at most so many levels -/
def LN (rules : List Rule) : Nat → Nat → List Int → Prop
  | 0, _, _ => False
  | h + 1, A, u => ∃ r ∈ rules, r.left = (A : Int) ∧ LL (LN rules h) r.right u
def Lang (rules : List Rule) (A : Nat) (u : List Int) : Prop := ∃ h, LN rules h A u
section
variable {rules : List Rule} {L L' : Nat → List Int → Prop} {A : Nat} {u : List Int}
theorem LS_mono (h : ∀ A u, L A u → L' A u) {s : Sym} (hs : LS L s u) : LS L' s u := by
  unfold LS at hs ⊢
  by_cases e : s.term = true
  · rw [if_pos e] at hs ⊢; exact hs
  · rw [if_neg e] at hs ⊢; exact h _ _ hs
theorem LL_mono (h : ∀ A u, L A u → L' A u) : ∀ {l : List Sym} {u : List Int}, LL L l u → LL L' l u
  | [], _, hs => hs
  | _ :: _, _, ⟨a, b, e, h1, h2⟩ => ⟨a, b, e, LS_mono h h1, LL_mono h h2⟩
theorem LN_step : ∀ {h : Nat} {A : Nat} {u : List Int}, LN rules h A u → LN rules (h + 1) A u
  | 0, _, _, hs => hs.elim
  | _ + 1, _, _, ⟨r, h1, h2, h3⟩ => ⟨r, h1, h2, LL_mono (fun _ _ => LN_step) h3⟩
theorem LN_mono {h h' : Nat} (hh : h ≤ h') (hs : LN rules h A u) : LN rules h' A u := by
  induction hh with
  | refl => exact hs
  | step _ ih => exact LN_step ih
theorem LL_lang : ∀ {l : List Sym} {u : List Int}, LL (Lang rules) l u → ∃ h, LL (LN rules h) l u
  | [], _, hs => ⟨0, hs⟩
  | s :: l, u, ⟨a, b, e, h1, h2⟩ => by
    obtain ⟨h, h3⟩ := LL_lang h2
    have h4 : ∃ h', LS (LN rules h') s a := by
      unfold LS at h1 ⊢
      by_cases e : s.term = true
      · rw [if_pos e] at h1; exact ⟨0, by rw [if_pos e]; exact h1⟩
      · rw [if_neg e] at h1; obtain ⟨h', h1⟩ := h1; exact ⟨h', by rw [if_neg e]; exact h1⟩
    obtain ⟨h', h4⟩ := h4
    exact ⟨max h h', a, b, e, LS_mono (fun _ _ => LN_mono (Nat.le_max_right _ _)) h4, LL_mono (fun _ _ => LN_mono (Nat.le_max_left _ _)) h3⟩
theorem lang_rule {r : Rule} (hr : r ∈ rules) (hl : r.left = (A : Int)) (h : LL (Lang rules) r.right u) : Lang rules A u := by
  obtain ⟨h', h2⟩ := LL_lang h
  exact ⟨h' + 1, r, hr, hl, h2⟩
/-- what is closed under the rules has all words -/
theorem lang_ind {P : Nat → List Int → Prop} (hc : ∀ r ∈ rules, ∀ (A : Nat) (u : List Int), r.left = (A : Int) → LL P r.right u → P A u) : ∀ {A : Nat} {u : List Int}, Lang rules A u → P A u := by
  have key : ∀ h A u, LN rules h A u → P A u := by
    intro h
    induction h with
    | zero => intro A u hs; exact hs.elim
    | succ h ih =>
      rintro A u ⟨r, h1, h2, h3⟩
      exact hc r h1 A u h2 (LL_mono ih h3)
  rintro A u ⟨h, hs⟩
  exact key h A u hs
end
/-- a part of a word -/
def seg (w : List Int) (i j : Nat) : List Int := (w.drop i).take (j - i)
theorem seg_len {w : List Int} {i j : Nat} (hj : j ≤ w.length) : (seg w i j).length = j - i := by
  unfold seg; rw [List.length_take, List.length_drop]; omega
theorem seg_app {w : List Int} {i p j : Nat} (h1 : i ≤ p) (h2 : p ≤ j) : seg w i p ++ seg w p j = seg w i j := by
  unfold seg
  have e : w.drop p = (w.drop i).drop (p - i) := by rw [List.drop_drop]; congr 1; omega
  rw [e, show j - i = (p - i) + (j - p) by omega, List.take_add]
theorem seg_one {w : List Int} {p : Nat} (hp : p < w.length) : seg w p (p + 1) = [w[p]] := by
  unfold seg
  rw [List.drop_eq_getElem_cons hp, show p + 1 - p = 1 by omega]
  rfl
theorem seg_nil {w : List Int} {i : Nat} : seg w i i = [] := by unfold seg; rw [Nat.sub_self, List.take_zero]
theorem seg_all {w : List Int} : seg w 0 w.length = w := by unfold seg; rw [List.drop_zero, Nat.sub_zero, List.take_length]
end Lg
end Go.Proofs.YthnkgmlhpefldaaDoor
namespace Go.Proofs.YthnkgmlhpefldaaDoor
open Go.RowKit
namespace Lg

/-- from p to j by a symbol -/
def hit (E : Nat → Nat → Nat) (w : List Int) (s : Sym) (p j : Nat) : Prop := if s.term then w[p]? = some s.n ∧ j = p + 1 else (E s.n.toNat p).testBit j = true
def RB (E : Nat → Nat → Nat) (w : List Int) : List Sym → Nat → Nat → Prop
  | [], i, j => j = i
  | s :: l, i, j => ∃ p, hit E w s i p ∧ RB E w l p j
section
variable {rules : List Rule} {E E' : Nat → Nat → Nat} {w : List Int} {N : Nat}
theorem RB_snoc {s : Sym} : ∀ {l : List Sym} {i j : Nat}, RB E w (l ++ [s]) i j ↔ ∃ p, RB E w l i p ∧ hit E w s p j
  | [], i, j => by
    constructor
    · rintro ⟨p, h1, h2⟩
      obtain rfl : j = p := h2
      exact ⟨i, rfl, h1⟩
    · rintro ⟨p, h1, h2⟩
      obtain rfl : p = i := h1
      exact ⟨j, h2, rfl⟩
  | a :: l, i, j => by
    constructor
    · rintro ⟨p, h1, h2⟩
      obtain ⟨q, h3, h4⟩ := RB_snoc.1 h2
      exact ⟨q, ⟨p, h1, h3⟩, h4⟩
    · rintro ⟨q, ⟨p, h1, h3⟩, h4⟩
      exact ⟨p, h1, RB_snoc.2 ⟨q, h3, h4⟩⟩
def SoundE (rules : List Rule) (w : List Int) (E : Nat → Nat → Nat) : Prop := ∀ A i j, (E A i).testBit j = true → i ≤ j ∧ j ≤ w.length ∧ Lang rules A (seg w i j)
def ClosedE (rules : List Rule) (w : List Int) (E : Nat → Nat → Nat) : Prop := ∀ r ∈ rules, ∀ i, i ≤ w.length → ∀ j, RB E w r.right i j → (E r.left.toNat i).testBit j = true
theorem hit_sound (hs : SoundE rules w E) {s : Sym} {p j : Nat} (h : hit E w s p j) : p ≤ j ∧ j ≤ w.length ∧ LS (Lang rules) s (seg w p j) := by
  unfold hit at h
  unfold LS
  by_cases e : s.term = true
  · rw [if_pos e] at h ⊢
    obtain ⟨h1, rfl⟩ := h
    obtain ⟨hp, h2⟩ := List.getElem?_eq_some_iff.1 h1
    exact ⟨by omega, by omega, by rw [seg_one hp, h2]⟩
  · rw [if_neg e] at h ⊢
    exact hs _ _ _ h
theorem RB_sound (hs : SoundE rules w E) : ∀ {l : List Sym} {i j : Nat}, i ≤ w.length → RB E w l i j → i ≤ j ∧ j ≤ w.length ∧ LL (Lang rules) l (seg w i j)
  | [], i, j, hi, h => by
    obtain rfl : j = i := h
    exact ⟨Nat.le_refl _, hi, seg_nil⟩
  | s :: l, i, j, hi, ⟨p, h1, h2⟩ => by
    obtain ⟨a1, a2, a3⟩ := hit_sound hs h1
    obtain ⟨b1, b2, b3⟩ := RB_sound hs a2 h2
    exact ⟨by omega, b2, seg w i p, seg w p j, (seg_app a1 b1).symm, a3, b3⟩
/-- a closed table has all parts -/
theorem closed_all (hl : ∀ r ∈ rules, 0 ≤ r.left) (hc : ClosedE rules w E) {A : Nat} {u : List Int} (hu : Lang rules A u) : ∀ i, i + u.length ≤ w.length → seg w i (i + u.length) = u → (E A i).testBit (i + u.length) = true := by
  have key : ∀ (l : List Sym) (u : List Int), LL (fun A u => ∀ i, i + u.length ≤ w.length → seg w i (i + u.length) = u → (E A i).testBit (i + u.length) = true) l u → ∀ i, i + u.length ≤ w.length → seg w i (i + u.length) = u → RB E w l i (i + u.length) := by
    intro l
    induction l with
    | nil => intro u h i _ _; obtain rfl : u = [] := h; rfl
    | cons s l ih =>
      rintro u ⟨a, b, rfl, h1, h2⟩ i hi hseg
      rw [List.length_append] at hi hseg
      have e : seg w i (i + a.length) ++ seg w (i + a.length) (i + (a.length + b.length)) = a ++ b := by rw [seg_app (by omega) (by omega)]; exact hseg
      have hla : (seg w i (i + a.length)).length = a.length := by rw [seg_len (by omega)]; omega
      obtain ⟨ea, eb⟩ := List.append_inj e hla
      refine ⟨i + a.length, ?_, ?_⟩
      · unfold LS at h1
        unfold hit
        by_cases et : s.term = true
        · rw [if_pos et] at h1 ⊢
          subst h1
          have hp : i < w.length := by simp at hi; omega
          have h3 : seg w i (i + 1) = [s.n] := ea
          rw [seg_one hp] at h3
          refine ⟨?_, rfl⟩
          rw [List.getElem?_eq_getElem hp]
          simp at h3; rw [h3]
        · rw [if_neg et] at h1 ⊢
          exact h1 i (by omega) ea
      · have := ih b h2 (i + a.length) (by omega) (by rw [show i + a.length + b.length = i + (a.length + b.length) by omega]; exact eb)
        rw [List.length_append]
        rw [show i + a.length + b.length = i + (a.length + b.length) by omega] at this
        exact this
  refine lang_ind (P := fun A u => ∀ i, i + u.length ≤ w.length → seg w i (i + u.length) = u → (E A i).testBit (i + u.length) = true) (fun r hr A u hA h i hi hseg => ?_) hu
  have h1 := hc r hr i (by omega) _ (key r.right u h i hi hseg)
  have : r.left.toNat = A := by rw [hA]; simp
  rwa [this] at h1
/-- a sound and closed table tells the words -/
theorem ends_lang (hl : ∀ r ∈ rules, 0 ≤ r.left) (hs : SoundE rules w E) (hc : ClosedE rules w E) {A : Nat} : (E A 0).testBit w.length = true ↔ Lang rules A w := by
  constructor
  · intro h
    have := (hs A 0 w.length h).2.2
    rwa [seg_all] at this
  · intro h
    have := closed_all hl hc h 0 (by omega) (by rw [Nat.zero_add]; exact seg_all)
    rwa [Nat.zero_add] at this
theorem bits_lt {x m : Nat} (h : ∀ j, x.testBit j = true → j ≤ m) : x < 2 ^ (m + 1) := by
  refine Nat.lt_pow_two_of_testBit x fun j hj => ?_
  cases hx : x.testBit j with
  | false => rfl
  | true => have := h j hx; omega
theorem SoundE.lt (hs : SoundE rules w E) (hw : w.length ≤ 12) (A i : Nat) : E A i < 8192 := by
  have := bits_lt (x := E A i) (m := 12) fun j h => by have := (hs A i j h).2.1; omega
  exact this
/-- the table with one more set of bits -/
def orE (E : Nat → Nat → Nat) (A i x : Nat) : Nat → Nat → Nat := fun B j => if B = A ∧ j = i then E A i ||| x else E B j
theorem orE_sound (hs : SoundE rules w E) {A i x : Nat} (hx : ∀ j, x.testBit j = true → i ≤ j ∧ j ≤ w.length ∧ Lang rules A (seg w i j)) : SoundE rules w (orE E A i x) := by
  intro B k j h
  unfold orE at h
  by_cases e : B = A ∧ k = i
  · rw [if_pos e, Nat.testBit_or] at h
    obtain ⟨rfl, rfl⟩ := e
    cases h1 : (E B k).testBit j with
    | true => exact hs _ _ _ h1
    | false => rw [h1] at h; exact hx j (by simpa using h)
  · rw [if_neg e] at h
    exact hs _ _ _ h
end
end Lg
end Go.Proofs.YthnkgmlhpefldaaDoor
namespace Go.Proofs.YthnkgmlhpefldaaDoor
open Go.RowKit
namespace Lg

theorem low_bit {x : Nat} (h0 : x ≠ 0) (h : x < 4294967296) : Lib.ctz 32 x < 32 ∧ x.testBit (Lib.ctz 32 x) = true ∧ (∀ q, (x &&& (x - 1)).testBit q = true ↔ x.testBit q = true ∧ q ≠ Lib.ctz 32 x) ∧ (x &&& (x - 1)) < x := by
  have hc : Lib.ctz 32 x = Lib.ctzFrom 32 x := by unfold Lib.ctz; rw [if_neg h0]
  obtain ⟨m, hm, hk⟩ := Lib.ctzFrom_spec 32 x (by omega) h
  rw [hc]
  obtain ⟨k, hkk⟩ : ∃ k, k = Lib.ctzFrom 32 x := ⟨_, rfl⟩
  rw [← hkk] at hm hk ⊢
  have hp : 0 < 2 ^ k := Nat.two_pow_pos k
  have e1 : x = 2 ^ k * (2 * m + 1) + 0 := by omega
  have e2 : x - 1 = 2 ^ k * (2 * m) + (2 ^ k - 1) := by rw [hm, Nat.mul_add]; omega
  have b1 : ∀ j, x.testBit j = if j < k then false else (2 * m + 1).testBit (j - k) := by
    intro j
    rw [e1, Nat.testBit_two_pow_mul_add _ hp]
    simp
  have b2 : ∀ j, k ≤ j → (x - 1).testBit j = (2 * m).testBit (j - k) := by
    intro j hj
    rw [e2, Nat.testBit_two_pow_mul_add _ (by omega), if_neg (by omega)]
  have hxk : x.testBit k = true := by
    rw [b1, if_neg (Nat.lt_irrefl k), Nat.sub_self, Nat.testBit_zero]
    simp
  have hq : ∀ q, (x &&& (x - 1)).testBit q = true ↔ x.testBit q = true ∧ q ≠ k := by
    intro q
    rw [Nat.testBit_and, Bool.and_eq_true]
    by_cases h1 : q < k
    · rw [b1, if_pos h1]; simp
    · by_cases h2 : q = k
      · subst h2
        rw [b2 q (Nat.le_refl q), Nat.sub_self, Nat.testBit_zero]
        simp
      · rw [b2 q (by omega), b1, if_neg h1]
        obtain ⟨i, hi⟩ : ∃ i, q - k = i + 1 := ⟨q - k - 1, by omega⟩
        rw [hi, Nat.testBit_succ, Nat.testBit_succ, show (2 * m + 1) / 2 = m by omega, show 2 * m / 2 = m by omega]
        simp [h2]
  refine ⟨hk, hxk, hq, ?_⟩
  have hle : (x &&& (x - 1)) ≤ x - 1 := Nat.and_le_right
  omega
/-- what the bits behind p of x make: the loop over the bits -/
def UpTo (a x : Nat) (R : Nat → Nat → Prop) (next : Nat) : Prop := (∀ q, x.testBit q = true → a.testBit q = true) ∧ ∀ j, next.testBit j = true ↔ ∃ p, a.testBit p = true ∧ ¬ x.testBit p = true ∧ R p j
theorem upTo_start {a : Nat} {R : Nat → Nat → Prop} : UpTo a a R 0 := by
  refine ⟨fun _ h => h, fun j => ⟨fun h => ?_, fun h => ?_⟩⟩
  · rw [Nat.zero_testBit] at h; cases h
  · obtain ⟨p, h1, h2, _⟩ := h; exact absurd h1 h2
theorem upTo_next {a x next y : Nat} {R : Nat → Nat → Prop} (h0 : x ≠ 0) (h : x < 4294967296) (hu : UpTo a x R next) (hy : ∀ j, y.testBit j = true ↔ R (Lib.ctz 32 x) j) : UpTo a (x &&& (x - 1)) R (next ||| y) := by
  obtain ⟨h1, h2, h3, h4⟩ := low_bit h0 h
  refine ⟨fun q hq => hu.1 q ((h3 q).1 hq).1, fun j => ?_⟩
  rw [Nat.testBit_or, Bool.or_eq_true, hu.2 j, hy j]
  constructor
  · rintro (⟨p, a1, a2, a3⟩ | hr)
    · exact ⟨p, a1, fun e => a2 ((h3 p).1 e).1, a3⟩
    · exact ⟨_, hu.1 _ h2, fun e => ((h3 _).1 e).2 rfl, hr⟩
  · rintro ⟨p, a1, a2, a3⟩
    by_cases e : p = Lib.ctz 32 x
    · subst e; exact .inr a3
    · exact .inl ⟨p, a1, fun hx => a2 ((h3 p).2 ⟨hx, e⟩), a3⟩
theorem upTo_end {a next : Nat} {R : Nat → Nat → Prop} (hu : UpTo a 0 R next) (j : Nat) : next.testBit j = true ↔ ∃ p, a.testBit p = true ∧ R p j := by
  rw [hu.2 j]
  constructor
  · rintro ⟨p, a1, _, a3⟩; exact ⟨p, a1, a3⟩
  · rintro ⟨p, a1, a3⟩; exact ⟨p, a1, by rw [Nat.zero_testBit]; decide, a3⟩
end Lg
end Go.Proofs.YthnkgmlhpefldaaDoor
namespace Go.Proofs.YthnkgmlhpefldaaDoor
open Go.RowKit
namespace Lg

/-- the table lies in its variable -/
def TabG (w : World) : Prop := ∀ j, j < 32 → w.cell? ⟨0, j, none⟩ = some (.int .u8 (Lib.deBruijn32tab.getD j 0))
theorem TabG.keep {w w' : World} (h : TabG w) (hb : Below w.heap.size w w') : TabG w' := fun j hj => (hb.cell (lt_of_cell (h j hj))).trans (h j hj)
set_option maxHeartbeats 1000000 in
theorem tz_core (x k idx : Nat) (w : World) (hx0 : ((x : Int) == 0) = false)
    (key : bits BinOp.and IntKind.u32 (x : Int) (-(x : Int) % 4294967296) * 125613361 % 4294967296 / 134217728 = (idx : Int))
    (hi : idx < 32) (hk : k < 32) (hcell : w.cell? ⟨0, idx, none⟩ = some (.int .u8 k)) :
    Calls Tryd.prog 49 #[.int .u32 x] w fun e w' => e = .returned (.int .i64 k) ∧ w' = w := by
  go_enter Tryd.func49, Tryd.ntmps49
  go_wp2_with (simp only [key])
  go_ret
  exact ⟨rfl, rfl⟩
theorem tzE (x : Nat) (hx : x < 4294967296) (hx0 : x ≠ 0) (w : World) (hT : TabG w) :
    Calls Tryd.prog 49 #[.int .u32 x] w fun e w' => e = .returned (.int .i64 (Lib.ctz 32 x)) ∧ w' = w := by
  obtain ⟨hlow, hk⟩ := Lib.lowest_bit 32 x hx0 hx
  obtain ⟨hi, htab⟩ := Lib.deBruijn32_at _ hk
  have hcell := hT _ hi
  rw [htab] at hcell
  exact tz_core x _ _ w (by simp; omega) (tz32_key x _ hx hx0 hlow) hi hk hcell
end Lg
end Go.Proofs.YthnkgmlhpefldaaDoor
namespace Go.Proofs.YthnkgmlhpefldaaDoor
open Go.RowKit

inductive Pth (E : List (Nat × Nat)) : Nat → Nat → Prop
  | one {i j : Nat} : (i, j) ∈ E → Pth E i j
  | cons {i j k : Nat} : (i, j) ∈ E → Pth E j k → Pth E i k
theorem Pth.trans {E : List (Nat × Nat)} {i j k : Nat} (h : Pth E i j) (h2 : Pth E j k) : Pth E i k := by
  induction h with
  | one h => exact .cons h h2
  | cons h _ ih => exact .cons h (ih h2)
/-- in rounds over the places between -/
def fw (E : List (Nat × Nat)) : Nat → Nat → Nat → Bool
  | 0, i, j => decide ((i, j) ∈ E)
  | k + 1, i, j => fw E k i j || (fw E k i k && fw E k k j)
def cnt (N : Nat) (U : Nat → Bool) : Nat := ((List.range N).filter U).length
end Go.Proofs.YthnkgmlhpefldaaDoor
namespace Go.Proofs.YthnkgmlhpefldaaDoor
open Go.RowKit
namespace Cs

def hasK (S : Nat → Nat → Bool) (s : Sym) (k : Nat) : Bool := if s.term then decide (k = 1) else S s.n.toNat k
def canK (S : Nat → Nat → Bool) : List Sym → Nat → Bool
  | [], k => decide (k = 0)
  | s :: l, k => (List.range (k + 1)).any fun i => hasK S s i && canK S l (k - i)
theorem canK_cons {S : Nat → Nat → Bool} {s : Sym} {l : List Sym} {k : Nat} : canK S (s :: l) k = true ↔ ∃ i, i ≤ k ∧ hasK S s i = true ∧ canK S l (k - i) = true := by
  rw [canK, List.any_eq_true]
  constructor
  · rintro ⟨i, hi, h⟩
    rw [Bool.and_eq_true] at h
    exact ⟨i, by have := List.mem_range.1 hi; omega, h⟩
  · rintro ⟨i, hi, h1, h2⟩
    exact ⟨i, List.mem_range.2 (by omega), by rw [h1, h2]; rfl⟩
/-- a list of at most so many trees of symbols, in which all that is asked for is good -/
def Fine (S : Nat → Nat → Bool) (G : Nat → Nat → Prop) (l : List Sym) (k : Nat) : Prop :=
  ∀ (p : Nat) (s : Sym) (i a : Nat), l[p]? = some s → s.term = false → S s.n.toNat i = true → a + i ≤ k → canK S (l.take p) a = true → canK S (l.drop (p + 1)) (k - a - i) = true → G s.n.toNat i
theorem Fine.head {S : Nat → Nat → Bool} {G : Nat → Nat → Prop} {s : Sym} {l : List Sym} {k i : Nat} (h : Fine S G (s :: l) k) (hi : i ≤ k) (h1 : hasK S s i = true) (h2 : canK S l (k - i) = true) (ht : s.term = false) : G s.n.toNat i := by
  refine h 0 s i 0 rfl ht ?_ (by omega) rfl (by simpa using h2)
  unfold hasK at h1
  rw [ht] at h1
  simpa using h1
theorem Fine.tail {S : Nat → Nat → Bool} {G : Nat → Nat → Prop} {s : Sym} {l : List Sym} {k i : Nat} (h : Fine S G (s :: l) k) (hi : i ≤ k) (h1 : hasK S s i = true) : Fine S G l (k - i) := by
  intro p s' j a hp ht hS ha h2 h3
  refine h (p + 1) s' j (i + a) hp ht hS (by omega) ?_ ?_
  · rw [List.take_succ_cons, canK_cons]
    exact ⟨i, by omega, h1, by rw [Nat.add_sub_cancel_left]; exact h2⟩
  · rw [List.drop_succ_cons]
    have : k - (i + a) - j = k - i - a - j := by omega
    rw [this]; exact h3
/-- how many nodes a node leads to -/
def reachN (T : Nat → Nat → Bool) (size u : Nat) : Nat := ((List.range size).filter fun v => T u v).length
/-- a table of truth values as edges -/
def edg (size : Nat) (F : Nat → Nat → Bool) : List (Nat × Nat) := (List.range size).flatMap fun i => ((List.range size).filter fun j => F i j).map fun j => (i, j)
theorem edg_mem {size : Nat} {F : Nat → Nat → Bool} {i j : Nat} : (i, j) ∈ edg size F ↔ i < size ∧ j < size ∧ F i j = true := by
  unfold edg
  rw [List.mem_flatMap]
  constructor
  · rintro ⟨a, ha, h⟩
    obtain ⟨b, hb, e⟩ := List.mem_map.1 h
    cases e
    rw [List.mem_filter] at hb
    exact ⟨List.mem_range.1 ha, List.mem_range.1 hb.1, hb.2⟩
  · rintro ⟨h1, h2, h3⟩
    exact ⟨i, List.mem_range.2 h1, List.mem_map.2 ⟨j, List.mem_filter.2 ⟨List.mem_range.2 h2, h3⟩, rfl⟩⟩
theorem fw_zero {size : Nat} {F : Nat → Nat → Bool} {i j : Nat} (hi : i < size) (hj : j < size) : fw (edg size F) 0 i j = F i j := by
  rw [fw, Bool.eq_iff_iff, decide_eq_true_iff, edg_mem]
  exact ⟨fun h => h.2.2, fun h => ⟨hi, hj, h⟩⟩
/-- a node from which counting ends, in so many steps -/
def okK (T M : Nat → Nat → Bool) (n size f A k : Nat) : Prop := M A k = true ∨ reachN T size (A * (n + 1) + k) < f
section
variable {rules : List Rule} {S M T : Nat → Nat → Bool} {N n size : Nat} {cap many : Int}
theorem okK.mono {f f' A k : Nat} (h : okK T M n size f A k) (hf : f ≤ f') : okK T M n size f' A k := h.imp id fun h => by omega
end
end Cs
end Go.Proofs.YthnkgmlhpefldaaDoor
