/- Own small laws: a slice value that reads as a list of one-cell values. -/
import Derived.WalkKit
import Derived.ProofKit
import Derived.Below
import Derived.Deep.Slices
namespace Go.Proofs.Ytgpikophndbmeaa
open Go.RowKit

/-- the slice value v reads, in w, as the list L of values of one cell each -/
def Sl (w : World) (v : Value) (L : List Value) : Prop :=
  ∃ a cap, v = .slice a L.length cap ∧ L.length ≤ cap ∧ cap ≤ maxLen ∧ (a = none → cap = 0) ∧ ∀ i (h : i < L.length), ∃ x, a = some x ∧ w.cell? (x.add i) = some L[i]

theorem Sl.cases {w : World} {v : Value} {L : List Value} (h : Sl w v L) :
    (L = [] ∧ ∃ a cap, v = .slice a 0 cap ∧ cap ≤ maxLen ∧ (a = none → cap = 0)) ∨
    ∃ b off cap, v = .slice (some ⟨b, off, none⟩) L.length cap ∧ 0 < L.length ∧ L.length ≤ cap ∧ cap ≤ maxLen ∧ ∀ i (h : i < L.length), w.cell? ⟨b, off + i, none⟩ = some L[i] := by
  obtain ⟨a, cap, rfl, hl, hc, hn, hx⟩ := h
  rcases Nat.eq_zero_or_pos L.length with h0 | h0
  · left
    obtain rfl := List.eq_nil_of_length_eq_zero h0
    exact ⟨rfl, a, cap, rfl, hc, hn⟩
  · right
    obtain ⟨⟨b, off, spot⟩, rfl, h1⟩ := hx 0 h0
    have hs : spot = none := by simpa [Addr.add] using World.cell?_spot h1
    subst hs
    refine ⟨b, off, cap, rfl, h0, hl, hc, fun i hi => ?_⟩
    obtain ⟨y, hy, h2⟩ := hx i hi
    cases hy
    rw [← h2]
    congr 1
    unfold Addr.add
    by_cases e : i = 0 <;> simp [e]

theorem nameIt {α : Type} (a : α) : ∃ x, Hid (a = x) := ⟨a, rfl⟩

theorem lt_of_cell {w : World} {x : Addr} {v : Value} (h : w.cell? x = some v) : x.block < w.heap.size := by
  unfold World.cell? at h
  split at h
  · rename_i e
    exact (Array.getElem?_eq_some_iff.1 e).1
  · cases h

theorem add_block (x : Addr) (i : Nat) : (x.add i).block = x.block := by
  unfold Addr.add
  by_cases e : i = 0 <;> simp [e]

/-- what was there when a call began reads behind it as before -/
theorem Sl.keep {w w' : World} {v : Value} {L : List Value} (h : Sl w v L) (hb : Below w.heap.size w w') : Sl w' v L := by
  obtain ⟨a, cap, rfl, hl, hc, hn, hx⟩ := h
  refine ⟨a, cap, rfl, hl, hc, hn, fun i hi => ?_⟩
  obtain ⟨x, rfl, h1⟩ := hx i hi
  exact ⟨x, rfl, by rw [← h1]; exact hb.cell (lt_of_cell h1)⟩

/-- at an index inside, the address is known -/
theorem Sl.at {w : World} {a : Option Addr} {n cap : Nat} {L : List Value} (h : Sl w (.slice a n cap) L) {k : Nat} (hk : k < n) :
    ∃ b off, a = some ⟨b, off, none⟩ ∧ ∀ i (h : i < L.length), w.cell? ⟨b, off + i, none⟩ = some L[i] := by
  rcases h.cases with ⟨_, a', c', e, _⟩ | ⟨b, off, c', e, _, _, _, hx⟩
  · cases e; omega
  · cases e; exact ⟨b, off, rfl, hx⟩

theorem Sl.len {w : World} {a : Option Addr} {n cap : Nat} {L : List Value} (h : Sl w (.slice a n cap) L) : n = L.length ∧ n ≤ cap ∧ cap ≤ maxLen := by
  obtain ⟨a', c', e, hl, hc, _, _⟩ := h
  cases e; exact ⟨rfl, hl, hc⟩

theorem Sl.form {w : World} {v : Value} {L : List Value} (h : Sl w v L) : ∃ a cap, v = .slice a L.length cap := by
  obtain ⟨a', c', e, _⟩ := h; exact ⟨a', c', e⟩

/-- a row of the call's own, of one cell an element, reads as a slice -/
theorem sl_of_own {w : World} {B : Nat} {e : TypeId} {v : Value} {n : Nat} {xs : List Value} (h : w.ownsRow B e 1 v n xs) : Sl w v xs := by
  obtain ⟨hl, h⟩ := h
  rw [Nat.mul_one] at hl
  rcases h with ⟨rfl, rfl⟩ | ⟨g, cap, cur, rfl, hg, hh, hn, hc, hs, ht⟩
  · obtain rfl := List.eq_nil_of_length_eq_zero hl
    exact ⟨none, 0, rfl, by simp, by simp, fun _ => rfl, fun i hi => by simp at hi⟩
  · subst hl
    refine ⟨_, cap, rfl, hn, hc, (fun h => by cases h), fun i hi => ⟨_, rfl, ?_⟩⟩
    have : (⟨g, 0, none⟩ : Addr).add i = ⟨g, i, none⟩ := by unfold Addr.add; by_cases e : i = 0 <;> simp [e]
    rw [this]
    simp only [World.cell?, hh]
    rw [Nat.mul_one] at ht
    have h2 : xs[i]? = cur[i]? := by
      conv => lhs; rw [← ht]
      rw [List.getElem?_take, if_pos hi]; simp
    rw [List.getElem?_eq_getElem hi] at h2
    simpa using h2.symm

/-- what a program's table says of a slice type and its elements' type -/
structure ElemT (P : Program) (t e : TypeId) (size bytes : Nat) : Prop where
  und : P.underlying t = some (.slice e)
  info : ∃ (i : TypeInfo) (z : Value), P.info? e = some i ∧ i.zero = some z ∧ i.size = size ∧ i.bytes = bytes ∧ z.cells.size = size
  pos : 0 < size

theorem ElemT.mk' {P : Program} {t e : TypeId} {size bytes : Nat} {z : Value} (h : P.underlying t = some (.slice e)) (hi : (P.info? e).map (fun i => (i.zero, i.size, i.bytes)) = some (some z, size, bytes)) (hz : z.cells.size = size) (hp : 0 < size) : ElemT P t e size bytes := by
  obtain ⟨i, h1, h2, h3, h4⟩ := info_parts hi
  exact ⟨h, ⟨i, z, h1, h2, h3, h4, hz⟩, hp⟩

/-- append of one element, to a row of the call's own -/
theorem wp_app1 {P : Program} {ops : Array Oper} {rest : List Oper} {o : Oper} {a : Act} {Q : Exit → Act → World → Prop} {w0 : World} {t e : TypeId} {size bytes : Nat} (E : ElemT P t e size bytes)
    (hgd : o.guard = none) (s x : Operand) (ho : o.op = .call { callee := .builtin .append, args := #[s, x], argTypes := #[t, t] })
    {B : Nat} {v : Value} {n : Nat} {xs : List Value} {news : Array Value} (hown : w0.ownsRow B e size v n xs) (hs : a.eval s = v) (hx : a.eval x = .slice (some ⟨w0.heap.size, 0, none⟩) 1 1)
    (hn : news.size = size) (h1 : news.toList.all Value.oneCell' = true) (hb : (n + 1) * bytes ≤ 140737488355328) (hm : n + 1 ≤ maxLen) (hB : B ≤ w0.heap.size)
    (h : ∀ v' w', w'.ownsRow B e size v' (n + 1) (xs ++ news.toList) → w0.grownBy w' v.ownBlock → wpList P ops Q rest (a.put o.dst v') w') :
    wpList P ops Q (o :: rest) a (w0.alloc (.cells news e)) := by
  obtain ⟨hu, ⟨i, z, hi, hz, hsz, hby, hzs⟩, hp⟩ := E
  refine wpList_append_own (w0.alloc (.cells news e)) hgd s x t ho B e i z size bytes hu hi hz hsz hby hzs hp v n xs hs (hown.alloc _) ⟨w0.heap.size, 0, none⟩ 1 1 news.toList hx (by simp [hn]) ?_ (List.all_eq_true.1 h1) hm hb (by simp; omega) ?_
  · intro j u hj
    have : (⟨w0.heap.size, 0, none⟩ : Addr).add j = ⟨w0.heap.size, j, none⟩ := by unfold Addr.add; by_cases e : j = 0 <;> simp [e]
    rw [this]
    have hh : (w0.alloc (.cells news e)).heap[w0.heap.size]? = some (.cells news e (0, 0)) := heap_alloc_new w0 _
    simp only [World.cell?, hh]
    simpa using hj
  · intro v' w' h2 h3 _
    refine h v' w' h2 ?_
    have h4 := World.grownBy_alloc w0 (.cells news e) v.ownBlock
    exact ⟨h3.os.trans h4.os, h3.tape.trans h4.tape, h3.output.trans h4.output, Nat.le_trans h4.size h3.size, fun k hk hne => (h3.block k (Nat.lt_of_lt_of_le hk h4.size) hne).trans (h4.block k hk hne)⟩

section
open Go.ChangeShapes Go.WideShapes Go.Deep
variable {H : Type} {enc : TypeId × Value → H} {P : Program} {w : World}

/-- a slice argument whose elements are one cell each, opened -/
theorem open_sl {α : Type} [Inhabited α] {t e : TypeId} {v : Value} {d : DataW H} {p : List MemPlace} (f : α → Value) (g : α → DataW H) (ok : α → Prop)
    (ht : P.underlying t = some (.slice e)) (hc : P.cellsOf e = 1)
    (hel : ∀ x y pl n, DataW.trod enc P w 0 (fun _ => true) true n e [x] = some (y, pl) → ∃ z, x = f z ∧ y = g z ∧ ok z)
    (h : DataW.Trod enc P w 0 (fun _ => true) true t v d p) (hv : v.cells.toList = [v]) :
    ∃ xs : List α, Sl w v (xs.map f) ∧ (∀ x ∈ xs, ok x) ∧ ((d = .nil ∧ xs = []) ∨ ∃ sp, d = .slice (xs.map g) sp) := by
  obtain ⟨fuel, hf⟩ := h
  rw [hv] at hf
  rcases open_slice1 ht hc hf with ⟨hcs, hx⟩ | ⟨a, len, cap, m, n, V, D, Pl, hcs, _, hl, hm, hmm, hx, hel'⟩
  · simp at hcs
    subst hcs
    simp at hx
    exact ⟨[], ⟨none, 0, rfl, by simp, by simp, fun _ => rfl, fun i hi => by simp at hi⟩, by simp, .inl ⟨hx.1, rfl⟩⟩
  · simp at hcs
    subst hcs
    simp at hmm
    subst hmm
    simp at hx
    obtain ⟨Z, hZ⟩ := choose_lt (α := α) (n := m) (p := fun i z => V i = f z ∧ D i = g z ∧ ok z) (fun i hi => hel _ _ _ _ (hel' i hi).2)
    refine ⟨(List.range len).map Z, ⟨some a, m, by simp, by simpa using hl, hm, (fun h => by cases h), fun i hi => ⟨a, rfl, ?_⟩⟩, ?_, .inr ⟨(List.range (m - len)).map fun j => D (len + j), ?_⟩⟩
    · simp at hi
      rw [(hel' i (by omega)).1, (hZ i (by omega)).1]
      simp
    · intro x hx
      simp at hx
      obtain ⟨i, hi, rfl⟩ := hx
      exact (hZ i (by omega)).2.2
    · rw [hx.1]
      congr 1
      rw [List.map_map]
      refine List.map_congr_left fun i hi => ?_
      simp at hi
      exact (hZ i (by omega)).2.1

theorem el_bool {e : TypeId} (he : P.underlying e = some .bool) : ∀ (x : Value) (y : DataW H) (pl : List MemPlace) (n : Nat), DataW.trod enc P w 0 (fun _ => true) true n e [x] = some (y, pl) → ∃ z : Bool, x = .bool z ∧ y = .lit (.bool z) ∧ True := by
  intro x y pl n h
  obtain ⟨z, h1, h2⟩ := DataW.trod_bool he h
  simp at h1 h2
  exact ⟨z, h1, h2.1, trivial⟩

theorem el_int {e : TypeId} (he : P.underlying e = some (.int .i64)) : ∀ (x : Value) (y : DataW H) (pl : List MemPlace) (n : Nat), DataW.trod enc P w 0 (fun _ => true) true n e [x] = some (y, pl) → ∃ z : Int, x = .int .i64 z ∧ y = .lit (.int .i64 z) ∧ (Lit.int .i64 z).wf = true := by
  intro x y pl n h
  obtain ⟨z, h1, h2, h3⟩ := DataW.trod_int he h
  simp at h1 h2
  exact ⟨z, h1, h2.1, h3⟩
end

end Go.Proofs.Ytgpikophndbmeaa
