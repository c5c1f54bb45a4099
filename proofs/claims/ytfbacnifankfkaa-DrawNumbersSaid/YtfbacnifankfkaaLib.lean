/- Own small laws: a slice value that reads as a list of one-cell values. -/
import Derived.WalkKit
import Derived.ProofKit
import Derived.Below
import Derived.Deep.Slices
namespace Go.Proofs.Ytfbacnifankfkaa
open Go.RowKit

/-- the slice value v reads, in w, as the list L of values of one cell each -/
def Sl (w : World) (v : Value) (L : List Value) : Prop :=
  ∃ a cap, v = .slice a L.length cap ∧ L.length ≤ cap ∧ cap ≤ maxLen ∧ ∀ i (h : i < L.length), ∃ x, a = some x ∧ w.cell? (x.add i) = some L[i]

theorem Sl.cases {w : World} {v : Value} {L : List Value} (h : Sl w v L) :
    (L = [] ∧ ∃ a cap, v = .slice a 0 cap ∧ cap ≤ maxLen) ∨
    ∃ b off cap, v = .slice (some ⟨b, off, none⟩) L.length cap ∧ 0 < L.length ∧ L.length ≤ cap ∧ cap ≤ maxLen ∧ ∀ i (h : i < L.length), w.cell? ⟨b, off + i, none⟩ = some L[i] := by
  obtain ⟨a, cap, rfl, hl, hc, hx⟩ := h
  rcases Nat.eq_zero_or_pos L.length with h0 | h0
  · left
    obtain rfl := List.eq_nil_of_length_eq_zero h0
    exact ⟨rfl, a, cap, rfl, hc⟩
  · right
    obtain ⟨⟨b, off, spot⟩, rfl, h1⟩ := hx 0 h0
    have hs : spot = none := by simpa [Addr.add] using World.cell?_spot h1
    subst hs
    refine ⟨b, off, cap, rfl, h0, hl, hc, fun i hi => ?_⟩
    obtain ⟨y, hy, h2⟩ := hx i hi
    cases hy
    rw [← h2]
    congr 1
    unfold Addr.add
    by_cases e : i = 0 <;> simp [e]

theorem lt_of_cell {w : World} {x : Addr} {v : Value} (h : w.cell? x = some v) : x.block < w.heap.size := by
  unfold World.cell? at h
  split at h
  · rename_i e
    exact (Array.getElem?_eq_some_iff.1 e).1
  · cases h

theorem add_block (x : Addr) (i : Nat) : (x.add i).block = x.block := by
  unfold Addr.add
  by_cases e : i = 0 <;> simp [e]

/-- what was there when a call began reads behind it as before -/
theorem Sl.keep {w w' : World} {v : Value} {L : List Value} (h : Sl w v L) (hb : Below w.heap.size w w') : Sl w' v L := by
  obtain ⟨a, cap, rfl, hl, hc, hx⟩ := h
  refine ⟨a, cap, rfl, hl, hc, fun i hi => ?_⟩
  obtain ⟨x, rfl, h1⟩ := hx i hi
  exact ⟨x, rfl, by rw [← h1]; exact hb.cell (lt_of_cell h1)⟩

section
open Go.ChangeShapes Go.WideShapes Go.Deep
variable {H : Type} {enc : TypeId × Value → H} {P : Program} {w : World}

/-- a slice argument whose elements are one cell each, opened -/
theorem open_sl {α : Type} [Inhabited α] {t e : TypeId} {v : Value} {d : DataW H} {p : List MemPlace} (f : α → Value) (g : α → DataW H) (ok : α → Prop)
    (ht : P.underlying t = some (.slice e)) (hc : P.cellsOf e = 1)
    (hel : ∀ x y pl n, DataW.trod enc P w 0 (fun _ => true) true n e [x] = some (y, pl) → ∃ z, x = f z ∧ y = g z ∧ ok z)
    (h : DataW.Trod enc P w 0 (fun _ => true) true t v d p) (hv : v.cells.toList = [v]) :
    ∃ xs : List α, Sl w v (xs.map f) ∧ (∀ x ∈ xs, ok x) ∧ ((d = .nil ∧ xs = []) ∨ ∃ sp, d = .slice (xs.map g) sp) := by
  obtain ⟨fuel, hf⟩ := h
  rw [hv] at hf
  rcases open_slice1 ht hc hf with ⟨hcs, hx⟩ | ⟨a, len, cap, m, n, V, D, Pl, hcs, _, hl, hm, hmm, hx, hel'⟩
  · simp at hcs
    subst hcs
    simp at hx
    exact ⟨[], ⟨none, 0, rfl, by simp, by simp, fun i hi => by simp at hi⟩, by simp, .inl ⟨hx.1, rfl⟩⟩
  · simp at hcs
    subst hcs
    simp at hmm
    subst hmm
    simp at hx
    obtain ⟨Z, hZ⟩ := choose_lt (α := α) (n := m) (p := fun i z => V i = f z ∧ D i = g z ∧ ok z) (fun i hi => hel _ _ _ _ (hel' i hi).2)
    refine ⟨(List.range len).map Z, ⟨some a, m, by simp, by simpa using hl, hm, fun i hi => ⟨a, rfl, ?_⟩⟩, ?_, .inr ⟨(List.range (m - len)).map fun j => D (len + j), ?_⟩⟩
    · simp at hi
      rw [(hel' i (by omega)).1, (hZ i (by omega)).1]
      simp
    · intro x hx
      simp at hx
      obtain ⟨i, hi, rfl⟩ := hx
      exact (hZ i (by omega)).2.2
    · rw [hx.1]
      congr 1
      rw [List.map_map]
      refine List.map_congr_left fun i hi => ?_
      simp at hi
      exact (hZ i (by omega)).2.1

theorem el_bool {e : TypeId} (he : P.underlying e = some .bool) : ∀ (x : Value) (y : DataW H) (pl : List MemPlace) (n : Nat), DataW.trod enc P w 0 (fun _ => true) true n e [x] = some (y, pl) → ∃ z : Bool, x = .bool z ∧ y = .lit (.bool z) ∧ True := by
  intro x y pl n h
  obtain ⟨z, h1, h2⟩ := DataW.trod_bool he h
  simp at h1 h2
  exact ⟨z, h1, h2.1, trivial⟩

theorem el_int {e : TypeId} (he : P.underlying e = some (.int .i64)) : ∀ (x : Value) (y : DataW H) (pl : List MemPlace) (n : Nat), DataW.trod enc P w 0 (fun _ => true) true n e [x] = some (y, pl) → ∃ z : Int, x = .int .i64 z ∧ y = .lit (.int .i64 z) ∧ (Lit.int .i64 z).wf = true := by
  intro x y pl n h
  obtain ⟨z, h1, h2, h3⟩ := DataW.trod_int he h
  simp at h1 h2
  exact ⟨z, h1, h2.1, h3⟩
end

end Go.Proofs.Ytfbacnifankfkaa
