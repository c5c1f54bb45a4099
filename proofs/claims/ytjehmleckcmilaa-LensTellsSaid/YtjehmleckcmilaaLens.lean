/- lens.Set: what its rounds keep. -/
import Derived.Test.YtjehmleckcmilaaLensP
import Derived.Test.YtjehmleckcmilaaDerives
import Derived.Test.YtjehmleckcmilaaCheckE
namespace Go.Proofs.Ytjehmleckcmilaa
open Go.RowKit
namespace Ln

/-- a row of truth values -/
def Brow (g m : Nat) (A : Nat → Bool) (wr : World) : Prop := ∃ cs, wr.heap[g]? = some (.cells cs 4 (0, 0)) ∧ cs.size = m ∧ ∀ k, k < m → cs[k]? = some (.bool (A k))
section
variable {g m : Nat} {A A' : Nat → Bool} {wr w' : World}
theorem Brow.lt (h : Brow g m A wr) : g < wr.heap.size := by obtain ⟨cs, h1, _⟩ := h; exact (Array.getElem?_eq_some_iff.1 h1).1
theorem Brow.keep (h : Brow g m A wr) (hb : Below wr.heap.size wr w') : Brow g m A w' := by obtain ⟨cs, h1, h2⟩ := h; exact ⟨cs, bx_keep h1 hb, h2⟩
theorem Brow.cell (h : Brow g m A wr) {k : Nat} (hk : k < m) : wr.cell? ⟨g, k, none⟩ = some (.bool (A k)) := by obtain ⟨cs, h1, h2, h3⟩ := h; simp [World.cell?, h1, h3 k hk]
theorem Brow.free (h : Brow g m A wr) (k : Nat) : wr.frozen? ⟨g, k, none⟩ = false := by obtain ⟨cs, h1, h2, h3⟩ := h; simp [World.frozen?, h1]
theorem Brow.eq (h : Brow g m A wr) (he : ∀ k, k < m → A k = A' k) : Brow g m A' wr := by obtain ⟨cs, h1, h2, h3⟩ := h; exact ⟨cs, h1, h2, fun k hk => by rw [h3 k hk, he k hk]⟩
theorem Brow.set (h : Brow g m A wr) {j : Nat} (hj : j < m) (he : ∀ k, k < m → A' k = if k = j then true else A k) : Brow g m A' (wr.setCell ⟨g, j, none⟩ (.bool true)) := by
  obtain ⟨cs, h1, h2, h3⟩ := h
  refine ⟨cs.setIfInBounds j (.bool true), bx_set h1 _ _, by simpa using h2, fun k hk => ?_⟩
  rw [Array.getElem?_setIfInBounds, he k hk]
  by_cases e : j = k
  · subst e; rw [if_pos rfl, if_pos (by omega)]; simp
  · rw [if_neg e, h3 k hk, if_neg (fun h => e h.symm)]
theorem Brow.other (h : Brow g m A wr) {b : Nat} (hne : g ≠ b) (j : Nat) (v : Value) : Brow g m A (wr.setCell ⟨b, j, none⟩ v) := by obtain ⟨cs, h1, h2⟩ := h; exact ⟨cs, bx_other h1 hne _ _, h2⟩
theorem brow_new (w : World) (m : Nat) {g : Nat} (hg : g = w.heap.size) : Brow g m (fun _ => false) (w.alloc (.cells (madeCells #[.bool false] m) 4)) := by
  subst hg
  exact ⟨_, bx_new _ _ _ rfl, size_madeCells _ _, fun k hk => made_at _ _ _ hk⟩
end
/-- the table, and the box of the grammar -/
structure LI (w : World) (bt N m : Nat) (G : Array Value) (rb : Nat → Nat) (hi : Nat) (H : Nat → Nat → Bool) (wr : World) : Prop where
  tab : Grd 78 4 (w.heap.size + 1) bt N m hi rb (fun i j => .bool (H i j)) wr
  bel : Below w.heap.size w wr
  box : wr.heap[w.heap.size]? = some (.cells G 77 (0, 0))
section
variable {w : World} {bt N m : Nat} {G : Array Value} {rb : Nat → Nat} {hi : Nat} {H H' : Nat → Nat → Bool} {wr w' : World}
theorem LI.keep (h : LI w bt N m G rb hi H wr) (hb : Below wr.heap.size wr w') : LI w bt N m G rb hi H w' := ⟨h.tab.keep hb, h.bel.trans (hb.mono h.bel.size), bx_keep h.box hb⟩
theorem LI.set (h : LI w bt N m G rb N H wr) {i j : Nat} (hi : i < N) (hj : j < m) (he : ∀ a b, a < N → b < m → H' a b = if a = i ∧ b = j then true else H a b) : LI w bt N m G rb N H' (wr.setCell ⟨rb i, j, none⟩ (.bool true)) := by
  have hne := (h.tab.ne i hi hi).2
  refine ⟨(h.tab.set hi hi hj (.bool true)).eq (fun a b _ ha hb => ?_), h.bel.setCell (by show w.heap.size ≤ rb i; omega) _, bx_other h.box (by show w.heap.size ≠ rb i; omega) _ _⟩
  rw [he a b ha hb]
  split <;> rfl
/-- a store into a block of its own, beside the table -/
theorem LI.beside (h : LI w bt N m G rb N H wr) {b : Nat} (hb : w.heap.size < b) (hbt : b ≠ bt) (hrb : ∀ i, i < N → b ≠ rb i) (j : Nat) (v : Value) : LI w bt N m G rb N H (wr.setCell ⟨b, j, none⟩ v) := by
  refine ⟨h.tab.grown (row := some b) ⟨rfl, rfl, rfl, by simp [World.setCell], fun k _ hn => Below.heap_setCell _ _ _ _ (fun e => hn (by rw [e]))⟩ (fun k e => by cases e; exact ⟨hbt, fun i _ hi e => hrb i hi e.symm⟩), h.bel.setCell (by show w.heap.size ≤ b; omega) _, bx_other h.box (by show w.heap.size ≠ b; omega) _ _⟩
end
/-- one symbol more, in the midst: the first i places are done, and of the next one the first j lengths -/
def midN (H : Nat → Nat → Bool) (n : Nat) (s : Sym) (A : Nat → Bool) (i j m : Nat) : Bool := decide (m ≤ n) && (List.range (m + 1)).any fun k => (decide (k < i) || (decide (k = i) && decide (m < i + j))) && A k && stB H s (m - k)
theorem midN_iff {H : Nat → Nat → Bool} {n : Nat} {s : Sym} {A : Nat → Bool} {i j m : Nat} : midN H n s A i j m = true ↔ m ≤ n ∧ ∃ k l, k + l = m ∧ (k < i ∨ (k = i ∧ l < j)) ∧ A k = true ∧ stB H s l = true := by
  unfold midN
  simp only [Bool.and_eq_true, Bool.or_eq_true, decide_eq_true_eq, List.any_eq_true, List.mem_range]
  constructor
  · rintro ⟨h1, k, hk, ⟨h2, h3⟩, h4⟩
    exact ⟨h1, k, m - k, by omega, by omega, h3, h4⟩
  · rintro ⟨h1, k, l, h2, h3, h4, h5⟩
    exact ⟨h1, k, by omega, ⟨by omega, h4⟩, by rw [show m - k = l by omega]; exact h5⟩
theorem midN_start (H : Nat → Nat → Bool) (n : Nat) (s : Sym) (A : Nat → Bool) (m : Nat) : midN H n s A 0 0 m = false := by
  rw [← Bool.not_eq_true, midN_iff]
  rintro ⟨_, k, l, _, h, _⟩
  omega
theorem midN_step {H : Nat → Nat → Bool} {n : Nat} {s : Sym} {A : Nat → Bool} {i j : Nat} (hA : A i = true) (hij : i + j ≤ n) (m : Nat) : midN H n s A i (j + 1) m = if stB H s j = true ∧ m = i + j then true else midN H n s A i j m := by
  by_cases h : stB H s j = true ∧ m = i + j
  · rw [if_pos h, midN_iff]
    exact ⟨by omega, i, j, by omega, by omega, hA, h.1⟩
  · rw [if_neg h, Bool.eq_iff_iff, midN_iff, midN_iff]
    constructor
    · rintro ⟨h1, k, l, h2, h3, h4, h5⟩
      refine ⟨h1, k, l, h2, ?_, h4, h5⟩
      by_cases e : k = i ∧ l = j
      · obtain ⟨rfl, rfl⟩ := e
        exact absurd ⟨h5, h2.symm⟩ h
      · omega
    · rintro ⟨h1, k, l, h2, h3, h4, h5⟩
      exact ⟨h1, k, l, h2, by omega, h4, h5⟩
theorem midN_row {H : Nat → Nat → Bool} {n : Nat} {s : Sym} {A : Nat → Bool} {i j : Nat} (h : A i = false ∨ n < i + j) (m : Nat) : midN H n s A i j m = midN H n s A (i + 1) 0 m := by
  rw [Bool.eq_iff_iff, midN_iff, midN_iff]
  constructor
  · rintro ⟨h1, k, l, h2, h3, h4, h5⟩
    exact ⟨h1, k, l, h2, by omega, h4, h5⟩
  · rintro ⟨h1, k, l, h2, h3, h4, h5⟩
    refine ⟨h1, k, l, h2, ?_, h4, h5⟩
    by_cases e : k = i
    · subst e
      rcases h with h | h
      · rw [h] at h4; cases h4
      · right; exact ⟨rfl, by omega⟩
    · left; omega
theorem midN_end {H : Nat → Nat → Bool} {n : Nat} {s : Sym} {A : Nat → Bool} {i : Nat} (h : n < i) (m : Nat) : midN H n s A i 0 m = nxt H n s A m := by
  rw [Bool.eq_iff_iff, midN_iff, nxt_iff]
  constructor
  · rintro ⟨h1, k, l, h2, h3, h4, h5⟩
    exact ⟨h1, k, l, h2, h4, h5⟩
  · rintro ⟨h1, k, l, h2, h4, h5⟩
    exact ⟨h1, k, l, h2, by omega, h4, h5⟩
/-- how many cells of the table are true -/
def cells (N m : Nat) : List (Nat × Nat) := (List.range N).flatMap fun a => (List.range m).map fun b => (a, b)
def trues (N m : Nat) (H : Nat → Nat → Bool) : Nat := ((cells N m).filter fun p => H p.1 p.2).length
theorem mem_cells {N m a b : Nat} : (a, b) ∈ cells N m ↔ a < N ∧ b < m := by
  unfold cells
  simp [List.mem_flatMap]
theorem trues_le (N m : Nat) (H : Nat → Nat → Bool) : trues N m H ≤ N * m := by
  refine Nat.le_trans (List.length_filter_le _ _) ?_
  unfold cells
  induction N with
  | zero => simp
  | succ N ih => rw [List.range_succ, List.flatMap_append, List.length_append]; simp [Nat.add_mul] at ih ⊢; omega
theorem filter_more {α : Type} {l : List α} {U V : α → Bool} (h : ∀ x ∈ l, U x = true → V x = true) : (l.filter U).length ≤ (l.filter V).length ∧ (∀ x ∈ l, V x = true → U x = false → (l.filter U).length < (l.filter V).length) := by
  induction l with
  | nil => simp
  | cons a l ih =>
    obtain ⟨h1, h2⟩ := ih fun x hx => h x (List.mem_cons_of_mem _ hx)
    have ha := h a List.mem_cons_self
    simp only [List.filter_cons]
    constructor
    · cases hu : U a <;> cases hv : V a <;> simp_all <;> omega
    · intro x hx hv hu
      rcases List.mem_cons.1 hx with rfl | hx
      · rw [hu, hv]; simp; omega
      · have := h2 x hx hv hu
        cases hu' : U a <;> cases hv' : V a <;> simp_all <;> omega
theorem trues_more {N m : Nat} {H H' : Nat → Nat → Bool} {i j : Nat} (hi : i < N) (hj : j < m) (hn : H i j = false) (he : ∀ a b, H' a b = if a = i ∧ b = j then true else H a b) : trues N m H < trues N m H' := by
  refine (filter_more (l := cells N m) (U := fun p => H p.1 p.2) (V := fun p => H' p.1 p.2) (fun p _ h => ?_)).2 (i, j) (mem_cells.2 ⟨hi, hj⟩) ?_ hn
  · rw [he]; split
    · rfl
    · exact h
  · simp [he]
end Ln
end Go.Proofs.Ytjehmleckcmilaa
