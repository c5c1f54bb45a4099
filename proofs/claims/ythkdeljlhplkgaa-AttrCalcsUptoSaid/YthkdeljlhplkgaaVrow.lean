/- A row of one-cell values in memory, written in place. -/
import Derived.Test.YthkdeljlhplkgaaLibTwo
import Derived.Deep.OwnRows
namespace Go.Proofs.Ythkdeljlhplkgaa
open Go.RowKit

theorem made_atV (z : Value) (n j : Nat) (h : j < n) : (madeCells #[z] n)[j]? = some z := by
  simp [madeCells, h, Nat.mod_one]
/-- the row in block g has m cells, A k at place k -/
def Vrow (e : TypeId) (g m : Nat) (A : Nat → Value) (wr : World) : Prop := ∃ cs, wr.heap[g]? = some (.cells cs e (0, 0)) ∧ cs.size = m ∧ ∀ k, k < m → cs[k]? = some (A k)
section
variable {e : TypeId} {g m : Nat} {A A' : Nat → Value} {wr w' : World}
theorem Vrow.lt (h : Vrow e g m A wr) : g < wr.heap.size := by obtain ⟨cs, h1, _⟩ := h; exact (Array.getElem?_eq_some_iff.1 h1).1
theorem Vrow.keep (h : Vrow e g m A wr) (hb : Below wr.heap.size wr w') : Vrow e g m A w' := by obtain ⟨cs, h1, h2⟩ := h; exact ⟨cs, bx_keep h1 hb, h2⟩
theorem Vrow.grown {row : Option Nat} (h : Vrow e g m A wr) (hg : wr.grownBy w' row) (hr : row ≠ some g) : Vrow e g m A w' := by obtain ⟨cs, h1, h2⟩ := h; exact ⟨cs, (hg.block g (Array.getElem?_eq_some_iff.1 h1).1 (fun e => hr e.symm)).trans h1, h2⟩
theorem Vrow.cell (h : Vrow e g m A wr) {k : Nat} (hk : k < m) : wr.cell? ⟨g, k, none⟩ = some (A k) := by obtain ⟨cs, h1, h2, h3⟩ := h; simp [World.cell?, h1, h3 k hk]
theorem Vrow.free (h : Vrow e g m A wr) (k : Nat) : wr.frozen? ⟨g, k, none⟩ = false := by obtain ⟨cs, h1, h2, h3⟩ := h; simp [World.frozen?, h1]
theorem Vrow.eq (h : Vrow e g m A wr) (he : ∀ k, k < m → A k = A' k) : Vrow e g m A' wr := by obtain ⟨cs, h1, h2, h3⟩ := h; exact ⟨cs, h1, h2, fun k hk => by rw [h3 k hk, he k hk]⟩
theorem Vrow.set (h : Vrow e g m A wr) {j : Nat} {x : Value} (hj : j < m) (he : ∀ k, k < m → A' k = if k = j then x else A k) : Vrow e g m A' (wr.setCell ⟨g, j, none⟩ x) := by
  obtain ⟨cs, h1, h2, h3⟩ := h
  refine ⟨cs.setIfInBounds j x, bx_set h1 _ _, by simpa using h2, fun k hk => ?_⟩
  rw [Array.getElem?_setIfInBounds, he k hk]
  by_cases e : j = k
  · subst e; rw [if_pos rfl, if_pos (by omega)]; simp
  · rw [if_neg e, h3 k hk, if_neg (fun h => e h.symm)]
theorem Vrow.other (h : Vrow e g m A wr) {b : Nat} (hne : g ≠ b) (j : Nat) (v : Value) : Vrow e g m A (wr.setCell ⟨b, j, none⟩ v) := by obtain ⟨cs, h1, h2⟩ := h; exact ⟨cs, bx_other h1 hne _ _, h2⟩
theorem vrow_new (w : World) (e : TypeId) (z : Value) (m : Nat) {g : Nat} (hg : g = w.heap.size) : Vrow e g m (fun _ => z) (w.alloc (.cells (madeCells #[z] m) e)) := by
  subst hg
  exact ⟨_, bx_new _ _ _ rfl, size_madeCells _ _, fun k hk => made_atV _ _ _ hk⟩
end
end Go.Proofs.Ythkdeljlhplkgaa
