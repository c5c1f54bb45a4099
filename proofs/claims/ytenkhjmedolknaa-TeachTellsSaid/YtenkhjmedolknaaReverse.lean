/- slices.Reverse of a row of ints of the call's own (the kit's contract). -/
import Derived.Test.YtenkhjmedolknaaLibTwo
import Derived.Test.YtenkhjmedolknaaSlices
import Derived.Deep.AppendLies
import Derived.Ground.NamesProg
import Derived.Shelf.Lay
import Derived.Shelf.Slices.Cells
namespace Go.Proofs.Ytenkhjmedolknaa
open Go.RowKit Go.Shelf
shelf_lay Lays.n112 Nm 112 at Try as Try.laysRev

theorem own_setCells {B : Nat} {e : TypeId} {g n cap : Nat} : ∀ (vs : List Value) (j : Nat) (w : World) (xs : List Value), w.ownsRow B e 1 (.slice (some ⟨g, 0, none⟩) n cap) n xs → j + vs.length ≤ n →
    (w.setCells g j vs).ownsRow B e 1 (.slice (some ⟨g, 0, none⟩) n cap) n (xs.take j ++ vs ++ xs.drop (j + vs.length))
  | [], j, w, xs, h, _ => by simpa [World.setCells] using h
  | v :: vs, j, w, xs, h, hj => by
    simp only [List.length_cons] at hj
    have hl : xs.length = n := by have := h.1; omega
    have h1 := (h.stored j v).1
    have h2 := own_setCells vs (j + 1) _ _ h1 (by omega)
    have e : (xs.set j v).take (j + 1) ++ vs ++ (xs.set j v).drop (j + 1 + vs.length) = xs.take j ++ v :: vs ++ xs.drop (j + (v :: vs).length) := by
      rw [List.drop_set_of_lt (by omega), List.take_set, List.take_succ_eq_append_getElem (by omega), List.set_append_right _ _ (by rw [List.length_take]; omega), List.length_take, Nat.min_eq_left (by omega), Nat.sub_self]
      simp only [List.set_cons_zero, List.length_cons]
      rw [show j + 1 + vs.length = j + (vs.length + 1) by omega]
      simp
    rw [e] at h2
    exact h2
def RevPost (B : Nat) (l : List Int) (v : Value) (w : World) (e : Ending) (w' : World) : Prop := e = .returned (.tuple #[]) ∧ w'.ownsRow B 3 1 v l.length (ints l.reverse) ∧ w.grownBy w' v.ownBlock
theorem reverseE (B : Nat) (l : List Int) (a : Option Addr) (cap : Nat) (w : World) (h : w.ownsRow B 3 1 (.slice a l.length cap) l.length (ints l)) :
    Calls Try.prog 33 #[.slice a l.length cap] w (RevPost B l (.slice a l.length cap) w) := by
  rcases Nat.eq_zero_or_pos l.length with h0 | h0
  · have : l = [] := List.eq_nil_of_length_eq_zero h0
    subst this
    refine (Any.slices_Reverse_int_empty Try.laysRev a cap w).mono ?_
    rintro e w' ⟨rfl, rfl⟩
    exact ⟨rfl, h, ⟨rfl, rfl, rfl, Nat.le_refl _, fun _ _ _ => rfl⟩⟩
  · obtain ⟨g, cap', e, hg1, hg2⟩ := h.form h0
    cases e
    obtain ⟨a', c', e', h1, h2⟩ := own_len h
    have hcell : ∀ j, j < l.length → w.cell? ⟨g, 0 + j, none⟩ = some (.int .i64 (l.getD j 0)) := fun j hj => by
      rw [Nat.zero_add, h.cellAt j (by omega)]
      unfold ints
      rw [List.getElem?_map, List.getElem?_eq_getElem hj, List.getD_eq_getElem?_getD, List.getElem?_eq_getElem hj]; rfl
    refine (Any.slices_Reverse_int_cells Try.laysRev g 0 l.length cap l w (Nat.le_refl _) (by cases e'; unfold maxLen at h2; omega) hcell (fun j _ => by rw [Nat.zero_add]; exact h.frozenAt j)).mono ?_
    rintro e w' ⟨rfl, q, rfl⟩
    rw [List.take_length]
    have hd : (w.drewN q).ownsRow B 3 1 (.slice (some ⟨g, 0, none⟩) l.length cap) l.length (ints l) := own_keep h (below_drewN w q)
    have := own_setCells (l.reverse.map (Value.int .i64)) 0 _ _ hd (by simp)
    rw [show (ints l).drop (0 + (l.reverse.map (Value.int .i64)).length) = [] from List.drop_of_length_le (by simp [ints])] at this
    refine ⟨rfl, ?_, grown_trans (grown_below (below_drewN w q) _) (grown_setCells g _ 0 _)⟩
    simpa [ints] using this
end Go.Proofs.Ytenkhjmedolknaa
