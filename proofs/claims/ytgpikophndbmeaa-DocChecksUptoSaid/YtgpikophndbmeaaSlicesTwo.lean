/- Contracts of the library's generic functions over slices of ints: Clone, Grow of nil, Concat. -/
import Derived.Test.YtgpikophndbmeaaSlices
import Derived.Deep.Onto
namespace Go.Proofs.Ytgpikophndbmeaa
open Go.RowKit

theorem ints_one (l : List Int) : ∀ u ∈ ints l, u.oneCell' = true := by
  intro u hu; simp [ints] at hu; obtain ⟨x, _, rfl⟩ := hu; rfl

/-- what a function leaves that makes a new slice of ints -/
def NewInts (l : List Int) (w : World) (e : Ending) (w' : World) : Prop :=
  ∃ a cap, e = .returned (.slice a l.length cap) ∧ w'.ownsRow w.heap.size 3 1 (.slice a l.length cap) l.length (ints l) ∧ Below w.heap.size w w'

theorem newInts_of {l : List Int} {w w' : World} {v : Value} (h : w'.ownsRow w.heap.size 3 1 v l.length (ints l)) (hb : Below w.heap.size w w') : NewInts l w (.returned v) w' := by
  obtain ⟨a, cap, rfl, _, _⟩ := own_len h
  exact ⟨a, cap, rfl, h, hb⟩

/-- what slices.Grow leaves of the nil slice: a row of the call's own with nothing in it -/
def Grown0 (w : World) (e : Ending) (w' : World) : Prop := ∃ v, e = .returned v ∧ w'.ownsRow w.heap.size 3 1 v 0 [] ∧ Below w.heap.size w w'

end Go.Proofs.Ytgpikophndbmeaa
namespace Go.Proofs.Ytgpikophndbmeaa
open Go.RowKit

theorem getD_get {α : Type} (l : List α) (i : Nat) (d : α) (h : i < l.length) : l.getD i d = l[i] := by simp [List.getD, h]

/-- the lengths of the first k lists -/
def lens (ls : List (List Int)) : Nat := (ls.map List.length).foldl (· + ·) 0
theorem lens_snoc (ls : List (List Int)) (l : List Int) : lens (ls ++ [l]) = lens ls + l.length := by simp [lens, List.foldl_append]
theorem lens_flatten (ls : List (List Int)) : lens ls = ls.flatten.length := by
  unfold lens
  have h : ∀ (ns : List Nat) (a : Nat), ns.foldl (· + ·) a = a + ns.sum := by
    intro ns
    induction ns with
    | nil => intro a; simp
    | cons n ns ih => intro a; rw [List.foldl_cons, ih]; simp [Nat.add_assoc]
  rw [h, List.length_flatten]; simp
theorem lens_take_le (ls : List (List Int)) (k : Nat) : lens (ls.take k) ≤ lens ls := by
  rw [lens_flatten, lens_flatten]
  conv => rhs; rw [← List.take_append_drop k ls]
  rw [List.flatten_append, List.length_append]; omega

/-- a literal slice, in the block that was laid last -/
theorem sl_lit {w : World} {v : Array Value} {e : TypeId} {g : Nat} (hg : g = w.heap.size) (h : v.size ≤ maxLen) : Sl (w.alloc (.cells v e)) (.slice (some ⟨g, 0, none⟩) v.size v.size) v.toList := by
  subst hg
  refine ⟨some ⟨w.heap.size, 0, none⟩, v.size, by simp, by simp, h, (fun h => by cases h), fun i hi => ⟨_, rfl, ?_⟩⟩
  have : (⟨w.heap.size, 0, none⟩ : Addr).add i = ⟨w.heap.size, i, none⟩ := by unfold Addr.add; by_cases e : i = 0 <;> simp [e]
  rw [this]
  have hh : (w.alloc (.cells v e)).heap[w.heap.size]? = some (.cells v e (0, 0)) := heap_alloc_new w _
  simp only [World.cell?, hh]
  simp at hi ⊢

end Go.Proofs.Ytgpikophndbmeaa
