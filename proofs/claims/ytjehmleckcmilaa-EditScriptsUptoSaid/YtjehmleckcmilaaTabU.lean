/- A table whose rows are made from the first to the last. -/
import Derived.Test.YtjehmleckcmilaaTab
namespace Go.Proofs.Ytjehmleckcmilaa
open Go.RowKit

/-- rows 0 .. hi - 1 are there, all zero -/
structure TabU (B bt n m : Nat) (rb : Nat → Nat) (hi : Nat) (wr : World) : Prop where
  tb : ∃ cs, wr.heap[bt]? = some (.cells cs 22 (0, 0)) ∧ cs.size = n + 1 ∧ ∀ k, k < hi → cs[k]? = some (.slice (some ⟨rb k, 0, none⟩) (m + 1) (m + 1))
  row : ∀ k, k < hi → ∃ cs, wr.heap[rb k]? = some (.cells cs 3 (0, 0)) ∧ cs.size = m + 1 ∧ ∀ j, j ≤ m → cs[j]? = some (.int .i64 0)
  inj : ∀ k k', k < hi → k' < hi → rb k = rb k' → k = k'
  ne : ∀ k, k < hi → rb k ≠ bt ∧ B ≤ rb k
  bB : B ≤ bt
theorem TabU.lt {B bt n m : Nat} {rb : Nat → Nat} {hi : Nat} {wr : World} (h : TabU B bt n m rb hi wr) : bt < wr.heap.size := by
  obtain ⟨cs, h1, _⟩ := h.tb
  exact (Array.getElem?_eq_some_iff.1 h1).1
theorem TabU.rlt {B bt n m : Nat} {rb : Nat → Nat} {hi : Nat} {wr : World} (h : TabU B bt n m rb hi wr) {k : Nat} (hk : k < hi) : rb k < wr.heap.size := by
  obtain ⟨cs, h1, _⟩ := h.row k hk
  exact (Array.getElem?_eq_some_iff.1 h1).1
theorem TabU.none' {B n m : Nat} {rb : Nat → Nat} (w : World) (hB : B ≤ w.heap.size) : TabU B w.heap.size n m rb 0 (w.alloc (.cells (madeCells #[.slice none 0 0] (n + 1)) 22)) :=
  ⟨⟨_, bx_new _ _ _ rfl, size_madeCells _ _, fun k hk => by omega⟩, fun k hk => by omega, fun k k' hk => by omega, fun k hk => by omega, hB⟩
theorem TabU.done {B bt n m : Nat} {rb : Nat → Nat} {wr : World} (h : TabU B bt n m rb (n + 1) wr) : Tab B bt n m rb 0 (fun _ _ => 0) wr := by
  obtain ⟨⟨cs, h1, h2, h3⟩, h4, h5, h6, h7⟩ := h
  exact ⟨⟨cs, h1, h2, fun k _ hn => h3 k (by omega)⟩, fun k _ hn => h4 k (by omega), fun k k' _ hn _ hn' e => h5 k k' (by omega) (by omega) e, fun k _ hn => h6 k (by omega), h7⟩
theorem TabU.add {B bt n m : Nat} {rb : Nat → Nat} {i : Nat} {wr : World} (h : TabU B bt n m rb i wr) (hi : i ≤ n) (hB : B ≤ wr.heap.size) :
    TabU B bt n m (fun k => if k = i then wr.heap.size else rb k) (i + 1) ((wr.alloc (.cells (madeCells #[.int .i64 0] (m + 1)) 3)).setCell ⟨bt, i, none⟩ (.slice (some ⟨wr.heap.size, 0, none⟩) (m + 1) (m + 1))) := by
  have hbt := h.lt
  have hrl := fun k hk => h.rlt (k := k) hk
  obtain ⟨⟨cs, h1, h2, h3⟩, h4, h5, h6, h7⟩ := h
  have hba : Below wr.heap.size wr (wr.alloc (.cells (madeCells #[.int .i64 0] (m + 1)) 3)) := (Below.refl _ _).alloc (Nat.le_refl _) _
  refine ⟨⟨cs.setIfInBounds i (.slice (some ⟨wr.heap.size, 0, none⟩) (m + 1) (m + 1)), bx_set (bx_keep h1 hba) _ _, by simpa using h2, fun k hk => ?_⟩, fun k hk => ?_, fun k k' hk hk' e => ?_, fun k hk => ?_, h7⟩
  · rw [Array.getElem?_setIfInBounds]
    by_cases e : i = k
    · subst e
      rw [if_pos rfl, if_pos (by omega)]; simp
    · rw [if_neg e, h3 k (by omega)]
      simp [show ¬ k = i from fun h => e h.symm]
  · by_cases e : k = i
    · subst e
      refine ⟨madeCells #[.int .i64 0] (m + 1), ?_, size_madeCells _ _, fun j hj => ?_⟩
      · simp only [if_true]
        exact bx_other (bx_new _ _ _ rfl) (by omega) _ _
      · rw [made_at _ _ _ (by omega)]
    · obtain ⟨rs, r1, r2, r3⟩ := h4 k (by omega)
      refine ⟨rs, ?_, r2, fun j hj => by rw [r3 j hj]⟩
      simp only [e, if_false]
      exact bx_other (bx_keep r1 hba) (h6 k (by omega)).1 _ _
  · by_cases e1 : k = i <;> by_cases e2 : k' = i <;> simp only [e1, e2, if_true, if_false] at e ⊢
    · have := hrl k' (by omega); omega
    · have := hrl k (by omega); omega
    · exact h5 k k' (by omega) (by omega) e
  · by_cases e : k = i
    · subst e; simp only [if_true]; omega
    · simp only [e, if_false]; exact h6 k (by omega)
end Go.Proofs.Ytjehmleckcmilaa
