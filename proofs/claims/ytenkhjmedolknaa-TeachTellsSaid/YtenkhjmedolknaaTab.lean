/- A table of numbers in memory, that is being filled. -/
import Derived.Test.YtenkhjmedolknaaSlicesTwo
import Derived.Test.YtenkhjmedolknaaData
import Derived.Deep.OwnRows
namespace Go.Proofs.Ytenkhjmedolknaa
open Go.RowKit

theorem made_at (z : Value) (n j : Nat) (h : j < n) : (madeCells #[z] n)[j]? = some z := by
  simp [madeCells, h, Nat.mod_one]

theorem cell_set_off {w : World} {b j j' : Nat} {v : Value} (x : Value) (h : w.cell? ⟨b, j', none⟩ = some v) (hne : ¬ j = j') : (w.setCell ⟨b, j, none⟩ x).cell? ⟨b, j', none⟩ = some v := by
  unfold World.cell? at h ⊢
  cases e : w.heap[b]? with
  | none => simp [e] at h
  | some o =>
    simp only [e] at h
    simp only [World.setCell, Array.getElem?_modify, e, if_true, Option.map_some]
    cases o <;> simp_all [Array.getElem?_setIfInBounds]

/-- rows lo .. n of the table in block bt are there: row k in block rb k, of m + 1 numbers -/
structure Tab (B bt n m : Nat) (rb : Nat → Nat) (lo : Nat) (val : Nat → Nat → Int) (wr : World) : Prop where
  tb : ∃ cs, wr.heap[bt]? = some (.cells cs 22 (0, 0)) ∧ cs.size = n + 1 ∧ ∀ k, lo ≤ k → k ≤ n → cs[k]? = some (.slice (some ⟨rb k, 0, none⟩) (m + 1) (m + 1))
  row : ∀ k, lo ≤ k → k ≤ n → ∃ cs, wr.heap[rb k]? = some (.cells cs 3 (0, 0)) ∧ cs.size = m + 1 ∧ ∀ j, j ≤ m → cs[j]? = some (.int .i64 (val k j))
  inj : ∀ k k', lo ≤ k → k ≤ n → lo ≤ k' → k' ≤ n → rb k = rb k' → k = k'
  ne : ∀ k, lo ≤ k → k ≤ n → rb k ≠ bt ∧ B ≤ rb k
  bB : B ≤ bt
section
variable {B bt n m : Nat} {rb : Nat → Nat} {lo : Nat} {val : Nat → Nat → Int} {wr w' : World}
theorem Tab.keep (h : Tab B bt n m rb lo val wr) (hb : Below wr.heap.size wr w') : Tab B bt n m rb lo val w' := by
  obtain ⟨⟨cs, h1, h2, h3⟩, h4, h5, h6, h7⟩ := h
  refine ⟨⟨cs, bx_keep h1 hb, h2, h3⟩, fun k hk hn => ?_, h5, h6, h7⟩
  obtain ⟨rs, r1, r2⟩ := h4 k hk hn
  exact ⟨rs, bx_keep r1 hb, r2⟩
theorem Tab.grown {row : Option Nat} (h : Tab B bt n m rb lo val wr) (hg : wr.grownBy w' row) (hr : ∀ k, row = some k → k ≠ bt ∧ ∀ i, lo ≤ i → i ≤ n → rb i ≠ k) : Tab B bt n m rb lo val w' := by
  obtain ⟨⟨cs, h1, h2, h3⟩, h4, h5, h6, h7⟩ := h
  refine ⟨⟨cs, ?_, h2, h3⟩, fun k hk hn => ?_, h5, h6, h7⟩
  · rw [hg.block bt (Array.getElem?_eq_some_iff.1 h1).1 (fun e => (hr bt e.symm).1 rfl)]; exact h1
  · obtain ⟨rs, r1, r2⟩ := h4 k hk hn
    refine ⟨rs, ?_, r2⟩
    rw [hg.block (rb k) (Array.getElem?_eq_some_iff.1 r1).1 (fun e => (hr _ e.symm).2 k hk hn rfl)]; exact r1
theorem Tab.hdr (h : Tab B bt n m rb lo val wr) {k : Nat} (hk : lo ≤ k) (hn : k ≤ n) : wr.cell? ⟨bt, k, none⟩ = some (.slice (some ⟨rb k, 0, none⟩) (m + 1) (m + 1)) := by
  obtain ⟨cs, h1, h2, h3⟩ := h.tb
  simp [World.cell?, h1, h3 k hk hn]
theorem Tab.cell (h : Tab B bt n m rb lo val wr) {k j : Nat} (hk : lo ≤ k) (hn : k ≤ n) (hj : j ≤ m) : wr.cell? ⟨rb k, j, none⟩ = some (.int .i64 (val k j)) := by
  obtain ⟨cs, h1, h2, h3⟩ := h.row k hk hn
  simp [World.cell?, h1, h3 j hj]
theorem Tab.free (h : Tab B bt n m rb lo val wr) {k : Nat} (hk : lo ≤ k) (hn : k ≤ n) (j : Nat) : wr.frozen? ⟨rb k, j, none⟩ = false := by
  obtain ⟨cs, h1, h2, h3⟩ := h.row k hk hn
  simp [World.frozen?, h1]
theorem Tab.lt (h : Tab B bt n m rb lo val wr) : bt < wr.heap.size := by
  obtain ⟨cs, h1, _⟩ := h.tb
  exact (Array.getElem?_eq_some_iff.1 h1).1
theorem Tab.rlt (h : Tab B bt n m rb lo val wr) {k : Nat} (hk : lo ≤ k) (hn : k ≤ n) : rb k < wr.heap.size := by
  obtain ⟨cs, h1, _⟩ := h.row k hk hn
  exact (Array.getElem?_eq_some_iff.1 h1).1
/-- a number stored -/
theorem Tab.set (h : Tab B bt n m rb lo val wr) {i j : Nat} (hi : lo ≤ i) (hin : i ≤ n) (hj : j ≤ m) (x : Int) : Tab B bt n m rb lo (fun k l => if k = i ∧ l = j then x else val k l) (wr.setCell ⟨rb i, j, none⟩ (.int .i64 x)) := by
  obtain ⟨⟨cs, h1, h2, h3⟩, h4, h5, h6, h7⟩ := h
  refine ⟨⟨cs, bx_other h1 (fun e => (h6 i hi hin).1 e.symm) _ _, h2, h3⟩, fun k hk hn => ?_, h5, h6, h7⟩
  obtain ⟨rs, r1, r2, r3⟩ := h4 k hk hn
  by_cases e : k = i
  · subst e
    refine ⟨rs.setIfInBounds j (.int .i64 x), bx_set r1 _ _, by simpa using r2, fun l hl => ?_⟩
    rw [Array.getElem?_setIfInBounds]
    by_cases e2 : j = l
    · subst e2
      rw [if_pos rfl, if_pos (by omega)]; simp
    · rw [if_neg e2, r3 l hl]
      simp [show ¬ l = j from fun h => e2 h.symm]
  · refine ⟨rs, bx_other r1 (fun e2 => e (h5 k i hk hn hi hin e2)) _ _, r2, fun l hl => ?_⟩
    rw [r3 l hl]; simp [e]
/-- a new row: laid, and its header stored -/
theorem Tab.add {i : Nat} (h : Tab B bt n m rb (i + 1) val wr) (hi : i ≤ n) (hB : B ≤ wr.heap.size) :
    Tab B bt n m (fun k => if k = i then wr.heap.size else rb k) i (fun k l => if k = i then 0 else val k l) ((wr.alloc (.cells (madeCells #[.int .i64 0] (m + 1)) 3)).setCell ⟨bt, i, none⟩ (.slice (some ⟨wr.heap.size, 0, none⟩) (m + 1) (m + 1))) := by
  have hbt := h.lt
  have hrl := fun k hk hn => h.rlt (k := k) hk hn
  obtain ⟨⟨cs, h1, h2, h3⟩, h4, h5, h6, h7⟩ := h
  have hba : Below wr.heap.size wr (wr.alloc (.cells (madeCells #[.int .i64 0] (m + 1)) 3)) := (Below.refl _ _).alloc (Nat.le_refl _) _
  refine ⟨⟨cs.setIfInBounds i (.slice (some ⟨wr.heap.size, 0, none⟩) (m + 1) (m + 1)), bx_set (bx_keep h1 hba) _ _, by simpa using h2, fun k hk hn => ?_⟩, fun k hk hn => ?_, fun k k' hk hn hk' hn' e => ?_, fun k hk hn => ?_, h7⟩
  · rw [Array.getElem?_setIfInBounds]
    by_cases e : i = k
    · subst e
      rw [if_pos rfl, if_pos (by omega)]; simp
    · rw [if_neg e, h3 k (by omega) hn]
      simp [show ¬ k = i from fun h => e h.symm]
  · by_cases e : k = i
    · subst e
      refine ⟨madeCells #[.int .i64 0] (m + 1), ?_, size_madeCells _ _, fun j hj => ?_⟩
      · simp only [if_true]
        exact bx_other (bx_new _ _ _ rfl) (by omega) _ _
      · rw [made_at _ _ _ (by omega)]; simp
    · obtain ⟨rs, r1, r2, r3⟩ := h4 k (by omega) hn
      refine ⟨rs, ?_, r2, fun j hj => by rw [r3 j hj]; simp [e]⟩
      simp only [e, if_false]
      exact bx_other (bx_keep r1 hba) (h6 k (by omega) hn).1 _ _
  · by_cases e1 : k = i <;> by_cases e2 : k' = i <;> simp only [e1, e2, if_true, if_false] at e ⊢
    · have := hrl k' (by omega) hn'; omega
    · have := hrl k (by omega) hn; omega
    · exact h5 k k' (by omega) hn (by omega) hn' e
  · by_cases e : k = i
    · subst e; simp only [if_true]; omega
    · simp only [e, if_false]; exact h6 k (by omega) hn
theorem Tab.eq {val' : Nat → Nat → Int} (h : Tab B bt n m rb lo val wr) (he : ∀ k j, lo ≤ k → k ≤ n → j ≤ m → val k j = val' k j) : Tab B bt n m rb lo val' wr := by
  obtain ⟨h1, h4, h5, h6, h7⟩ := h
  refine ⟨h1, fun k hk hn => ?_, h5, h6, h7⟩
  obtain ⟨rs, r1, r2, r3⟩ := h4 k hk hn
  exact ⟨rs, r1, r2, fun j hj => by rw [r3 j hj, he k j hk hn hj]⟩
end
/-- nothing there yet -/
theorem Tab.none' {B n m : Nat} {rb : Nat → Nat} {val : Nat → Nat → Int} (w : World) (hB : B ≤ w.heap.size) : Tab B w.heap.size n m rb (n + 1) val (w.alloc (.cells (madeCells #[.slice none 0 0] (n + 1)) 22)) :=
  ⟨⟨_, bx_new _ _ _ rfl, size_madeCells _ _, fun k hk hn => by omega⟩, fun k hk hn => by omega, fun k k' hk hn => by omega, fun k hk hn => by omega, hB⟩
end Go.Proofs.Ytenkhjmedolknaa
