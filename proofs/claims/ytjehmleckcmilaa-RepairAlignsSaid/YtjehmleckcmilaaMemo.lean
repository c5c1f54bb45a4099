/- A map of numbers by pairs of numbers, that only grows. -/
import Derived.Test.YtjehmleckcmilaaAlign
import Derived.Test.YtjehmleckcmilaaData
import Derived.WideKeyPair
import Derived.Maps.OwnSet
import Derived.Maps.Views
namespace Go.Proofs.Ytjehmleckcmilaa
open Go.RowKit

theorem arrK : Go.WideMaps.ArrKey Try.prog 175 3 2 := ⟨Try.underlying175, by kernel_rfl, by kernel_rfl, by kernel_rfl⟩
theorem keyedP : Go.Maps.Keyed Try.prog 175 := .of_law arrK.law
def kl (i j : Nat) : Lit := .string (keyBytes [.int .i64 i, .int .i64 j])
theorem wf_small {i : Nat} (h : i ≤ 1000) : (Lit.int .i64 (i : Int)).wf = true := by
  simp [Lit.wf, IntKind.min, IntKind.max, IntKind.signed, IntKind.bits]; omega
theorem keyP {i j : Nat} (hi : i ≤ 1000) (hj : j ≤ 1000) : keyOf Try.prog 175 (.agg #[.int .i64 i, .int .i64 j]) = some (kl i j) :=
  Go.WideMaps.keyOf_pair arrK Try.underlying3 ⟨Try.prog.types.size - 1, by have h : 0 < Try.prog.types.size := of_decide_eq_true (by kernel_rfl); omega⟩ (wf_small hi) (wf_small hj)
theorem kl_inj {i j i' j' : Nat} (hi : i ≤ 1000) (hj : j ≤ 1000) (hi' : i' ≤ 1000) (hj' : j' ≤ 1000) (h : kl i j = kl i' j') : i = i' ∧ j = j' := by
  have h1 := keyP hi hj
  have h2 := keyP hi' hj'
  rw [← h] at h2
  have := keyedP.inj h1 h2
  simp at this
  omega

/-- block b is a map; its keys are the pairs of K, the number at (i, j) is f i j -/
def Memo (b : Nat) (f : Nat → Nat → Int) (K : List (Nat × Nat)) (w : World) : Prop :=
  ∃ D : DataW Unit, w.ownsMap Try.prog 175 (plainElem Try.prog 3) b K.length D ∧ K.Nodup ∧ (∀ p ∈ K, p.1 ≤ 200 ∧ p.2 ≤ 200) ∧
    ∀ i j, i ≤ 200 → j ≤ 200 → Go.Maps.has D (kl i j) = decide ((i, j) ∈ K) ∧ ((i, j) ∈ K → ∀ zd, D.atKey (kl i j) zd = .lit (.int .i64 (f i j)))
theorem Memo.kept {b : Nat} {f : Nat → Nat → Int} {K : List (Nat × Nat)} {w w' : World} {row : Option Nat} (h : Memo b f K w) (hg : w.grownBy w' row) (hne : some b ≠ row) : Memo b f K w' := by
  obtain ⟨D, h1, h2⟩ := h
  exact ⟨D, h1.kept hg hne, h2⟩
theorem Memo.keep {b : Nat} {f : Nat → Nat → Int} {K : List (Nat × Nat)} {w w' : World} (h : Memo b f K w) (hb : Below w.heap.size w w') : Memo b f K w' := h.kept (grown_below hb none) (by simp)
theorem Memo.lt {b : Nat} {f : Nat → Nat → Int} {K : List (Nat × Nat)} {w : World} (h : Memo b f K w) : b < w.heap.size := by
  obtain ⟨D, h1, h2⟩ := h; exact h1.lt
theorem flat_len {α : Type} (l : List Nat) (g : Nat → List α) (c : Nat) (h : ∀ a, (g a).length = c) : (l.flatMap g).length = l.length * c := by
  induction l with
  | nil => simp
  | cons a l ih => simp only [List.flatMap_cons, List.length_append, List.length_cons, Nat.add_mul, ih, h]; omega
theorem Memo.few {b : Nat} {f : Nat → Nat → Int} {K : List (Nat × Nat)} {w : World} (h : Memo b f K w) : K.length ≤ 201 * 201 := by
  obtain ⟨D, h1, h2, h3, _⟩ := h
  have := Al.nodup_le K ((List.range 201).flatMap fun i => (List.range 201).map fun j => (i, j)) h2 (fun p hp => by
    have := h3 p hp
    rw [List.mem_flatMap]
    exact ⟨p.1, by simp; omega, by rw [List.mem_map]; exact ⟨p.2, by simp; omega, rfl⟩⟩)
  refine Nat.le_trans this ?_
  rw [flat_len (List.range 201) (fun i => (List.range 201).map fun j => (i, j)) 201 (fun a => by simp)]; simp
theorem Memo.start (f : Nat → Nat → Int) (w : World) : Memo w.heap.size f [] (w.alloc (.map #[] 0)) :=
  ⟨.map [], World.ownsMap_made w _ _ _, List.nodup_nil, by simp, fun i j _ _ => ⟨rfl, by simp⟩⟩
theorem zeroI (w : World) : (zeroValue 3).run Try.prog w = .ok (.int .i64 0) w := by
  obtain ⟨i, hi, hz, _⟩ := info_parts (show (Try.prog.info? 3).map (fun i => (i.zero, i.size, i.bytes)) = some (some (.int .i64 0), 1, 8) by kernel_rfl)
  simp [zeroValue, typeInfo, hi, hz]

/-- n, ok := memo[k] -/
theorem Memo.look {b : Nat} {f : Nat → Nat → Int} {K : List (Nat × Nat)} {w : World} (h : Memo b f K w) {i j : Nat} (hi : i ≤ 200) (hj : j ≤ 200) :
    ∃ c : Int, (Instr.lookup 174 (.map (some b)) (.agg #[.int .i64 i, .int .i64 j]) true).run Try.prog w = .ok (.tuple #[.int .i64 c, .bool (decide ((i, j) ∈ K))]) w ∧ ((i, j) ∈ K → c = f i j) := by
  obtain ⟨D, h1, h2, h3, h4⟩ := h
  obtain ⟨v, ps, hrun, hv⟩ := h1.look_ok keyedP Try.underlying174 (zeroI w) (plainElem_int Try.underlying3 (by decide)) (keyP (i := i) (j := j) (by omega) (by omega))
  obtain ⟨c, rfl, hc, hwc⟩ := plainElem_int_inv Try.underlying3 hv
  obtain ⟨e1, e2⟩ := h4 i j hi hj
  refine ⟨c, by rw [e1] at hrun; exact hrun, fun hm => ?_⟩
  have := e2 hm (.lit (.int .i64 0))
  have h5 := congrArg Prod.fst hc
  simp only at h5
  rw [this] at h5
  simpa using h5.symm
/-- memo[k] = n -/
theorem Memo.store {b : Nat} {f : Nat → Nat → Int} {K : List (Nat × Nat)} {w : World} (h : Memo b f K w) {i j : Nat} (hi : i ≤ 200) (hj : j ≤ 200) (hn : (i, j) ∉ K) (hw : (Lit.int .i64 (f i j)).wf = true) :
    ∃ w', (Instr.mapUpdate 174 (.map (some b)) (.agg #[.int .i64 i, .int .i64 j]) (.int .i64 (f i j))).run Try.prog w = .ok () w' ∧ Memo b f ((i, j) :: K) w' ∧ w.grownBy w' (some b) := by
  have hfew := h.few
  obtain ⟨D, h1, h2, h3, h4⟩ := h
  obtain ⟨w', hrun, ho, ht⟩ := h1.store keyedP Try.underlying174 (by unfold maxLen; omega) (keyP (i := i) (j := j) (by omega) (by omega)) (plainElem_int Try.underlying3 hw)
  refine ⟨w', hrun, ⟨_, ho, List.nodup_cons.2 ⟨hn, h2⟩, fun p hp => ?_, fun i' j' hi' hj' => ?_⟩, ht.grown⟩
  · rcases List.mem_cons.1 hp with rfl | hp
    · exact ⟨hi, hj⟩
    · exact h3 p hp
  · have hm := h1.isMap
    have hk := keyedP.key (keyP (i := i) (j := j) (by omega) (by omega))
    by_cases e : i' = i ∧ j' = j
    · obtain ⟨rfl, rfl⟩ := e
      exact ⟨by rw [Go.Maps.has_put_same hm hk]; simp, fun _ zd => Go.Maps.atKey_put_same hm hk _ _⟩
    · have hne : kl i' j' ≠ kl i j := fun h => e (kl_inj (by omega) (by omega) (by omega) (by omega) h)
      have hme : ((i', j') ∈ (i, j) :: K) ↔ (i', j') ∈ K := by
        rw [List.mem_cons]
        constructor
        · rintro (h | h)
          · simp at h; exact absurd h e
          · exact h
        · exact .inr
      obtain ⟨e1, e2⟩ := h4 i' j' hi' hj'
      refine ⟨by rw [Go.Maps.has_put_other hne, e1]; simp [hme, decide_eq_decide], fun hmm zd => ?_⟩
      rw [Go.Maps.atKey_put_other hne]
      exact e2 (hme.1 hmm) zd
end Go.Proofs.Ytjehmleckcmilaa
