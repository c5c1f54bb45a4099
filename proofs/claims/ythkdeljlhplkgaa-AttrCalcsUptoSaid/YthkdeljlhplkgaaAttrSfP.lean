/- The reference's SystemFault: what its rounds keep. -/
import Derived.Test.YthkdeljlhplkgaaAttrCheckP
import Derived.Test.YthkdeljlhplkgaaAttrWell
import Derived.Test.YthkdeljlhplkgaaAttrExprs
namespace Go.Proofs.Ythkdeljlhplkgaa
open Go.RowKit
namespace At

structure SfI (w : World) (G S : Array Value) (wr : World) : Prop where
  b1 : wr.heap[w.heap.size]? = some (.cells G 24 (0, 0))
  b2 : wr.heap[w.heap.size + 1]? = some (.cells S 28 (0, 0))
  bel : Below w.heap.size w wr
theorem SfI.keep {w : World} {G S : Array Value} {wr w' : World} (h : SfI w G S wr) (hb : Below wr.heap.size wr w') : SfI w G S w' := ⟨bx_keep h.b1 hb, bx_keep h.b2 hb, h.bel.trans (hb.mono h.bel.size)⟩
/-- no place without an equation so far: rules, then positions, then attributes -/
def NoM (g : Gram) (s : Sys) (i k a : Nat) : Prop := ∀ i' (h : i' < g.rules.length) a' k', a' < s.attrs.length → k' < g.rules[i'].right.length + 1 → (i' < i ∨ (i' = i ∧ (k' < k ∨ (k' = k ∧ a' < a)))) → lacksAt s i' g.rules[i'] k' a' = false
theorem noM_start (g : Gram) (s : Sys) : NoM g s 0 0 0 := fun i' h a' k' _ _ h3 => by omega
theorem NoM.a {g : Gram} {s : Sys} {i k a : Nat} (h : NoM g s i k a) (hi : i < g.rules.length) (hl : lacksAt s i g.rules[i] k a = false) : NoM g s i k (a + 1) := by
  intro i' h' a' k' h1 h2 h3
  by_cases e : i' = i ∧ a' = a ∧ k' = k
  · obtain ⟨rfl, rfl, rfl⟩ := e; exact hl
  · exact h i' h' a' k' h1 h2 (by omega)
theorem NoM.k {g : Gram} {s : Sys} {i k a : Nat} (h : NoM g s i k a) (ha : s.attrs.length ≤ a) : NoM g s i (k + 1) 0 := by
  intro i' h' a' k' h1 h2 h3
  exact h i' h' a' k' h1 h2 (by omega)
theorem NoM.i {g : Gram} {s : Sys} {i k : Nat} (h : NoM g s i k 0) (hi : i < g.rules.length) (hk : g.rules[i].right.length + 1 ≤ k) : NoM g s (i + 1) 0 0 := by
  intro i' h' a' k' h1 h2 h3
  by_cases e : i' = i
  · subst e; exact h i' h' a' k' h1 h2 (by omega)
  · exact h i' h' a' k' h1 h2 (by omega)
theorem NoM.fin {g : Gram} {s : Sys} {i : Nat} (h : NoM g s i 0 0) (hi : g.rules.length ≤ i) : ¬ lacks g s := by
  rintro ⟨i', k', a', h1, h2, h3, h4⟩
  rw [h i' h1 a' k' h3 h2 (by omega)] at h4
  cases h4
theorem had_step {es : List Eqn} {i : Nat} (h : i < es.length) (rule : Int) (x : Ref) : had (es.take (i + 1)) rule x = (had (es.take i) rule x || decide (es[i].rule = rule ∧ es[i].to' = x)) := by
  unfold had
  rw [List.take_succ_eq_append_getElem h, List.any_append]
  simp
theorem had_hit {es : List Eqn} {i j : Nat} (h : j < es.length) (hij : j < i) {rule : Int} {x : Ref} (h1 : es[j].rule = rule) (h2 : es[j].to' = x) : had (es.take i) rule x = true := by
  unfold had
  rw [List.any_eq_true]
  refine ⟨es[j], ?_, by simp [h1, h2]⟩
  rw [List.mem_take_iff_getElem]
  exact ⟨j, by omega, rfl⟩
theorem had_none {es : List Eqn} {rule : Int} {x : Ref} : ∀ (i : Nat), i ≤ es.length → (∀ j (h : j < es.length), j < i → ¬ (es[j].rule = rule ∧ es[j].to' = x)) → had (es.take i) rule x = false := by
  intro i hi h
  unfold had
  rw [List.any_eq_false]
  intro q hq
  rw [List.mem_take_iff_getElem] at hq
  obtain ⟨j, hj, rfl⟩ := hq
  simpa using h j (by omega) (by omega)
theorem valid_bad {al : List Attr} {r : Rule} {x : Expr} {i : Nat} (h : i < (enodes x).length) (h2 : okNode al r (enodes x)[i] = false) : valid al r x = false := by
  unfold valid
  rw [List.all_eq_false]
  exact ⟨_, List.getElem_mem h, by simp [h2]⟩
theorem valid_ok {al : List Attr} {r : Rule} {x : Expr} (h : ∀ i (h : i < (enodes x).length), okNode al r (enodes x)[i] = true) : valid al r x = true := by
  unfold valid
  rw [List.all_eq_true]
  intro y hy
  obtain ⟨i, hi, rfl⟩ := List.getElem_of_mem hy
  exact h i hi
end At
end Go.Proofs.Ythkdeljlhplkgaa
