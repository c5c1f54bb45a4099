/- attr.Check: what its rounds keep; the steps of its answer. -/
import Derived.Test.YthkdeljlhplkgaaAttrAttrs
import Derived.Test.YthkdeljlhplkgaaAttrKey
import Derived.Test.YthkdeljlhplkgaaCheckE
namespace Go.Proofs.Ythkdeljlhplkgaa
open Go.RowKit
namespace At

theorem bx_cells8 {w : World} {b : Nat} {x0 x1 x2 x3 x4 x5 x6 x7 : Value} {T : TypeId} (h : w.heap[b]? = some (.cells #[x0, x1, x2, x3, x4, x5, x6, x7] T (0, 0))) :
    w.cell? ⟨b, 0, none⟩ = some x0 ∧ w.cell? ⟨b, 0 + 1, none⟩ = some x1 ∧ w.cell? ⟨b, 0 + 2, none⟩ = some x2 ∧ w.cell? ⟨b, 0 + 3, none⟩ = some x3 ∧ w.cell? ⟨b, 0 + 4, none⟩ = some x4 ∧ w.cell? ⟨b, 0 + 5, none⟩ = some x5 ∧ w.cell? ⟨b, 0 + 6, none⟩ = some x6 ∧ w.cell? ⟨b, 0 + 7, none⟩ = some x7 := by
  refine ⟨?_, ?_, ?_, ?_, ?_, ?_, ?_, ?_⟩ <;> simp [World.cell?, h]
theorem zeroBool (w : World) : (zeroValue 4).run Try.prog w = .ok (.bool false) w := by
  obtain ⟨i, hi, hz, _⟩ := info_parts (show (Try.prog.info? 4).map (fun i => (i.zero, i.size, i.bytes)) = some (some (.bool false), 1, 1) by kernel_rfl)
  simp [zeroValue, typeInfo, hi, hz]
theorem checkS_g {g : Gram} {s : Sys} (h : checkG g ≠ 0) : checkS g s = checkG g := by unfold checkS; rw [if_pos h]
theorem checkS_sys {g : Gram} {s : Sys} (h : checkG g = 0) : checkS g s = sysErr g s := by unfold checkS; rw [if_neg (by simpa using h)]
theorem sysErr_a {g : Gram} {s : Sys} (h : attrsErr g s.attrs ≠ 0) : sysErr g s = attrsErr g s.attrs := by unfold sysErr; rw [if_pos h]
theorem sysErr_l {g : Gram} {s : Sys} (h : attrsErr g s.attrs = 0) (h2 : 200 < s.eqs.length) : sysErr g s = 2 := by unfold sysErr; rw [if_neg (by simpa using h), if_pos h2]
theorem sysErr_e {g : Gram} {s : Sys} (h : attrsErr g s.attrs = 0) (h2 : ¬ 200 < s.eqs.length) (h3 : eqsFrom g s 0 s.eqs ≠ 0) : sysErr g s = eqsFrom g s 0 s.eqs := by unfold sysErr; rw [if_neg (by simpa using h), if_neg h2, if_pos h3]
theorem sysErr_n {g : Gram} {s : Sys} (h : attrsErr g s.attrs = 0) (h2 : ¬ 200 < s.eqs.length) (h3 : eqsFrom g s 0 s.eqs = 0) (h4 : lacks g s) : sysErr g s = 5 := by unfold sysErr; rw [if_neg (by simpa using h), if_neg h2, if_neg (by simpa using h3), if_pos h4]
theorem sysErr_z {g : Gram} {s : Sys} (h : attrsErr g s.attrs = 0) (h2 : ¬ 200 < s.eqs.length) (h3 : eqsFrom g s 0 s.eqs = 0) (h4 : ¬ lacks g s) : sysErr g s = 0 := by unfold sysErr; rw [if_neg (by simpa using h), if_neg h2, if_neg (by simpa using h3), if_neg h4]
theorem eqErr_out {g : Gram} {s : Sys} {i : Nat} {q : Eqn} (h : q.rule < 0 ∨ (g.rules.length : Int) ≤ q.rule) : eqErr g s i q = 1 := by
  unfold eqErr
  rcases h with h | h
  · cases g.rules[q.rule.toNat]? with
    | none => rfl
    | some r => simp [h]
  · rw [List.getElem?_eq_none (by omega)]
theorem eqErr_in {g : Gram} {s : Sys} {i j : Nat} {q : Eqn} (hj : j < g.rules.length) (hq : q.rule = (j : Int)) : eqErr g s i q = if 30 < q.is'.size then 2 else if defs s.attrs g.rules[j] q.to' = false ∨ valid s.attrs g.rules[j] q.is' = false then 3 else if had (s.eqs.take i) q.rule q.to' then 6 else 0 := by
  unfold eqErr
  have : q.rule.toNat = j := by omega
  rw [this, List.getElem?_eq_getElem hj]
  simp only
  rw [if_neg (by omega)]

/-- no place without an equation so far -/
def NoL (g : Gram) (s : Sys) (i a k : Nat) : Prop := ∀ i' (h : i' < g.rules.length) a' k', a' < s.attrs.length → k' < g.rules[i'].right.length + 1 → (i' < i ∨ (i' = i ∧ (a' < a ∨ (a' = a ∧ k' < k)))) → lacksAt s i' g.rules[i'] k' a' = false
theorem noL_start (g : Gram) (s : Sys) : NoL g s 0 0 0 := fun i' h a' k' _ _ h3 => by omega
theorem NoL.k {g : Gram} {s : Sys} {i a k : Nat} (h : NoL g s i a k) (hi : i < g.rules.length) (hl : lacksAt s i g.rules[i] k a = false) : NoL g s i a (k + 1) := by
  intro i' h' a' k' h1 h2 h3
  by_cases e : i' = i ∧ a' = a ∧ k' = k
  · obtain ⟨rfl, rfl, rfl⟩ := e; exact hl
  · exact h i' h' a' k' h1 h2 (by omega)
theorem NoL.a {g : Gram} {s : Sys} {i a k : Nat} (h : NoL g s i a k) (hi : i < g.rules.length) (hk : g.rules[i].right.length + 1 ≤ k) : NoL g s i (a + 1) 0 := by
  intro i' h' a' k' h1 h2 h3
  by_cases e : i' = i
  · subst e; exact h i' h' a' k' h1 h2 (by omega)
  · exact h i' h' a' k' h1 h2 (by omega)
theorem NoL.i {g : Gram} {s : Sys} {i a : Nat} (h : NoL g s i a 0) (ha : s.attrs.length ≤ a) : NoL g s (i + 1) 0 0 := by
  intro i' h' a' k' h1 h2 h3
  exact h i' h' a' k' h1 h2 (by omega)
theorem NoL.fin {g : Gram} {s : Sys} {i : Nat} (h : NoL g s i 0 0) (hi : g.rules.length ≤ i) : ¬ lacks g s := by
  rintro ⟨i', k', a', h1, h2, h3, h4⟩
  rw [h i' h1 a' k' h3 h2 (by omega)] at h4
  cases h4

section
variable {w : World} {mb : Nat} {G S : Array Value} {es : List Eqn} {wr w' : World}
end
end At
end Go.Proofs.Ythkdeljlhplkgaa
