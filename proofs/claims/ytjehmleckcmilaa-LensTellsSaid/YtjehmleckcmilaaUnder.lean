/- The contract of Groups' inner function: what is derived from a nonterminal. -/
import Derived.Test.YtjehmleckcmilaaReach
import Derived.Test.YtjehmleckcmilaaRuleFault
namespace Go.Proofs.Ytjehmleckcmilaa
open Go.RowKit

theorem rnds_succ (E : List (Nat × Nat)) : ∀ (k : Nat) (U : Nat → Bool), rnds E (k + 1) U = rnd E (rnds E k U)
  | 0, U => rfl
  | k + 1, U => by rw [rnds, rnds_succ E k (rnd E U)]; rfl
def ofU (U : Nat → Bool) : Lit → Bool
  | .int .i64 z => decide (0 ≤ z) && U z.toNat
  | _ => false
abbrev IntSet (b c : Nat) (U : Nat → Bool) (w : World) : Prop := SetM Try.prog 3 4 b c (ofU U) w
theorem intK : Go.Maps.Keyed Try.prog 3 := Go.Maps.int_keyed Try.underlying3
theorem keyI {z : Int} (h : 0 ≤ z ∧ z < 1000) : keyOf Try.prog 3 (.int .i64 z) = some (.int .i64 z) :=
  Go.Maps.keyOf_int_mk Try.underlying3 (by simp [Lit.wf, IntKind.min, IntKind.max, IntKind.signed, IntKind.bits]; omega)
/-- m[z] -/
theorem IntSet.at {b c : Nat} {U : Nat → Bool} {w : World} (h : IntSet b c U w) {z : Int} (hz : 0 ≤ z ∧ z < 1000) : (Instr.lookup 201 (.map (some b)) (.int .i64 z) false).run Try.prog w = .ok (.bool (U z.toNat)) w := by
  have := h.look intK Try.underlying201 Try.underlying4 (zeroB w) (keyI hz)
  rw [this]
  simp [ofU, hz.1]
/-- m[z] = true -/
theorem IntSet.put {b c : Nat} {U : Nat → Bool} {w : World} (h : IntSet b c U w) (hc : c ≤ 100000) {z : Int} (hz : 0 ≤ z ∧ z < 1000) : ∃ w', (Instr.mapUpdate 201 (.map (some b)) (.int .i64 z) (.bool true)).run Try.prog w = .ok () w' ∧ IntSet b (c + 1) (fun x => x == z.toNat || U x) w' ∧ w.grownBy w' (some b) := by
  refine h.add intK Try.underlying201 Try.underlying4 (by unfold maxLen; omega) (keyI hz) ?_ (fun l hl => ?_)
  · simp [ofU, hz.1]
  · unfold ofU
    split
    · rename_i y
      by_cases hy : 0 ≤ y
      · have : (y.toNat == z.toNat) = false := by
          rw [beq_eq_false_iff_ne]
          intro e
          exact hl (by rw [show y = z by omega])
        simp [this]
      · simp [hy]
    · rfl
def symEdge (l : Int) (s : Sym) : Option (Nat × Nat) := if s.term then none else some (l.toNat, s.n.toNat)
theorem ruleEdges_eq (r : Rule) : ruleEdges r = r.right.filterMap (symEdge r.left) := rfl
/-- the set behind some rules, and some symbols of the next one -/
def midU (E : List (Nat × Nat)) (a t : Nat) (K : List Rule) (j : Nat) : Nat → Bool := ((K.take j).flatMap ruleEdges).foldl stp (rnds E t (single a))
def inU (U : Nat → Bool) (l : Int) (R : List Sym) (q : Nat) : Nat → Bool := ((R.take q).filterMap (symEdge l)).foldl stp U
theorem midU_zero (E : List (Nat × Nat)) (a t : Nat) (K : List Rule) : midU E a t K 0 = rnds E t (single a) := by simp [midU]
theorem midU_end {g : Gram} {a t j : Nat} (h : g.rules.length ≤ j) : midU (gEdges g) a t g.rules j = rnds (gEdges g) (t + 1) (single a) := by
  rw [midU, List.take_of_length_le h, rnds_succ]; rfl
theorem midU_next {E : List (Nat × Nat)} {a t : Nat} {K : List Rule} {j : Nat} (h : j < K.length) : midU E a t K (j + 1) = inU (midU E a t K j) K[j].left K[j].right K[j].right.length := by
  rw [midU, List.take_succ_eq_append_getElem h, List.flatMap_append, List.foldl_append, inU, List.take_length]
  simp [midU, ruleEdges_eq]
theorem inU_next {U : Nat → Bool} {l : Int} {R : List Sym} {q : Nat} (h : q < R.length) : inU U l R (q + 1) = if R[q].term then inU U l R q else stp (inU U l R q) (l.toNat, R[q].n.toNat) := by
  rw [inU, List.take_succ_eq_append_getElem h, List.filterMap_append, List.foldl_append]
  unfold inU
  cases ht : R[q].term <;> simp [symEdge, ht]
end Go.Proofs.Ytjehmleckcmilaa
