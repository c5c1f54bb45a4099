/- Places of rules as keys of a map. -/
import Derived.Test.YthkdeljlhplkgaaAttr
import Derived.Test.YthkdeljlhplkgaaSetM
import Derived.Test.YthkdeljlhplkgaaOpen
import Derived.DeepKeys4
namespace Go.Proofs.Ythkdeljlhplkgaa
open Go.RowKit
namespace At

theorem plLaid : laidOutB Try.prog = true := by kernel_rfl
def plL (a b c : Int) : Lit := .string (keyBytes [.int .i64 a, .int .i64 b, .int .i64 c])
def wfI (i : Int) : Prop := (Lit.int .i64 i).wf = true
theorem wfI_of {i : Int} (h : i64 i) : wfI i := by
  unfold wfI
  simp [i64, Lit.wf, IntKind.min, IntKind.max, IntKind.signed, IntKind.bits] at *; omega
def keyE (q : Eqn) : Lit := plL q.rule q.to'.at' q.to'.attr
def okRefI (r : Ref) : Prop := i64 r.at' ∧ i64 r.attr
def okEqK (q : Eqn) : Prop := i64 q.rule ∧ okRefI q.to'
open Classical in
noncomputable def inSetE (es : List Eqn) (l : Lit) : Bool := es.any fun q => decide (keyE q = l)
theorem inSetE_add {es : List Eqn} {q : Eqn} : inSetE (es ++ [q]) (keyE q) = true := by
  unfold inSetE
  simp
theorem inSetE_other {es : List Eqn} {q : Eqn} {l : Lit} (h : l ≠ keyE q) : inSetE (es ++ [q]) l = inSetE es l := by
  unfold inSetE
  rw [List.any_append]
  simp [show ¬ keyE q = l from fun e => h e.symm]
end At
end Go.Proofs.Ythkdeljlhplkgaa
