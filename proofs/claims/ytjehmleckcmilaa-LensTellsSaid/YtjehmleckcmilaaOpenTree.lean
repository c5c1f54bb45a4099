/- How trees and words that came in read. -/
import Derived.Test.YtjehmleckcmilaaOpen
import Derived.Test.YtjehmleckcmilaaTree
import Derived.Test.YtjehmleckcmilaaTreeCopy
import Derived.Lib.SmallJoins
namespace Go.Proofs.Ytjehmleckcmilaa
open Go.RowKit Go.ChangeShapes Go.WideShapes Go.Deep Go.Joins

theorem opens_ints : Opens Try.prog 22 (slD D.int) (slSz one) (slOk i64) (slLim 8 any) := fun N => opens_slice Try.underlying22 (by kernel_rfl) (opens_int Try.underlying3 N)
theorem slSz_one {α : Type} (l : List α) : slSz one l = l.length + 1 := by
  induction l with
  | nil => simp [slSz]
  | cons x l ih => simp [slSz, one] at ih ⊢; omega
theorem sl_slD {w : World} {v : Value} {l : List Int} (h : Rd AnyB w (slD D.int l) [v]) : Sl w v (ints l) := sl_rd h

theorem slSz_size (ks : List Tree) : slSz Tree.size ks = sizeL ks + 1 := by
  induction ks with
  | nil => simp [slSz, sizeL]
  | cons k ks ih => simp [slSz, sizeL] at ih ⊢; omega

set_option maxRecDepth 100000 in
theorem opens_treeF : ∀ N, OpensF Try.prog 43 Tree.d Tree.size any any N := by
  intro N
  induction N with
  | zero =>
    intro H enc w n cs x hn h
    obtain rfl : n = 0 := by omega
    simp [DataW.trod] at h
  | succ N ih =>
    exact opens_struct3 (c0 := 1) (c1 := 1) (c2 := 1) (fun r t ks => Tree.node r t ks) Try.underlying43 ⟨rfl, rfl, rfl, by kernel_rfl, by kernel_rfl, by kernel_rfl, by kernel_rfl⟩ (opens_int Try.underlying3 N) (opens_int Try.underlying3 N)
      (opens_slice Try.underlying41 (b := 40) (by kernel_rfl) ih) (fun a b c => by rw [Tree.d_eq]; rfl) (fun a b c => by rw [Tree.size, slSz_size]; simp [one]; omega) (fun _ _ _ _ _ _ => trivial) (fun _ _ _ _ _ _ => trivial)
theorem opens_tree : Opens Try.prog 43 Tree.d Tree.size any any := opens_treeF

set_option maxRecDepth 100000 in
theorem open_treeV {W : World} {base : Nat} {v : Value} {t : Tree} (hv : Value.okWide Try.prog W .any base 43 v) (h : Rd AnyB W t.d v.cells.toList) : ∃ u, v = .agg #[.int .i64 t.rule, .int .i64 t.term, u] ∧ Rd AnyB W (.sl (t.kids.map Tree.d)) [u] := by
  obtain ⟨cs, rfl, hsz⟩ := okWide_struct Try.underlying43 hv
  obtain ⟨u, e, hu⟩ := h.tree
  refine ⟨u, ?_, hu⟩
  have e' : cs.toList = [.int .i64 t.rule, .int .i64 t.term, u] := e
  congr 1
  exact Array.toList_inj.1 e'
end Go.Proofs.Ytjehmleckcmilaa
