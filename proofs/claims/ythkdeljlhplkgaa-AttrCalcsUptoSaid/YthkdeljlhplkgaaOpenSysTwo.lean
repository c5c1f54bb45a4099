/- How attribute systems that came in read, the number of attributes bounded too. -/
import Derived.Test.YthkdeljlhplkgaaOpenSys
namespace Go.Proofs.Ythkdeljlhplkgaa
open Go.RowKit Go.ChangeShapes Go.WideShapes Go.Deep Go.Joins
namespace At

theorem slSz_ones {α : Type} (l : List α) : slSz one l = l.length + 1 := by
  induction l with
  | nil => simp [slSz]
  | cons x l ih => simp [slSz, one] at ih ⊢; omega
def szSysT (s : Sys) : Nat := s.attrs.length + slSz szEq s.eqs
set_option maxRecDepth 100000 in
theorem opens_sysTF (N : Nat) : OpensF Try.prog 28 Sys.d szSysT okSys any (N + 1) :=
  opens_struct2 (c0 := 1) (c1 := 1) (fun a b => Sys.mk a b) Try.underlying28 ⟨rfl, rfl, by kernel_rfl, by kernel_rfl, by kernel_rfl⟩ (opens_slice Try.underlying25 (b := 16) (by kernel_rfl) (opens_attr N)) (opens_slice Try.underlying26 (b := 80) (by kernel_rfl) (opens_eq N))
    (fun _ _ => rfl) (fun a b => by have h := slSz_ones a; simp only [szSysT]; omega) (fun _ _ _ k => k) (fun _ _ _ _ => trivial)
theorem opens_sysT : Opens Try.prog 28 Sys.d szSysT okSys any := by
  intro N H enc w n cs x hn h
  exact opens_sysTF N H enc w n cs x (by omega) h
theorem szSysT_all {s : Sys} {b : Nat} (h : szSysT s ≤ b) : (∀ q ∈ s.eqs, q.is'.size ≤ b) ∧ s.attrs.length ≤ b := by
  unfold szSysT at h
  exact ⟨szSys_all (by unfold szSys; omega), by omega⟩
end At
end Go.Proofs.Ythkdeljlhplkgaa
