/- How edits that came in read. -/
import Derived.Test.YtjehmleckcmilaaOpen
import Derived.Test.YtjehmleckcmilaaOpenTree
import Derived.Test.YtjehmleckcmilaaEdRun
import Derived.OpenShut
namespace Go.Proofs.Ytjehmleckcmilaa
open Go.RowKit Go.ChangeShapes Go.WideShapes Go.Deep

def okEd (e : Ed) : Prop := i64 e.f ∧ i64 e.t
def szEd (e : Ed) : Nat := e.new.length + 1
set_option maxRecDepth 100000 in
theorem opens_edF (N : Nat) : OpensF Try.prog 67 Ed.d szEd okEd any (N + 1) :=
  opens_struct3 (c0 := 1) (c1 := 1) (c2 := 1) (fun a b c => Ed.mk a b c) Try.underlying67 ⟨rfl, rfl, rfl, by kernel_rfl, by kernel_rfl, by kernel_rfl, by kernel_rfl⟩ (opens_int Try.underlying3 N) (opens_int Try.underlying3 N) (opens_ints N)
    (fun _ _ _ => rfl) (fun _ _ _ => by simp only [szEd, slSz_one]; omega) (fun _ _ _ h1 h2 _ => ⟨h1, h2⟩) (fun _ _ _ _ _ _ => trivial)
set_option maxRecDepth 100000 in
theorem opens_eds : Opens Try.prog 60 (slD Ed.d) (slSz szEd) (slOk okEd) (slLim 40 any) := by
  intro N H enc w n cs x hn h
  exact opens_slice Try.underlying60 (b := 40) (by kernel_rfl) (opens_edF N) H enc w n cs x (by omega) h
theorem eds_sz (l : List Ed) : slSz szEd l = newSum l + l.length + 1 := by
  unfold slSz newSum
  induction l with
  | nil => simp
  | cons e l ih => simp only [List.map_cons, List.sum_cons, List.length_cons, szEd] at ih ⊢; omega
end Go.Proofs.Ytjehmleckcmilaa
