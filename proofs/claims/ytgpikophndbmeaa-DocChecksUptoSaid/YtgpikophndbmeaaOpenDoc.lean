/- How documents that came in read. -/
import Derived.Test.YtgpikophndbmeaaOpen
import Derived.Test.YtgpikophndbmeaaDocFlat
import Derived.Lib.SmallJoins
namespace Go.Proofs.Ytgpikophndbmeaa
open Go.RowKit Go.ChangeShapes Go.WideShapes Go.Deep Go.Joins

theorem opens_str {P : Program} {t : TypeId} (ht : P.underlying t = some .string) : Opens P t D.str (fun s => s.size + 1) any any := by
  intro N H enc w n cs x _ h
  obtain ⟨s, h1, h2, h3⟩ := DataW.trod_string ht h
  subst h1 h2
  exact ⟨s, rfl, by simp [Rows.uptoBulk], trivial, fun _ => trivial⟩
namespace Dc
mutual
def dsz : Doc → Nat
  | .mk _ t _ ks => t.size + dszL ks + 1
def dszL : List Doc → Nat
  | [] => 0
  | k :: ks => dsz k + dszL ks
end
theorem slSz_dsz (ks : List Doc) : slSz dsz ks = dszL ks + 1 := by
  induction ks with
  | nil => simp [slSz, dszL]
  | cons k ks ih => simp [slSz, dszL] at ih ⊢; omega
set_option maxRecDepth 100000 in
theorem opens_docF : ∀ N, OpensF Try.prog 24 Doc.d dsz any any N := by
  intro N
  induction N with
  | zero =>
    intro H enc w n cs x hn h
    obtain rfl : n = 0 := by omega
    simp [DataW.trod] at h
  | succ N ih =>
    exact opens_struct4 (c0 := 1) (c1 := 1) (c2 := 1) (c3 := 1) (fun a b c d => Doc.mk a b c d) Try.underlying24 ⟨rfl, rfl, rfl, rfl, by kernel_rfl, by kernel_rfl, by kernel_rfl, by kernel_rfl, by kernel_rfl⟩ (opens_int Try.underlying3 N) (opens_str Try.underlying9 N) (opens_int Try.underlying3 N)
      (opens_slice Try.underlying22 (b := 56) (by kernel_rfl) ih) (fun a b c d => by rw [Doc.d_eq]; rfl) (fun a b c d => by rw [dsz, slSz_dsz]; simp [one]; omega) (fun _ _ _ _ _ _ _ _ => trivial) (fun _ _ _ _ _ _ _ _ => trivial)
theorem opens_doc : Opens Try.prog 24 Doc.d dsz any any := opens_docF
set_option maxRecDepth 100000 in
theorem open_docV {W : World} {base : Nat} {v : Value} {t : Doc} (hv : Value.okWide Try.prog W .any base 24 v) (h : Rd AnyB W t.d v.cells.toList) : ∃ u, v = .agg #[.int .i64 t.kind, .string t.txt, .int .i64 t.n, u] ∧ Rd AnyB W (.sl (t.kids.map Doc.d)) [u] := by
  obtain ⟨cs, rfl, hsz⟩ := okWide_struct Try.underlying24 hv
  obtain ⟨u, e, hu⟩ := Rd.doc h
  refine ⟨u, ?_, hu⟩
  have e' : cs.toList = [.int .i64 t.kind, .string t.txt, .int .i64 t.n, u] := e
  congr 1
  exact Array.toList_inj.1 e'
mutual
theorem nodes_dsz : ∀ t : Doc, (nodes t).length ≤ dsz t
  | .mk k t n ks => by rw [nodes, dsz]; simp; have := nodesL_dsz ks; omega
theorem nodesL_dsz : ∀ ks : List Doc, (nodesL ks).length ≤ dszL ks
  | [] => by simp [nodesL]
  | k :: ks => by rw [nodesL, dszL]; simp; have := nodes_dsz k; have := nodesL_dsz ks; omega
end
mutual
theorem txt_dsz : ∀ (t : Doc), ∀ x ∈ nodes t, x.txt.size ≤ dsz t
  | .mk k t n ks => by
    intro x hx
    rw [nodes] at hx
    rw [dsz]
    rcases List.mem_cons.1 hx with rfl | hx
    · show t.size ≤ _; omega
    · have := txtL_dsz ks x hx; omega
theorem txtL_dsz : ∀ (ks : List Doc), ∀ x ∈ nodesL ks, x.txt.size ≤ dszL ks
  | [] => by simp [nodesL]
  | k :: ks => by
    intro x hx
    rw [nodesL, List.mem_append] at hx
    rw [dszL]
    rcases hx with hx | hx
    · have := txt_dsz k x hx; omega
    · have := txtL_dsz ks x hx; omega
end
mutual
theorem flat_dsz : ∀ t : Doc, (flatB t).length ≤ dsz t
  | .mk k t n ks => by
    rw [flatB_eq, dsz]
    have h1 := flatL_dsz ks
    show (if k = 0 then t.data.toList else if k = 1 then [32] else flatBL ks).length ≤ _
    split
    · simp; omega
    · split
      · simp
      · omega
theorem flatL_dsz : ∀ ks : List Doc, (flatBL ks).length ≤ dszL ks
  | [] => by simp [flatBL]
  | k :: ks => by rw [flatBL, dszL]; simp; have := flat_dsz k; have := flatL_dsz ks; omega
end
end Dc
end Go.Proofs.Ytgpikophndbmeaa
