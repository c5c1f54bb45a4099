/- How attribute systems that came in read. -/
import Derived.Test.YthkdeljlhplkgaaOpen
import Derived.Test.YthkdeljlhplkgaaAttrKey
import Derived.Test.YthkdeljlhplkgaaAttrRd
import Derived.Lib.SmallJoins
namespace Go.Proofs.Ythkdeljlhplkgaa
open Go.RowKit Go.ChangeShapes Go.WideShapes Go.Deep Go.Joins
namespace At

def okAttr (a : Attr) : Prop := i64 a.non
def szEq (q : Eqn) : Nat := q.is'.size
def szSys (s : Sys) : Nat := slSz szEq s.eqs
def okSys (s : Sys) : Prop := ∀ q ∈ s.eqs, okEqK q
def Sys.d (s : Sys) : D := .agg [.sl (s.attrs.map Attr.d), .sl (s.eqs.map Eqn.d)]
theorem szSys_all {s : Sys} {b : Nat} (h : szSys s ≤ b) : ∀ q ∈ s.eqs, q.is'.size ≤ b := by
  unfold szSys slSz at h
  intro q hq
  have h1 : ∀ (l : List Eqn), q ∈ l → q.is'.size ≤ (l.map szEq).sum := by
    intro l
    induction l with
    | nil => intro h; cases h
    | cons y l ih =>
      intro h
      rw [List.map_cons, List.sum_cons]
      rcases List.mem_cons.1 h with rfl | h
      · unfold szEq; omega
      · have := ih h; omega
  have := h1 _ hq
  omega
set_option maxRecDepth 100000 in
theorem opens_refF (N : Nat) : OpensF Try.prog 30 Ref.d one okRefI any (N + 1) :=
  opens_struct2 (c0 := 1) (c1 := 1) (fun a b => Ref.mk a b) Try.underlying30 ⟨rfl, rfl, by kernel_rfl, by kernel_rfl, by kernel_rfl⟩ (opens_int Try.underlying3 N) (opens_int Try.underlying3 N)
    (fun _ _ => rfl) (fun _ _ => by simp [one]) (fun _ _ h k => ⟨h, k⟩) (fun _ _ _ _ => trivial)
theorem opens_ref : Opens Try.prog 30 Ref.d one okRefI any := by
  intro N H enc w n cs x hn h
  exact opens_refF N H enc w n cs x (by omega) h
set_option maxRecDepth 100000 in
theorem opens_attrF (N : Nat) : OpensF Try.prog 72 Attr.d one okAttr any (N + 1) :=
  opens_struct2 (c0 := 1) (c1 := 1) (fun a b => Attr.mk a b) Try.underlying72 ⟨rfl, rfl, by kernel_rfl, by kernel_rfl, by kernel_rfl⟩ (opens_int Try.underlying3 N) (opens_bool Try.underlying4 N)
    (fun _ _ => rfl) (fun _ _ => by simp [one]) (fun _ _ h _ => h) (fun _ _ _ _ => trivial)
theorem opens_attr : Opens Try.prog 72 Attr.d one okAttr any := by
  intro N H enc w n cs x hn h
  exact opens_attrF N H enc w n cs x (by omega) h
theorem slSz_exprs (l : List Expr) : slSz Expr.size l = sizeL l + 1 := by
  induction l with
  | nil => simp [slSz, sizeL]
  | cons k ks ih => simp [slSz, sizeL] at ih ⊢; omega
set_option maxRecDepth 100000 in
theorem opens_exprF : ∀ N, OpensF Try.prog 33 Expr.d Expr.size any any N := by
  intro N
  induction N with
  | zero =>
    intro H enc w n cs x hn h
    obtain rfl : n = 0 := by omega
    simp [DataW.trod] at h
  | succ N ih =>
    exact opens_struct4 (c0 := 1) (c1 := 1) (c2 := 2) (c3 := 1) (fun a b c d => Expr.node a b c d) Try.underlying33 ⟨rfl, rfl, rfl, rfl, by kernel_rfl, by kernel_rfl, by kernel_rfl, by kernel_rfl, by kernel_rfl⟩ (opens_int Try.underlying3 N) (opens_int Try.underlying3 N) (opens_ref N)
      (opens_slice Try.underlying31 (b := 56) (by kernel_rfl) ih) (fun a b c d => by rw [Expr.d_eq]; rfl) (fun a b c d => by rw [Expr.size_eq, slSz_exprs]; simp [one, Expr.args]; omega) (fun _ _ _ _ _ _ _ _ => trivial) (fun _ _ _ _ _ _ _ _ => trivial)
theorem opens_expr : Opens Try.prog 33 Expr.d Expr.size any any := opens_exprF
set_option maxRecDepth 100000 in
theorem opens_eqF (N : Nat) : OpensF Try.prog 41 Eqn.d szEq okEqK any (N + 1) :=
  opens_struct3 (c0 := 1) (c1 := 2) (c2 := 5) (fun a b c => Eqn.mk a b c) Try.underlying41 ⟨rfl, rfl, rfl, by kernel_rfl, by kernel_rfl, by kernel_rfl, by kernel_rfl⟩ (opens_int Try.underlying3 N) (opens_ref N) (opens_expr N)
    (fun _ _ _ => rfl) (fun _ _ _ => by simp [szEq]; omega) (fun _ _ _ h k _ => ⟨h, k⟩) (fun _ _ _ _ _ _ => trivial)
theorem opens_eq : Opens Try.prog 41 Eqn.d szEq okEqK any := by
  intro N H enc w n cs x hn h
  exact opens_eqF N H enc w n cs x (by omega) h
set_option maxRecDepth 100000 in
theorem opens_sysF (N : Nat) : OpensF Try.prog 28 Sys.d szSys okSys any (N + 1) :=
  opens_struct2 (c0 := 1) (c1 := 1) (fun a b => Sys.mk a b) Try.underlying28 ⟨rfl, rfl, by kernel_rfl, by kernel_rfl, by kernel_rfl⟩ (opens_slice Try.underlying25 (b := 16) (by kernel_rfl) (opens_attr N)) (opens_slice Try.underlying26 (b := 80) (by kernel_rfl) (opens_eq N))
    (fun _ _ => rfl) (fun _ _ => by simp [szSys]; omega) (fun _ _ _ k => k) (fun _ _ _ _ => trivial)
theorem opens_sys : Opens Try.prog 28 Sys.d szSys okSys any := by
  intro N H enc w n cs x hn h
  exact opens_sysF N H enc w n cs x (by omega) h
set_option maxRecDepth 100000 in
theorem open_sysV {W : World} {base : Nat} {v : Value} {s : Sys} (hv : Value.okWide Try.prog W .any base 28 v) (h : Rd AnyB W s.d v.cells.toList) : ∃ u u', v = .agg #[u, u'] ∧ Rd AnyB W (.sl (s.attrs.map Attr.d)) [u] ∧ Rd AnyB W (.sl (s.eqs.map Eqn.d)) [u'] := by
  obtain ⟨cs, rfl, hsz⟩ := okWide_struct Try.underlying28 hv
  obtain ⟨c1, c2, e1, h1, h2⟩ := h
  rw [RdAll.one_iff] at h2
  have h3 := h1
  have h4 := h2
  obtain ⟨a, cap, L, e, _⟩ := h1
  obtain ⟨a', cap', L', e', _⟩ := h2
  subst e e'
  refine ⟨_, _, ?_, h3, h4⟩
  congr 1
  exact Array.toList_inj.1 e1
set_option maxRecDepth 100000 in
theorem open_refV {W : World} {base : Nat} {v : Value} {x : Ref} (hv : Value.okWide Try.prog W .any base 30 v) (h : Rd AnyB W x.d v.cells.toList) : v = .agg #[.int .i64 x.at', .int .i64 x.attr] := by
  obtain ⟨cs, rfl, hsz⟩ := okWide_struct Try.underlying30 hv
  have e1 : cs.toList = [.int .i64 x.at', .int .i64 x.attr] := Rd.ref h
  congr 1
  exact Array.toList_inj.1 e1
end At
end Go.Proofs.Ythkdeljlhplkgaa
