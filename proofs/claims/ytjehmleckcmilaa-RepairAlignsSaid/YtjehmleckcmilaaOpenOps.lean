/- How operations and costs that came in read. -/
import Derived.Test.YtjehmleckcmilaaOpen
import Derived.Test.YtjehmleckcmilaaOps
import Derived.OpenShut
namespace Go.Proofs.Ytjehmleckcmilaa
open Go.RowKit Go.ChangeShapes Go.WideShapes Go.Deep

def okOp (o : Al.Op) : Prop := i64 o.kind ∧ i64 o.at' ∧ i64 o.term
def szOp (_ : Al.Op) : Nat := 1
set_option maxRecDepth 100000 in
theorem opens_opF (N : Nat) : OpensF Try.prog 33 Al.Op.d szOp okOp any (N + 1) :=
  opens_struct3 (c0 := 1) (c1 := 1) (c2 := 1) (fun a b c => Al.Op.mk a b c) Try.underlying33 ⟨rfl, rfl, rfl, by kernel_rfl, by kernel_rfl, by kernel_rfl, by kernel_rfl⟩ (opens_int Try.underlying3 N) (opens_int Try.underlying3 N) (opens_int Try.underlying3 N)
    (fun _ _ _ => rfl) (fun _ _ _ => by simp [szOp]) (fun _ _ _ h1 h2 h3 => ⟨h1, h2, h3⟩) (fun _ _ _ _ _ _ => trivial)
set_option maxRecDepth 100000 in
theorem opens_ops : Opens Try.prog 24 (slD Al.Op.d) (slSz szOp) (slOk okOp) (slLim 24 any) := by
  intro N H enc w n cs x hn h
  exact opens_slice Try.underlying24 (b := 24) (by kernel_rfl) (opens_opF N) H enc w n cs x (by omega) h

set_option maxRecDepth 100000 in
theorem open_costs {H : Type} {enc : TypeId × Value → H} {W : World} {base : Nat} {v : Value} {d : DataW H} {p : List MemPlace} (hv : Value.okWide Try.prog W .any base 23 v) (h : DataW.Trod enc Try.prog W 0 (fun _ => true) true 23 v d p) :
    ∃ c0 c1 c2 : Int, v = .agg #[.int .i64 c0, .int .i64 c1, .int .i64 c2] := by
  have hv' : ∃ cs : Array Value, v = .agg cs ∧ cs.size = Try.prog.cellsOf 23 := by
    simp only [Value.okWide, Try.underlying23] at hv
    obtain ⟨cs, h1, h2, _⟩ := hv
    exact ⟨cs, h1, h2⟩
  obtain ⟨cs, rfl, hsz⟩ := hv'
  have h3 : Try.prog.cellsOf 23 = 3 := by kernel_rfl
  have h1 : Try.prog.cellsOf 3 = 1 := by kernel_rfl
  obtain ⟨n, hn⟩ := h
  obtain ⟨xs, m, _, _, hl, hx, hel⟩ := DataW.trod_array Try.underlying23 hn
  rw [h3] at hl
  rw [h1] at hel
  rcases cs with ⟨cs⟩
  match cs, hl with
  | [a, b, c], _ =>
    have e0 := hel 0 (by decide)
    have e1 := hel 1 (by decide)
    have e2 := hel 2 (by decide)
    rw [List.getElem?_eq_getElem (by omega)] at e0 e1 e2
    obtain ⟨z0, g0, _, _⟩ := DataW.trod_int Try.underlying3 e0
    obtain ⟨z1, g1, _, _⟩ := DataW.trod_int Try.underlying3 e1
    obtain ⟨z2, g2, _, _⟩ := DataW.trod_int Try.underlying3 e2
    simp [Value.cells] at g0 g1 g2
    subst g0 g1 g2
    exact ⟨z0, z1, z2, rfl⟩
end Go.Proofs.Ytjehmleckcmilaa
