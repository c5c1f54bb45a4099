/- How arguments of package edit read. -/
import Derived.Test.YtfbacnifankfkaaEditWalk
import Derived.Lib.SmallJoins
import Derived.SizedLaws
namespace Go.Proofs.Ytfbacnifankfkaa
open Go.RowKit Go.ChangeShapes Go.WideShapes Go.Deep Go.Joins

theorem slice_val {P : Program} {t e : TypeId} {H : Type} {enc : TypeId × Value → H} {w : World} {n : Nat} {v : Value} {y : DataW H × List MemPlace} (ht : P.underlying t = some (.slice e)) (h : DataW.trod enc P w 0 (fun _ => true) true n t [v] = some y) : v.cells.toList = [v] := by
  rcases DataW.trod_slice ht h with ⟨hc, _⟩ | ⟨a, len, cap, elems, rest, n', _, hc, _⟩
  · simp at hc; subst hc; rfl
  · simp at hc; subst hc; rfl

set_option maxRecDepth 100000 in
/-- an edit that came in -/
theorem open_edit {H : Type} {enc : TypeId × Value → H} {W : World} {base : Nat} {v : Value} {d : DataW H} {p : List MemPlace}
    (hv : Value.okWide Try.prog W .any base 48 v) (h : DataW.Trod enc Try.prog W 0 (fun _ => true) true 48 v d p) :
    ∃ (f t : Int) (an : Option Addr) (l : List Int) (cn : Nat) (dn : DataW H), v = .agg #[.int .i64 f, .int .i64 t, .slice an l.length cn] ∧ Sl W (.slice an l.length cn) (ints l) ∧
      d = .agg [.lit (.int .i64 f), .lit (.int .i64 t), dn] ∧ ((dn = .nil ∧ l = []) ∨ ∃ sp, dn = .slice (l.map fun z => .lit (.int .i64 z)) sp) := by
  obtain ⟨c0, c1, c2, y0, y1, y2, m, rfl, rfl, rfl, hy0, hy1, hy2⟩ := open_agg3 Try.underlying48 (by kernel_rfl) (by kernel_rfl) hv h
  obtain ⟨f, e0, h0, _⟩ := DataW.trod_int Try.underlying3 hy0
  obtain ⟨t, e1, h1, _⟩ := DataW.trod_int Try.underlying3 hy1
  simp at e0 e1
  subst e0 e1
  have hc := slice_val Try.underlying29 hy2
  obtain ⟨l, hs, _, hd⟩ := open_sl (α := Int) (v := c2) (d := y2.1) (p := y2.2) (Value.int .i64) (fun z => .lit (.int .i64 z)) (fun z => (Lit.int .i64 z).wf = true) Try.underlying29 (by kernel_rfl) (el_int Try.underlying3) ⟨m, by rw [hc]; exact hy2⟩ hc
  obtain ⟨an, cn, rfl⟩ := hs.form
  rw [List.length_map] at hs ⊢
  exact ⟨f, t, an, l, cn, y2.1, rfl, hs, by rw [h0, h1], hd⟩

set_option maxRecDepth 100000 in
/-- the reach, of an edit -/
theorem sized_edit {H : Type} {ts : List TypeId} {ds : List (DataW H)} (h : (DataW.weightsEach Try.prog ts ds).all (· ≤ reachBytes) = true) {j : Nat} {f t : Int} {l : List Int} {dn : DataW H} (ht : ts[j]? = some 48)
    (hd : ds[j]? = some (.agg [.lit (.int .i64 f), .lit (.int .i64 t), dn])) (hdn : (dn = .nil ∧ l = []) ∨ ∃ sp, dn = .slice (l.map fun z => .lit (.int .i64 z)) sp) : l.length * 8 ≤ 140737488351232 := by
  rcases hdn with ⟨_, rfl⟩ | ⟨sp, rfl⟩
  · simp
  · have h1 : ((l.map fun z => DataW.lit (H := H) (.int .i64 z)).length + sp.length) * Try.prog.bytesOf 3 ∈ DataW.weights Try.prog 48 (.agg [.lit (.int .i64 f), .lit (.int .i64 t), .slice (l.map fun z => .lit (.int .i64 z)) sp]) := by
      simp [DataW.weights, Try.underlying48, Try.underlying29, DataW.weightsEach]
    have h2 := List.all_eq_true.1 h _ (DataW.weights_mem_each ht hd _ h1)
    rw [show Try.prog.bytesOf 3 = 8 by kernel_rfl] at h2
    simp [reachBytes] at h2
    omega
end Go.Proofs.Ytfbacnifankfkaa
