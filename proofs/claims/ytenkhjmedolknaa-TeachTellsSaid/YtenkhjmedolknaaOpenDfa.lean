/- How automata and words that came in read. -/
import Derived.Test.YtenkhjmedolknaaOpen
import Derived.Test.YtenkhjmedolknaaTeachLaw
import Derived.OpenShut
namespace Go.Proofs.Ytenkhjmedolknaa
open Go.RowKit Go.ChangeShapes Go.WideShapes Go.Deep
namespace Df

def szDfa (x : Dfa) : Nat := slSz one x.acc + slSz (slSz one) x.next
def okD (_ : Dfa) : Prop := True
theorem opens_row (N : Nat) : OpensF Try.prog 22 (slD D.int) (slSz one) (slOk i64) (slLim 8 any) N := opens_slice Try.underlying22 (by kernel_rfl) (opens_int Try.underlying3 N)
set_option maxRecDepth 100000 in
theorem opens_dfaF (N : Nat) : OpensF Try.prog 25 Dfa.d szDfa okD any (N + 1) :=
  opens_struct3 (c0 := 1) (c1 := 1) (c2 := 1) (fun a b c => Dfa.mk a b c) Try.underlying25 ⟨rfl, rfl, rfl, by kernel_rfl, by kernel_rfl, by kernel_rfl, by kernel_rfl⟩ (opens_int Try.underlying3 N) (opens_row N) (opens_slice Try.underlying23 (b := 24) (by kernel_rfl) (opens_row N))
    (fun _ _ _ => rfl) (fun _ _ _ => by simp [szDfa]; omega) (fun _ _ _ _ _ _ => trivial) (fun _ _ _ _ _ _ => trivial)
theorem opens_dfa : Opens Try.prog 25 Dfa.d szDfa okD any := by
  intro N H enc w n cs x hn h
  exact opens_dfaF N H enc w n cs x (by omega) h
theorem opens_rows : Opens Try.prog 23 (slD (slD D.int)) (slSz (slSz one)) (slOk (slOk i64)) (slLim 24 (slLim 8 any)) := by
  intro N H enc w n cs x hn h
  exact opens_slice Try.underlying23 (b := 24) (by kernel_rfl) (opens_row N) H enc w n cs x hn h

set_option maxRecDepth 100000 in
theorem open_dfaV {W : World} {base : Nat} {v : Value} {x : Dfa} (hv : Value.okWide Try.prog W .any base 25 v) (h : Rd AnyB W x.d v.cells.toList) : ∃ u n, v = .agg #[.int .i64 x.start, u, n] ∧ Sl W u (ints x.acc) ∧ Rd AnyB W (.sl (x.next.map D.ints)) [n] := by
  obtain ⟨cs, rfl, hsz⟩ := okWide_struct Try.underlying25 hv
  obtain ⟨c1, r1, e1, h1, h2⟩ := h
  obtain ⟨c2, r2, rfl, h2, h3⟩ := h2
  rw [RdAll.one_iff] at h3
  simp [Rd] at h1
  subst h1
  have h2' := h2
  have h3' := h3
  obtain ⟨a, cap, L, e, _⟩ := h2
  subst e
  obtain ⟨a', cap', L', e', _⟩ := h3
  subst e'
  refine ⟨_, _, ?_, sl_rd h2', h3'⟩
  congr 1
  exact Array.toList_inj.1 e1
theorem open_rowsV {W : World} {base : Nat} {v : Value} {l : List (List Int)} (hv : Value.okWide Try.prog W .any base 23 v) (h : Rd AnyB W (slD (slD D.int) l) v.cells.toList) : Rd AnyB W (.sl (l.map D.ints)) [v] := by
  obtain ⟨ad, len, cap, rfl⟩ := okWide_slice Try.underlying23 hv
  exact h
theorem lawTV (x y : Dfa) (ws : List (List Int)) (ua un ub um u : Value) (w : World) (h1 : Sl w ua (ints x.acc) ∧ Rd AnyB w (.sl (x.next.map D.ints)) [un]) (h2 : Sl w ub (ints y.acc) ∧ Rd AnyB w (.sl (y.next.map D.ints)) [um]) (hW : Rd AnyB w (.sl (ws.map D.ints)) [u]) :
    Calls Try.prog 3 #[.agg #[.int .i64 x.start, ua, un], .agg #[.int .i64 y.start, ub, um], u] w fun e w' => e = .returned (.bool true) ∧ Below w.heap.size w w' := by
  obtain ⟨h1, h1'⟩ := h1
  obtain ⟨h2, h2'⟩ := h2
  obtain ⟨a1, c1, rfl⟩ := h1.form
  obtain ⟨a2, c2, rfl⟩ := h2.form
  obtain ⟨a3, c3, rfl, -, -⟩ := h1'.form
  obtain ⟨a4, c4, rfl, -, -⟩ := h2'.form
  obtain ⟨a5, c5, rfl, -, -⟩ := hW.form
  rw [ints_len] at h1 h2
  rw [List.length_map] at h1' h2' hW
  rw [ints_len, ints_len, List.length_map, List.length_map, List.length_map]
  exact lawTT x y ws a1 a3 a2 a4 a5 c1 c3 c2 c4 c5 w ⟨h1, h1'⟩ ⟨h2, h2'⟩ hW
end Df
end Go.Proofs.Ytenkhjmedolknaa
