/- A teacher behind a pointer: Symbols, Asked. -/
import Derived.Test.YtenkhjmedolknaaDfaOut
import Derived.BigQuiet
namespace Go.Proofs.Ytenkhjmedolknaa
open Go.RowKit
namespace Df

theorem bx_cells5D {w : World} {b : Nat} {x0 x1 x2 x3 x4 : Value} {T : TypeId} (h : w.heap[b]? = some (.cells #[x0, x1, x2, x3, x4] T (0, 0))) :
    w.cell? ⟨b, 0, none⟩ = some x0 ∧ w.cell? ⟨b, 0 + 1, none⟩ = some x1 ∧ w.cell? ⟨b, 0 + 2, none⟩ = some x2 ∧ w.cell? ⟨b, 0 + 3, none⟩ = some x3 ∧ w.cell? ⟨b, 0 + 4, none⟩ = some x4 := by
  refine ⟨?_, ?_, ?_, ?_, ?_⟩ <;> simp [World.cell?, h]
/-- the block of a teacher: its automaton's three cells, the two counts -/
def TeachB (tb : Nat) (x : Dfa) (va vn : Value) (m e : Int) (w : World) : Prop := ∃ T, w.heap[tb]? = some (.cells #[.int .i64 x.start, va, vn, .int .i64 m, .int .i64 e] T (0, 0))

set_option maxHeartbeats 1000000 in
theorem symbolsE (x : Dfa) (hx : Right x) (tb : Nat) (va : Value) (an : Option Addr) (cn : Nat) (m e0 : Int) (w : World) (ht : TeachB tb x va (.slice an x.next.length cn) m e0 w) (hN : Rd AnyB w (.sl (x.next.map D.ints)) [.slice an x.next.length cn]) :
    Calls Try.prog 6 #[.pointer (some ⟨tb, 0, none⟩)] w fun e w' => e = .returned (.int .i64 (x.width : Int)) ∧ Below w.heap.size w w' := by
  obtain ⟨T, X⟩ := ht
  obtain ⟨x0, x1, x2, x3, x4⟩ := bx_cells5D X
  have h0 := hx.states.1
  obtain ⟨b, off, vr, hae, c0, hsl⟩ := Rd.rowI_at hN h0
  obtain ⟨ar, cr, rfl⟩ := hsl.form
  rw [ints_len, width_at h0, Nat.add_zero] at c0
  obtain ⟨k, HM⟩ := nameIt x.width
  rw [HM.out] at c0 ⊢
  obtain ⟨n, HN⟩ := nameIt x.next.length
  rw [HN.out] at x2 h0
  have hn0 : (0 : Int) < (n : Int) := by omega
  subst hae
  clear hsl hN X
  go_enter Try.func6, Try.ntmps6
  go_wp2_with fail
  go_ret
  exact ⟨rfl, Below.refl _ _⟩

set_option maxHeartbeats 1000000 in
theorem askedE (x : Dfa) (tb : Nat) (va vn : Value) (m e0 : Int) (w : World) (ht : TeachB tb x va vn m e0 w) :
    Calls Try.prog 13 #[.pointer (some ⟨tb, 0, none⟩)] w fun e w' => e = .returned (.tuple #[.int .i64 m, .int .i64 e0]) ∧ Below w.heap.size w w' := by
  obtain ⟨T, X⟩ := ht
  obtain ⟨x0, x1, x2, x3, x4⟩ := bx_cells5D X
  clear X
  go_enter Try.func13, Try.ntmps13
  go_upto_region 1 with fail
  go_quiet (fail)
  go_wp2_with fail
  refine bodyPost_ret (results_tmp2 Try.results13 _ _ _) rfl ?_
  exact ⟨rfl, below_drewN _ _⟩
end Df
end Go.Proofs.Ytenkhjmedolknaa
