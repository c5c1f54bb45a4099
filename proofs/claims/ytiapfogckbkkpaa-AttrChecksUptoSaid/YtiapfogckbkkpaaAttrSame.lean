/- The contract of sameExpr, of two expressions that are the same. -/
import Derived.Test.YtiapfogckbkkpaaAttrCopy
namespace Go.Proofs.Ytiapfogckbkkpaa
open Go.RowKit
namespace At

def exV (x : Expr) (v : Value) : Value := .agg #[.int .i64 x.kind, .int .i64 x.n, .int .i64 x.ref.at', .int .i64 x.ref.attr, v]
def SameF (l : List Expr) (w : World) : Prop := ∀ (W : World) (y : Expr) (v v' : Value), y ∈ l → Below w.heap.size w W → Rd AnyB W (.sl (y.args.map Expr.d)) [v] → Rd AnyB W (.sl (y.args.map Expr.d)) [v'] →
  Calls Try.prog 9 #[exV y v, exV y v'] W fun e w' => e = .returned (.bool true) ∧ Below W.heap.size W w'

set_option maxHeartbeats 4000000 in
set_option maxRecDepth 100000 in
theorem equalExprs (l : List Expr) (a a' : Option Addr) (c c' : Nat) (w : World) (hf : SameF l w) (h : Rd AnyB w (.sl (l.map Expr.d)) [.slice a l.length c]) (h' : Rd AnyB w (.sl (l.map Expr.d)) [.slice a' l.length c']) :
    Calls Try.prog 19 #[.slice a l.length c, .slice a' l.length c', .func (.func 9) #[] #[]] w fun e w' => e = .returned (.bool true) ∧ Below w.heap.size w w' := by
  have hc := h.bounds.2
  unfold maxLen at hc
  obtain ⟨hc1, hc2⟩ := hc
  have HF := Lib.hid hf
  have H1 := Lib.hid h
  have H2 := Lib.hid h'
  clear hf h h'
  have eg : ∀ args w, (callFunc 9 args).run Try.prog w = .ok (.enter 9 args) w := fun _ _ => by kernel_rfl
  go_enter Try.func19, Try.ntmps19
  go_wp2_with fail
  go_loopg [17] l.length (fun gg v17 wr => ∃ i : Nat, i ≤ l.length ∧ l.length - i ≤ gg ∧ v17 = .int .i64 i ∧ Hid (Below w.heap.size w wr))
  case atStart => exact ⟨0, by omega, by omega, rfl, Below.refl _ _⟩
  case round =>
    obtain ⟨i, hi, hg, rfl, HB⟩ := hrel
    by_cases hlt : i < l.length
    · have hlt' : (i : Int) < (l.length : Int) := by omega
      obtain ⟨b, off, v, hae, -, hbl, c0, c1, c2, c3, c4, hk⟩ := Rd.arg (H1.out.below HB.out) hlt
      obtain ⟨av, cv, rfl, -, -⟩ := hk.form
      rw [List.length_map] at c4 hk
      obtain ⟨w2, HW2⟩ := nameIt (wr.alloc (.cells #[.int .i64 l[i].kind, .int .i64 l[i].n, .int .i64 l[i].ref.at', .int .i64 l[i].ref.attr, .slice av l[i].args.length cv] 39))
      have hb2 : Below wr.heap.size wr w2 := by rw [← HW2.out]; exact (Below.refl _ _).alloc (Nat.le_refl _) _
      have X2 : Hid (w2.heap[wr.heap.size]? = some (.cells #[.int .i64 l[i].kind, .int .i64 l[i].n, .int .i64 l[i].ref.at', .int .i64 l[i].ref.attr, .slice av l[i].args.length cv] 39 (0, 0))) := by rw [← HW2.out]; exact bx_new _ _ _ rfl
      have hs2 : w2.heap.size = wr.heap.size + 1 := by rw [← HW2.out]; simp
      have HB2 : Hid (Below w.heap.size w w2) := HB.out.trans (hb2.mono HB.out.size)
      obtain ⟨b', off', v', hae', -, hbl', d0, d1, d2, d3, d4, hk'⟩ := Rd.arg (H2.out.below HB2.out) hlt
      obtain ⟨av', cv', rfl, -, -⟩ := hk'.form
      rw [List.length_map] at d4 hk'
      obtain ⟨w3, HW3⟩ := nameIt (w2.alloc (.cells #[.int .i64 l[i].kind, .int .i64 l[i].n, .int .i64 l[i].ref.at', .int .i64 l[i].ref.attr, .slice av' l[i].args.length cv'] 39))
      have hb3 : Below w2.heap.size w2 w3 := by rw [← HW3.out]; exact (Below.refl _ _).alloc (Nat.le_refl _) _
      have X3 : Hid (w3.heap[wr.heap.size + 1]? = some (.cells #[.int .i64 l[i].kind, .int .i64 l[i].n, .int .i64 l[i].ref.at', .int .i64 l[i].ref.attr, .slice av' l[i].args.length cv'] 39 (0, 0))) := by rw [← HW3.out]; exact bx_new _ _ _ hs2.symm
      have X23 := Lib.hid (bx_keep X2.out hb3)
      have HB3 : Hid (Below w.heap.size w w3) := HB2.out.trans (hb3.mono HB2.out.size)
      have hcall := HF.out w3 l[i] _ _ (List.getElem_mem hlt) HB3.out ((hk.below hb2).below hb3) (hk'.below hb3)
      unfold exV at hcall
      obtain ⟨x, HX⟩ := nameIt (l[i]'hlt)
      rw [HX.out] at c0 c1 c2 c3 c4 d0 d1 d2 d3 d4 hcall HW2 HW3 X2 X3 X23
      obtain ⟨q0, HQ0⟩ := nameIt x.kind
      obtain ⟨q1, HQ1⟩ := nameIt x.n
      obtain ⟨q2, HQ2⟩ := nameIt x.ref.at'
      obtain ⟨q3, HQ3⟩ := nameIt x.ref.attr
      obtain ⟨qn, HQN⟩ := nameIt x.args.length
      rw [HQ0.out] at c0 d0
      rw [HQ1.out] at c1 d1
      rw [HQ2.out] at c2 d2
      rw [HQ3.out] at c3 d3
      rw [HQN.out] at c4 d4
      rw [HQ0.out, HQ1.out, HQ2.out, HQ3.out, HQN.out] at hcall HW2 HW3 X2 X3 X23
      have HC := Lib.hid hcall
      have HS2 := Lib.hid hs2
      obtain ⟨y0, y1, y2, y3, y4⟩ := bx_cells5 X23.out
      obtain ⟨z0, z1, z2, z3, z4⟩ := bx_cells5 X3.out
      subst hae hae'
      clear hcall hk hk' hb2 hb3 hs2
      go_upto_region 6 with fail
      rw [HW2.out]
      clear c0 c1 c2 c3 c4
      go_upto_region 7 with fail
      rw [HS2.out, HW3.out]
      clear d0 d1 d2 d3 d4
      go_wp2_with fail
      refine HC.out.mono ?_
      rintro e w4 ⟨rfl, hb4⟩
      have HB4 : Hid (Below w.heap.size w w4) := HB3.out.trans (hb4.mono HB3.out.size)
      clear hb4 y0 y1 y2 y3 y4 z0 z1 z2 z3 z4
      go_wp2_with fail
      go_roundg (l.length - (i + 1))
      case measure => omega
      case rel => exact ⟨i + 1, by omega, by omega, by go_num, HB4⟩
    · have hlt' : ¬ (i : Int) < (l.length : Int) := by omega
      go_wp2_with fail
      go_ret
      exact ⟨rfl, HB.out⟩

set_option maxHeartbeats 4000000 in
set_option maxRecDepth 100000 in
theorem sameE : ∀ (m : Nat) (x : Expr) (v v' : Value) (w : World), x.size ≤ m → Rd AnyB w (.sl (x.args.map Expr.d)) [v] → Rd AnyB w (.sl (x.args.map Expr.d)) [v'] →
    Calls Try.prog 9 #[exV x v, exV x v'] w fun e w' => e = .returned (.bool true) ∧ Below w.heap.size w w' := by
  intro m
  induction m with
  | zero => intro x v v' w hm; have := x.size_pos; omega
  | succ m ih =>
  intro x v v' w hm hv hv'
  obtain ⟨a, c, rfl, -, -⟩ := hv.form
  obtain ⟨a', c', rfl, -, -⟩ := hv'.form
  rw [List.length_map] at hv hv' ⊢
  unfold exV
  obtain ⟨w0, HW0⟩ := nameIt ((w.alloc (.cells #[.int .i64 x.kind, .int .i64 x.n, .int .i64 x.ref.at', .int .i64 x.ref.attr, .slice a x.args.length c] 39)).alloc (.cells #[.int .i64 x.kind, .int .i64 x.n, .int .i64 x.ref.at', .int .i64 x.ref.attr, .slice a' x.args.length c'] 39))
  have HB0 : Hid (Below w.heap.size w w0) := by rw [← HW0.out]; exact ((Below.refl _ _).alloc (Nat.le_refl _) _).alloc (by simp) _
  have X1 : Hid (w0.heap[w.heap.size]? = some (.cells #[.int .i64 x.kind, .int .i64 x.n, .int .i64 x.ref.at', .int .i64 x.ref.attr, .slice a x.args.length c] 39 (0, 0))) := by
    rw [← HW0.out]; exact bx_keep (bx_new _ _ _ rfl) ((Below.refl _ _).alloc (Nat.le_refl _) _)
  have X2 : Hid (w0.heap[w.heap.size + 1]? = some (.cells #[.int .i64 x.kind, .int .i64 x.n, .int .i64 x.ref.at', .int .i64 x.ref.attr, .slice a' x.args.length c'] 39 (0, 0))) := by
    rw [← HW0.out]; exact bx_new _ _ _ (by simp)
  have HEQ := Lib.hid (equalExprs x.args a a' c c' w0 (fun W y u u' hy hb h1 h2 => ih y u u' W (by
    obtain ⟨i, hi, rfl⟩ := List.getElem_of_mem hy
    have := sizeL_get hi
    rw [Expr.size_eq] at hm
    omega) h1 h2) (hv.below HB0.out) (hv'.below HB0.out))
  obtain ⟨q0, HQ0⟩ := nameIt x.kind
  obtain ⟨q1, HQ1⟩ := nameIt x.n
  obtain ⟨q2, HQ2⟩ := nameIt x.ref.at'
  obtain ⟨q3, HQ3⟩ := nameIt x.ref.attr
  obtain ⟨qn, HQN⟩ := nameIt x.args.length
  rw [HQ0.out, HQ1.out, HQ2.out, HQ3.out, HQN.out] at HW0 X1 X2 ⊢
  rw [HQN.out] at HEQ
  obtain ⟨y0, y1, y2, y3, y4⟩ := bx_cells5 X1.out
  obtain ⟨z0, z1, z2, z3, z4⟩ := bx_cells5 X2.out
  clear hv hv' ih hm
  go_enter Try.func9, Try.ntmps9
  go_upto_region 1 with fail
  rw [HW0.out]
  go_wp2_with fail
  refine HEQ.out.mono ?_
  rintro e w4 ⟨rfl, hb4⟩
  have HB4 : Hid (Below w.heap.size w w4) := HB0.out.trans (hb4.mono HB0.out.size)
  clear hb4 y0 y1 y2 y3 y4 z0 z1 z2 z3 z4
  go_wp2_with fail
  go_ret
  exact ⟨rfl, HB4.out⟩
end At
end Go.Proofs.Ytiapfogckbkkpaa
