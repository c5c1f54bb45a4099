/- The contract of the reference's exprs. -/
import Derived.Test.YthkdeljlhplkgaaAttrRd
import Derived.Test.YthkdeljlhplkgaaAppRow
namespace Go.Proofs.Ythkdeljlhplkgaa
open Go.RowKit
namespace At

theorem elExpr : ElemT Try.prog 31 33 5 56 := ElemT.mk' (z := .agg #[.int .i64 0, .int .i64 0, .int .i64 0, .int .i64 0, .slice none 0 0]) Try.underlying31 (by kernel_rfl) rfl (by decide)
def ExprsPost (S0 : Nat → Prop) (x : Expr) (w : World) (e : Ending) (w' : World) : Prop :=
  ∃ v xs, e = .returned v ∧ w'.ownsRow w.heap.size 33 5 v x.size xs ∧ RdAll S0 w' ((enodes x).map Expr.d) xs ∧ Below w.heap.size w w'
/-- the rounds: the first i arguments' nodes are listed -/
structure ExI (S0 : Nat → Prop) (x : Expr) (w : World) (i n : Nat) (v : Value) (wr : World) : Prop where
  row : ∃ xs, wr.ownsRow w.heap.size 33 5 v n xs ∧ RdAll S0 wr ((x :: enodesL (x.args.take i)).map Expr.d) xs
  bel : Below w.heap.size w wr
  len : n = 1 + sizeL (x.args.take i)

set_option maxHeartbeats 4000000 in
set_option maxRecDepth 100000 in
theorem exprsE (S0 : Nat → Prop) : ∀ (m : Nat) (x : Expr) (v : Value) (w : World), x.size ≤ m → x.size ≤ 1048576 → (∀ k, S0 k → k < w.heap.size) → Rd S0 w (.sl (x.args.map Expr.d)) [v] →
    Calls Try.prog 21 #[.agg #[.int .i64 x.kind, .int .i64 x.n, .int .i64 x.ref.at', .int .i64 x.ref.attr, v]] w (ExprsPost S0 x w) := by
  intro m
  induction m with
  | zero => intro x v w hm; have := x.size_pos; omega
  | succ m ih =>
  intro x v w hm hM hS hv
  obtain ⟨a, cap, rfl, hc1, hc2⟩ := hv.form
  rw [List.length_map] at hc1 hv ⊢
  unfold maxLen at hc2
  have HV := Lib.hid hv
  have HM := Lib.hid hm
  have HM2 := Lib.hid hM
  have HS := Lib.hid hS
  have IH := Lib.hid ih
  have HSZ := Lib.hid x.size_eq
  have HNO := Lib.hid (enodes_eq x)
  obtain ⟨K, HKN⟩ := nameIt x.args
  rw [HKN.out] at hc1 HV HSZ HNO ⊢
  obtain ⟨w0, HW0⟩ := nameIt (w.alloc (.cells #[.int .i64 x.kind, .int .i64 x.n, .int .i64 x.ref.at', .int .i64 x.ref.attr, .slice a K.length cap] 33))
  have hb0 : Below w.heap.size w w0 := by rw [← HW0.out]; exact (Below.refl _ _).alloc (Nat.le_refl _) _
  have X0 : Hid (w0.heap[w.heap.size]? = some (.cells #[.int .i64 x.kind, .int .i64 x.n, .int .i64 x.ref.at', .int .i64 x.ref.attr, .slice a K.length cap] 33 (0, 0))) := by rw [← HW0.out]; exact bx_new _ _ _ rfl
  obtain ⟨w1, HW1⟩ := nameIt (w0.alloc (.cells #[.int .i64 x.kind, .int .i64 x.n, .int .i64 x.ref.at', .int .i64 x.ref.attr, .slice a K.length cap] 33))
  have hb1 : Below w0.heap.size w0 w1 := by rw [← HW1.out]; exact (Below.refl _ _).alloc (Nat.le_refl _) _
  have HB1 : Hid (Below w.heap.size w w1) := hb0.trans (hb1.mono hb0.size)
  have HI0 : Hid (ExI S0 x w 0 1 (.slice (some ⟨w0.heap.size, 0, none⟩) 1 1) w1) := by
    refine ⟨⟨_, own_of_blockB (n := 1) (by rw [← HW1.out]; exact bx_new _ _ _ rfl) hb0.size rfl (by simp [maxLen]), ?_⟩, HB1.out, by simp [sizeL]⟩
    simp only [List.take_zero, enodesL, List.map_cons, List.map_nil]
    exact RdAll.one (rd_expr (by rw [HKN.out]; exact HV.out.below HB1.out))
  have X1 := Lib.hid (bx_keep X0.out hb1)
  obtain ⟨q0, HQ0⟩ := nameIt x.kind
  obtain ⟨q1, HQ1⟩ := nameIt x.n
  obtain ⟨q2, HQ2⟩ := nameIt x.ref.at'
  obtain ⟨q3, HQ3⟩ := nameIt x.ref.attr
  rw [HQ0.out, HQ1.out, HQ2.out, HQ3.out] at X0 X1 HW0 HW1 ⊢
  obtain ⟨g0, HG0⟩ := nameIt w0.heap.size
  rw [HG0.out] at HI0
  obtain ⟨x0, x1, x2, x3, x4⟩ := bx_cells5 X0.out
  clear hm hM hS hv ih hb0 hb1
  go_enter Try.func21, Try.ntmps21
  go_upto_region 1 with fail
  rw [HW0.out]
  go_upto_region 2 with fail
  rw [HW1.out, HG0.out]
  clear x0 x1 x2 x3 x4
  obtain ⟨x0, x1, x2, x3, x4⟩ := bx_cells5 X1.out
  go_wp2_with fail
  clear x0 x1 x2 x3 x4
  go_loopg [3, 11] K.length (fun gg v3 v11 wr => ∃ (i n : Nat), i ≤ K.length ∧ K.length - i ≤ gg ∧ v11 = .int .i64 i ∧ Hid (ExI S0 x w i n v3 wr))
  case atStart => exact ⟨0, 1, by omega, by omega, rfl, HI0⟩
  case round =>
    clear HI0
    obtain ⟨i, n, hi, hg, rfl, HI⟩ := hrel
    by_cases hlt : i < K.length
    · have hlt' : (i : Int) < (K.length : Int) := by omega
      obtain ⟨b, off, v, hae, hSb, hbl, e0, e1, e2, e3, e4, hkid⟩ := Rd.arg (HV.out.below HI.out.bel) hlt
      obtain ⟨av, cv, rfl, -, -⟩ := hkid.form
      rw [List.length_map] at e4 hkid
      have hks : sizeL (K.take i) + K[i].size ≤ sizeL K := sizeL_kid hlt
      have hms : K[i].size ≤ m := by
        have h1 := HM.out
        rw [HSZ.out] at h1
        omega
      have hms2 : K[i].size ≤ 1048576 := by
        have h1 := HM2.out
        rw [HSZ.out] at h1
        omega
      have HLEN : Hid (n = 1 + sizeL (K.take i)) := by have h := HI.out.len; rw [HKN.out] at h; exact h
      have hnk : n + K[i].size ≤ 1048576 := by
        have h1 := HM2.out
        have h2 := HLEN.out
        rw [HSZ.out] at h1
        omega
      have HTK := Lib.hid (sizeL_take hlt)
      have HET := Lib.hid (enodesL_take hlt)
      obtain ⟨w2, HW2⟩ := nameIt (wr.alloc (.cells #[.int .i64 K[i].kind, .int .i64 K[i].n, .int .i64 K[i].ref.at', .int .i64 K[i].ref.attr, .slice av K[i].args.length cv] 33))
      have hb2 : Below wr.heap.size wr w2 := by rw [← HW2.out]; exact (Below.refl _ _).alloc (Nat.le_refl _) _
      have X2 : Hid (w2.heap[wr.heap.size]? = some (.cells #[.int .i64 K[i].kind, .int .i64 K[i].n, .int .i64 K[i].ref.at', .int .i64 K[i].ref.attr, .slice av K[i].args.length cv] 33 (0, 0))) := by rw [← HW2.out]; exact bx_new _ _ _ rfl
      have HB2 : Hid (Below w.heap.size w w2) := HI.out.bel.trans (hb2.mono HI.out.bel.size)
      have HIH := Lib.hid (IH.out K[i] _ w2 hms hms2 (fun k hk => Nat.lt_of_lt_of_le (HS.out k hk) HB2.out.size) (hkid.below hb2))
      obtain ⟨kid, HKI⟩ := nameIt (K[i]'hlt)
      rw [HKI.out] at e0 e1 e2 e3 e4 HIH HTK HET X2 HW2 hnk
      obtain ⟨p0, HP0⟩ := nameIt kid.kind
      obtain ⟨p1, HP1⟩ := nameIt kid.n
      obtain ⟨p2, HP2⟩ := nameIt kid.ref.at'
      obtain ⟨p3, HP3⟩ := nameIt kid.ref.attr
      obtain ⟨pn, HPN⟩ := nameIt kid.args.length
      rw [HP0.out, HP1.out, HP2.out, HP3.out, HPN.out] at HIH X2 HW2
      rw [HP0.out] at e0
      rw [HP1.out] at e1
      rw [HP2.out] at e2
      rw [HP3.out] at e3
      rw [HPN.out] at e4
      obtain ⟨ks, HKS⟩ := nameIt kid.size
      rw [HKS.out] at hnk HTK
      obtain ⟨xs, ho, hd⟩ := HI.out.row
      obtain ⟨ar, cr, hvr, hr1, hr2⟩ := own_len ho
      have HO := Lib.hid (own_keep ho hb2)
      have HD := Lib.hid (hd.below hb2)
      subst hae hvr
      obtain ⟨y0, y1, y2, y3, y4⟩ := bx_cells5 X2.out
      clear hkid hms hms2 ho hd hb2 hks
      go_upto_region 5 with fail
      rw [HW2.out]
      clear e0 e1 e2 e3 e4
      go_wp2_with fail
      refine HIH.out.mono ?_
      rintro e w3 ⟨v3, ys, rfl, ho3, hd3, hb3⟩
      rw [HKS.out] at ho3
      obtain ⟨a3, c3, rfl, h31, h32⟩ := own_len ho3
      have HO3 := Lib.hid ho3
      have HD3 := Lib.hid hd3
      have HB3 := Lib.hid hb3
      have HONE : Hid (∀ y ∈ ys, y.oneCell' = true) := RdAll.ones _ _ hd3
      clear ho3 hd3 hb3 y0 y1 y2 y3 y4
      go_wp2_with (refine wp_appRow elExpr (by rfl) _ _ (by rfl) (own_keep HO.out HB3.out) (by rfl) HO3.out (by rfl) HONE.out (by omega) (by unfold maxLen; omega) (Nat.le_trans HB2.out.size HB3.out.size) ?_; intro v4 w4 ho4 hg4 hat4; have HO4 := Lib.hid ho4; have HG4 := Lib.hid hg4; have HA4 := Lib.hid hat4; obtain ⟨a4, c4, rfl, h41, h42⟩ := own_len ho4; clear ho4 hg4 hat4)
      go_roundg (K.length - (i + 1))
      case measure => omega
      case rel =>
        refine ⟨i + 1, n + ks, by omega, by omega, by go_num, ⟨⟨xs ++ ys, HO4.out, ?_⟩, ?_, ?_⟩⟩
        · have h1 := HET.out
          rw [HKN.out, h1]
          rw [← List.cons_append, List.map_append]
          have hlt0 : ∀ k, S0 k → k < w.heap.size := HS.out
          have hblk : ∀ k, S0 k → k < w3.heap.size → S0 k ∧ w4.heap[k]? = w3.heap[k]? := fun k hk hl => ⟨hk, HG4.out.block k hl (fun e => by have := (HO.out.lt k e.symm).1; have := hlt0 k hk; omega)⟩
          refine RdAll.append (RdAll.keep hblk _ _ ?_) (RdAll.keep hblk _ _ HD3.out)
          have h2 := HD.out.below HB3.out
          rw [HKN.out] at h2
          exact h2
        · exact (HB2.out.trans (HB3.out.mono HB2.out.size)).grown HG4.out (Nat.le_trans HB2.out.size HB3.out.size) (fun k e => (HO.out.lt k e).1)
        · rw [HKN.out, HTK.out, HLEN.out]; omega
    · have hlt' : ¬ (i : Int) < (K.length : Int) := by omega
      have hte : K.take i = K := List.take_of_length_le (by omega)
      obtain ⟨xs, ho, hd⟩ := HI.out.row
      have hl := HI.out.len
      rw [HKN.out, hte] at hd hl
      obtain ⟨ar, cr, hvr, hr1, hr2⟩ := own_len ho
      have HO := Lib.hid ho
      have HD := Lib.hid hd
      have HL := Lib.hid hl
      subst hvr
      clear ho hd hl hte
      go_wp2_with fail
      go_ret
      exact ⟨_, xs, rfl, by rw [HSZ.out, ← HL.out]; exact HO.out, by rw [HNO.out]; exact HD.out, HI.out.bel⟩
end At
end Go.Proofs.Ythkdeljlhplkgaa
