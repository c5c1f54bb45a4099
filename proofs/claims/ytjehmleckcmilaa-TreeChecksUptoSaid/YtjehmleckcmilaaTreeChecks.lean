/- The walk of the law TreeChecks. -/
import Derived.Test.YtjehmleckcmilaaTreeFault
import Derived.Test.YtjehmleckcmilaaListG
namespace Go.Proofs.Ytjehmleckcmilaa
open Go.RowKit
namespace TreeChecks

theorem check_ref (g : Gram) (t : Tree) : checkT g t = if checkG g = 0 then TF.refFault g t else checkG g := by
  unfold checkT TF.refFault
  rw [valid_ref]
  by_cases h : checkG g = 0
  · rw [if_neg (by simp [h]), if_pos h]
  · rw [if_pos h, if_neg h]
theorem sym_ref (g : Gram) (t : Tree) : symOf g t = if checkT g t = 0 then labS g t else ⟨false, 0⟩ := by
  unfold symOf
  by_cases h : checkT g t = 0
  · rw [if_pos h, if_pos h]
    have hv : validT g t = true := by
      unfold checkT at h
      by_cases h1 : checkG g = 0
      · rw [if_neg (by simp [h1])] at h
        by_cases h2 : 5000 < (nodes t).length
        · rw [if_pos h2] at h; simp at h
        · rw [if_neg h2] at h
          cases hv : validT g t
          · rw [hv] at h; simp at h
          · rfl
      · rw [if_pos h1] at h; exact absurd h h1
    have hn : nodeOk g t = true := List.all_eq_true.1 hv t (by rw [nodes_eq]; exact List.mem_cons_self)
    rw [labS, nodeOk_label hn]
    rfl
  · rw [if_neg h, if_neg h]

set_option maxHeartbeats 4000000 in
set_option maxRecDepth 100000 in
theorem walk (g : Gram) (vr : Value) (t : Tree) (vk : Value) (w : World) (hr : Rd AnyB w (.sl (g.rules.map Rule.d)) [vr]) (hk : Rd AnyB w (.sl (t.kids.map Tree.d)) [vk]) (hN : (nodes t).length ≤ 1099511627776) :
    Calls Try.prog 7 #[.agg #[.int .i64 g.terms, .int .i64 g.nons, .int .i64 g.start, vr], .agg #[.int .i64 t.rule, .int .i64 t.term, vk]] w fun e w' => e = .returned (.bool true) ∧ Below w.heap.size w w' := by
  obtain ⟨ar, cr, rfl, -, -⟩ := hr.form
  obtain ⟨at', ct, rfl, -, -⟩ := hk.form
  rw [List.length_map] at hr hk ⊢
  rw [List.length_map]
  obtain ⟨w0, HW0⟩ := nameIt ((w.alloc (.cells #[.int .i64 g.terms, .int .i64 g.nons, .int .i64 g.start, .slice ar g.rules.length cr] 77)).alloc (.cells #[.int .i64 t.rule, .int .i64 t.term, .slice at' t.kids.length ct] 43))
  have hb0 : Below w.heap.size w w0 := by rw [← HW0.out]; exact ((Below.refl _ _).alloc (Nat.le_refl _) _).alloc (by simp) _
  have X1 : Hid (w0.heap[w.heap.size]? = some (.cells #[.int .i64 g.terms, .int .i64 g.nons, .int .i64 g.start, .slice ar g.rules.length cr] 77 (0, 0))) := by
    rw [← HW0.out]; exact bx_keep (bx_new _ _ _ rfl) ((Below.refl _ _).alloc (Nat.le_refl _) _)
  have X2 : Hid (w0.heap[w.heap.size + 1]? = some (.cells #[.int .i64 t.rule, .int .i64 t.term, .slice at' t.kids.length ct] 43 (0, 0))) := by
    rw [← HW0.out]; exact bx_new _ _ _ (by simp)
  have CG := Lib.hid (fun W (hb : Below w0.heap.size w0 W) => checkE g ar cr W ((hr.below hb0).below hb))
  have CF := Lib.hid (fun W (hb : Below w0.heap.size w0 W) => TF.treeFaultE g ar cr t at' ct W ((hr.below hb0).below hb) ((hk.below hb0).below hb) hN)
  have CL := Lib.hid (fun W (hb : Below w0.heap.size w0 W) => labelE g ar cr t at' ct W ((hr.below hb0).below hb))
  have CS := Lib.hid (fun W (hb : Below w0.heap.size w0 W) => symbolE g ar cr t at' ct W ((hr.below hb0).below hb) ((hk.below hb0).below hb) hN)
  have CC := Lib.hid (fun W (hb : Below w0.heap.size w0 W) => treeCheckE g ar cr t at' ct W ((hr.below hb0).below hb) ((hk.below hb0).below hb) hN)
  have HB0 := Lib.hid hb0
  have HZV := Lib.hid (check_ref g t)
  have HYV := Lib.hid (sym_ref g t)
  obtain ⟨Z, HZ⟩ := nameIt (checkT g t)
  obtain ⟨Y, HY⟩ := nameIt (symOf g t)
  obtain ⟨E, HE⟩ := nameIt (checkG g)
  obtain ⟨F, HF⟩ := nameIt (TF.refFault g t)
  obtain ⟨S, HS⟩ := nameIt (labS g t)
  obtain ⟨q, HQ⟩ := nameIt (label g t).isSome
  obtain ⟨gt, HGT⟩ := nameIt g.terms
  obtain ⟨gn, HGN⟩ := nameIt g.nons
  obtain ⟨gs, HGS⟩ := nameIt g.start
  obtain ⟨n, HKn⟩ := nameIt g.rules.length
  obtain ⟨r, HRr⟩ := nameIt t.rule
  obtain ⟨tm, HRt⟩ := nameIt t.term
  obtain ⟨m, HMn⟩ := nameIt t.kids.length
  obtain ⟨S0, HS0⟩ := nameIt S.term
  obtain ⟨S1, HS1⟩ := nameIt S.n
  obtain ⟨Y0, HY0⟩ := nameIt Y.term
  obtain ⟨Y1, HY1⟩ := nameIt Y.n
  rw [HGT.out, HGN.out, HGS.out, HKn.out, HRr.out, HRt.out, HMn.out] at HW0
  rw [HGT.out, HGN.out, HGS.out, HKn.out] at X1
  rw [HRr.out, HRt.out, HMn.out] at X2
  rw [HGT.out, HGN.out, HGS.out, HKn.out, HE.out] at CG
  rw [HGT.out, HGN.out, HGS.out, HKn.out, HRr.out, HRt.out, HMn.out, HF.out] at CF
  rw [HGT.out, HGN.out, HGS.out, HKn.out, HRr.out, HRt.out, HMn.out, HS.out, HQ.out, HS0.out, HS1.out] at CL
  rw [HGT.out, HGN.out, HGS.out, HKn.out, HRr.out, HRt.out, HMn.out, HZ.out, HY.out, HY0.out, HY1.out] at CS
  rw [HGT.out, HGN.out, HGS.out, HKn.out, HRr.out, HRt.out, HMn.out, HZ.out] at CC
  rw [HZ.out, HE.out, HF.out] at HZV
  rw [HZ.out, HY.out, HS.out] at HYV
  rw [HGT.out, HGN.out, HGS.out, HKn.out, HRr.out, HRt.out, HMn.out]
  clear hr hk hb0
  go_enter Try.func7, Try.ntmps7
  go_upto_region 1 with fail
  rw [HW0.out]
  go_wp2_with fail
  refine (listE _).mono ?_
  rintro e w1 ⟨v1, rfl, hr1, hb1⟩
  obtain ⟨a1, c1, rfl, -, -⟩ := hr1.form
  simp only [listG, List.map, List.length]
  go_wp2_with fail
  refine (twoE _).mono ?_
  rintro e w2 ⟨v2, rfl, hr2, hb2⟩
  obtain ⟨a2, c2, rfl, -, -⟩ := hr2.form
  simp only [twoT, Tree.rule, Tree.term, Tree.kids, List.map, List.length]
  have HB2 := Lib.hid (hb1.trans (hb2.mono hb1.size))
  have C1 := Lib.hid (treeCheckE listG a1 c1 twoT a2 c2 w2 (hr1.below hb2) hr2 (by decide))
  rw [list_two] at C1
  simp only [listG, twoT, Tree.rule, Tree.term, Tree.kids, List.map, List.length] at C1
  clear hr1 hb1 hr2 hb2
  go_wp2_with fail
  refine C1.out.mono ?_
  rintro e w3 ⟨rfl, hb3⟩
  have HB3 := Lib.hid (HB2.out.trans (hb3.mono HB2.out.size))
  clear hb3
  go_wp2_with fail
  refine (listE _).mono ?_
  rintro e w4 ⟨v4, rfl, hr4, hb4⟩
  obtain ⟨a4, c4, rfl, -, -⟩ := hr4.form
  simp only [listG, List.map, List.length]
  have HB4 := Lib.hid (HB3.out.trans (hb4.mono HB3.out.size))
  have C4 := Lib.hid (treeCheckE listG a4 c4 (.node 2 0 []) none 0 w4 hr4 (rd_nil _ _) (by decide))
  rw [list_bad] at C4
  simp only [listG, Tree.rule, Tree.term, Tree.kids, List.map, List.length] at C4
  clear hr4 hb4
  go_wp2_with fail
  refine C4.out.mono ?_
  rintro e w5 ⟨rfl, hb5⟩
  have HB5 := Lib.hid (HB4.out.trans (hb5.mono HB4.out.size))
  clear hb5
  obtain ⟨x0, x1, x2, x3, y0, y1, y2⟩ := cells7 HB5.out X1.out X2.out
  go_wp2_with fail
  refine (CG.out _ HB5.out).mono ?_
  rintro e w6 ⟨rfl, hb6⟩
  obtain ⟨w7, HW7⟩ := nameIt (w6.alloc (.cells #[.bool false, .int .i64 0] 88))
  have hb67 : Below w6.heap.size w6 w7 := by rw [← HW7.out]; exact (Below.refl _ _).alloc (Nat.le_refl _) _
  have hb7 : Below w5.heap.size w5 w7 := hb6.trans (hb67.mono hb6.size)
  have HB7 := Lib.hid (HB5.out.trans (hb7.mono HB5.out.size))
  have X7 : Hid (w7.heap[w6.heap.size]? = some (.cells #[.bool false, .int .i64 0] 88 (0, 0))) := by rw [← HW7.out]; exact bx_new _ _ _ rfl
  have h06 : w0.heap.size ≤ w6.heap.size := Nat.le_trans HB5.out.size hb6.size
  clear hb6 hb7 hb67 x0 x1 x2 x3 y0 y1 y2
  obtain ⟨x0, x1, x2, x3, y0, y1, y2, z0, z1⟩ := cells9 (Below.refl _ w7) (bx_keep X1.out HB7.out) (bx_keep X2.out HB7.out) X7.out
  go_upto_region 5 with fail
  rw [HW7.out]
  by_cases hE : E = 0
  · subst hE
    have HZ2 : Hid (Z = F) := by show _ = _; rw [HZV.out, if_pos rfl]
    go_wp2_with fail
    refine (CF.out _ HB7.out).mono ?_
    rintro e w8 ⟨rfl, hb8⟩
    have HB8 := Lib.hid (HB7.out.trans (hb8.mono HB7.out.size))
    have X8 := Lib.hid (bx_keep X7.out hb8)
    clear hb8 x0 x1 x2 x3 y0 y1 y2 z0 z1
    obtain ⟨x0, x1, x2, x3, y0, y1, y2, z0, z1⟩ := cells9 (Below.refl _ w8) (bx_keep X1.out HB8.out) (bx_keep X2.out HB8.out) X8.out
    obtain rfl : Z = F := HZ2.out
    by_cases hF : Z = 0
    · subst hF
      obtain rfl : Y = S := by rw [HYV.out, if_pos rfl]
      obtain rfl : S0 = Y0 := HS0.out.symm.trans HY0.out
      obtain rfl : S1 = Y1 := HS1.out.symm.trans HY1.out
      go_wp2_with fail
      refine (CL.out _ HB8.out).mono ?_
      rintro e w9 ⟨rfl, hb9⟩
      have X9 := bx_keep X8.out hb9
      have hB9 := HB8.out.trans (hb9.mono HB8.out.size)
      obtain ⟨f0, f1⟩ := bx_free2 X9
      clear x0 x1 x2 x3 y0 y1 y2 z0 z1
      obtain ⟨x0, x1, x2, x3, y0, y1, y2, z0, z1⟩ := cells9 (Below.refl _ w9) (bx_keep X1.out hB9) (bx_keep X2.out hB9) X9
      obtain ⟨wz, HWZ⟩ := nameIt ((w9.setCell ⟨w6.heap.size, 0, none⟩ (.bool S0)).setCell ⟨w6.heap.size, 1, none⟩ (.int .i64 S1))
      have HBz : Hid (Below w0.heap.size w0 wz) := by rw [← HWZ.out]; exact below_box2 hB9 h06 _ _
      have XZ : Hid (wz.heap[w6.heap.size]? = some (.cells #[.bool S0, .int .i64 S1] 88 (0, 0))) := by rw [← HWZ.out]; exact bx_set2 X9 _ _
      clear X9 hB9 hb9
      go_upto_region 9 with fail
      rw [HWZ.out]
      clear x0 x1 x2 x3 y0 y1 y2 z0 z1 f0 f1
      obtain ⟨x0, x1, x2, x3, y0, y1, y2, z0, z1⟩ := cells9 (Below.refl _ wz) (bx_keep X1.out HBz.out) (bx_keep X2.out HBz.out) XZ.out
      go_wp2_with fail
      refine (CS.out _ HBz.out).mono ?_
      rintro e wa ⟨rfl, hba⟩
      obtain ⟨wb, HWB⟩ := nameIt (wa.alloc (.cells #[.bool S0, .int .i64 S1] 88))
      have hbb : Below wz.heap.size wz wb := by rw [← HWB.out]; exact hba.trans ((Below.refl _ _).alloc hba.size _)
      have HBb := Lib.hid (HBz.out.trans (hbb.mono HBz.out.size))
      have XB : Hid (wb.heap[wa.heap.size]? = some (.cells #[.bool S0, .int .i64 S1] 88 (0, 0))) := by rw [← HWB.out]; exact bx_new _ _ _ rfl
      have XZb := Lib.hid (bx_keep XZ.out hbb)
      clear x0 x1 x2 x3 y0 y1 y2 z0 z1 hba hbb
      obtain ⟨x0, x1, x2, x3, y0, y1, y2, z0, z1⟩ := cells9 (Below.refl _ wb) (bx_keep X1.out HBb.out) (bx_keep X2.out HBb.out) XZb.out
      obtain ⟨s0, s1⟩ := bx_cells2 XB.out
      have heg : Try.prog.eqGuardType Try.prog.depth 88 = false := by kernel_rfl
      have hse := symEq S0 S0 S1 S1
      rw [show (S0 == S0 && S1 == S1) = true by simp] at hse
      go_upto_region 10 with fail
      rw [HWB.out]
      go_wp2_with fail
      refine (CC.out _ HBb.out).mono ?_
      rintro e wc ⟨rfl, hbc⟩
      have HBc := Lib.hid (HBb.out.trans (hbc.mono HBb.out.size))
      clear x0 x1 x2 x3 y0 y1 y2 z0 z1 s0 s1
      obtain ⟨x0, x1, x2, x3, y0, y1, y2, z0, z1⟩ := cells9 hbc (bx_keep X1.out HBb.out) (bx_keep X2.out HBb.out) XZb.out
      obtain ⟨s0, s1⟩ := bx_cells2 (bx_keep XB.out hbc)
      clear hbc
      go_wp2_with fail
      go_ret
      exact ⟨rfl, HB0.out.trans (HBc.out.mono HB0.out.size)⟩
    · have hb : (Z == 0) = false := by simpa using hF
      obtain rfl : Y = ⟨false, 0⟩ := by rw [HYV.out, if_neg hF]
      obtain rfl : Y0 = false := HY0.out.symm
      obtain rfl : Y1 = 0 := HY1.out.symm
      clear hF
      go_upto_region 9 with fail
      obtain ⟨wz, rfl⟩ : ∃ wz : World, wz = w8 := ⟨_, rfl⟩
      have HBz := HB8
      have XZ := X8
      clear x0 x1 x2 x3 y0 y1 y2 z0 z1
      obtain ⟨x0, x1, x2, x3, y0, y1, y2, z0, z1⟩ := cells9 (Below.refl _ wz) (bx_keep X1.out HBz.out) (bx_keep X2.out HBz.out) XZ.out
      go_wp2_with fail
      refine (CS.out _ HBz.out).mono ?_
      rintro e wa ⟨rfl, hba⟩
      obtain ⟨wb, HWB⟩ := nameIt (wa.alloc (.cells #[.bool false, .int .i64 (0 : Int)] 88))
      have hbb : Below wz.heap.size wz wb := by rw [← HWB.out]; exact hba.trans ((Below.refl _ _).alloc hba.size _)
      have HBb := Lib.hid (HBz.out.trans (hbb.mono HBz.out.size))
      have XB : Hid (wb.heap[wa.heap.size]? = some (.cells #[.bool false, .int .i64 (0 : Int)] 88 (0, 0))) := by rw [← HWB.out]; exact bx_new _ _ _ rfl
      have XZb := Lib.hid (bx_keep XZ.out hbb)
      clear x0 x1 x2 x3 y0 y1 y2 z0 z1 hba hbb
      obtain ⟨x0, x1, x2, x3, y0, y1, y2, z0, z1⟩ := cells9 (Below.refl _ wb) (bx_keep X1.out HBb.out) (bx_keep X2.out HBb.out) XZb.out
      obtain ⟨s0, s1⟩ := bx_cells2 XB.out
      have heg : Try.prog.eqGuardType Try.prog.depth 88 = false := by kernel_rfl
      have hse := symEq false false (0 : Int) (0 : Int)
      rw [show (false == false && (0 : Int) == (0 : Int)) = true by simp] at hse
      go_upto_region 10 with fail
      rw [HWB.out]
      go_wp2_with fail
      refine (CC.out _ HBb.out).mono ?_
      rintro e wc ⟨rfl, hbc⟩
      have HBc := Lib.hid (HBb.out.trans (hbc.mono HBb.out.size))
      clear x0 x1 x2 x3 y0 y1 y2 z0 z1 s0 s1
      obtain ⟨x0, x1, x2, x3, y0, y1, y2, z0, z1⟩ := cells9 hbc (bx_keep X1.out HBb.out) (bx_keep X2.out HBb.out) XZb.out
      obtain ⟨s0, s1⟩ := bx_cells2 (bx_keep XB.out hbc)
      clear hbc
      go_wp2_with fail
      go_ret
      exact ⟨rfl, HB0.out.trans (HBc.out.mono HB0.out.size)⟩
  · have hb : (E == 0) = false := by simpa using hE
    have HZ2 : Hid (Z = E) := by show _ = _; rw [HZV.out, if_neg hE]
    obtain rfl : Z = E := HZ2.out
    obtain rfl : Y = ⟨false, 0⟩ := by rw [HYV.out, if_neg hE]
    obtain rfl : Y0 = false := HY0.out.symm
    obtain rfl : Y1 = 0 := HY1.out.symm
    clear hE
    go_upto_region 9 with fail
    obtain ⟨wz, rfl⟩ : ∃ wz : World, wz = w7 := ⟨_, rfl⟩
    have HBz := HB7
    have XZ := X7
    clear x0 x1 x2 x3 y0 y1 y2 z0 z1
    obtain ⟨x0, x1, x2, x3, y0, y1, y2, z0, z1⟩ := cells9 (Below.refl _ wz) (bx_keep X1.out HBz.out) (bx_keep X2.out HBz.out) XZ.out
    go_wp2_with fail
    refine (CS.out _ HBz.out).mono ?_
    rintro e wa ⟨rfl, hba⟩
    obtain ⟨wb, HWB⟩ := nameIt (wa.alloc (.cells #[.bool false, .int .i64 (0 : Int)] 88))
    have hbb : Below wz.heap.size wz wb := by rw [← HWB.out]; exact hba.trans ((Below.refl _ _).alloc hba.size _)
    have HBb := Lib.hid (HBz.out.trans (hbb.mono HBz.out.size))
    have XB : Hid (wb.heap[wa.heap.size]? = some (.cells #[.bool false, .int .i64 (0 : Int)] 88 (0, 0))) := by rw [← HWB.out]; exact bx_new _ _ _ rfl
    have XZb := Lib.hid (bx_keep XZ.out hbb)
    clear x0 x1 x2 x3 y0 y1 y2 z0 z1 hba hbb
    obtain ⟨x0, x1, x2, x3, y0, y1, y2, z0, z1⟩ := cells9 (Below.refl _ wb) (bx_keep X1.out HBb.out) (bx_keep X2.out HBb.out) XZb.out
    obtain ⟨s0, s1⟩ := bx_cells2 XB.out
    have heg : Try.prog.eqGuardType Try.prog.depth 88 = false := by kernel_rfl
    have hse := symEq false false (0 : Int) (0 : Int)
    rw [show (false == false && (0 : Int) == (0 : Int)) = true by simp] at hse
    go_upto_region 10 with fail
    rw [HWB.out]
    go_wp2_with fail
    refine (CC.out _ HBb.out).mono ?_
    rintro e wc ⟨rfl, hbc⟩
    have HBc := Lib.hid (HBb.out.trans (hbc.mono HBb.out.size))
    clear x0 x1 x2 x3 y0 y1 y2 z0 z1 s0 s1
    obtain ⟨x0, x1, x2, x3, y0, y1, y2, z0, z1⟩ := cells9 hbc (bx_keep X1.out HBb.out) (bx_keep X2.out HBb.out) XZb.out
    obtain ⟨s0, s1⟩ := bx_cells2 (bx_keep XB.out hbc)
    clear hbc
    go_wp2_with fail
    go_ret
    exact ⟨rfl, HB0.out.trans (HBc.out.mono HB0.out.size)⟩
end TreeChecks
end Go.Proofs.Ytjehmleckcmilaa
