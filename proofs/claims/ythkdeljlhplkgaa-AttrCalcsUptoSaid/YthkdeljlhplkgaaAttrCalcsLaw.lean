/- The walk of the law AttrCalcs. -/
import Derived.Test.YthkdeljlhplkgaaAttrLeaves
import Derived.Test.YthkdeljlhplkgaaAttrSameRefs
import Derived.Test.YthkdeljlhplkgaaAttrCalc
import Derived.Test.YthkdeljlhplkgaaAttrWorth
import Derived.Test.YthkdeljlhplkgaaAttrGets
import Derived.Deep.RegionHeld3
namespace Go.Proofs.Ythkdeljlhplkgaa
open Go.RowKit
namespace At

def testX : Expr := .node 3 0 ⟨0, 0⟩ [.node 0 6 ⟨0, 0⟩ [], .node 1 0 ⟨0, 0⟩ []]
theorem rd_nilC (W : World) : Rd AnyB W (.sl (([] : List Expr).map Expr.d)) [.slice none 0 0] := ⟨none, 0, [], rfl, by simp, by simp [maxLen], fun _ => rfl, fun i hi => by simp at hi, rfl⟩
theorem testX_ok : okX testX := by
  intro y hy
  simp [testX, enodes, enodesL] at hy
  rcases hy with rfl | rfl | rfl <;> simp [okV, okArgs, Expr.kind, Expr.args, Expr.n, Expr.ref, inM, okRefV]
theorem testX_worth : worth (fun _ => 7) testX = 42 := by simp [testX, worth, worthL, comb]
theorem testX_refs : (refsS testX).length = 1 := by rw [refs_same]; decide
theorem cells5of8 {W w' : World} {b : Nat} {T : TypeId} {a0 a1 a2 a3 a4 a5 a6 a7 : Value} (hb : Below W.heap.size W w') (h : W.heap[b]? = some (.cells #[a0, a1, a2, a3, a4, a5, a6, a7] T (0, 0))) :
    w'.cell? ⟨b, 0 + 3, none⟩ = some a3 ∧ w'.cell? ⟨b, 0 + 4, none⟩ = some a4 ∧ w'.cell? ⟨b, 0 + 5, none⟩ = some a5 ∧ w'.cell? ⟨b, 0 + 6, none⟩ = some a6 ∧ w'.cell? ⟨b, 0 + 7, none⟩ = some a7 := by
  obtain ⟨x0, x1, x2, x3, x4, x5, x6, x7⟩ := bx_cells8 (bx_keep h hb)
  exact ⟨x3, x4, x5, x6, x7⟩

set_option maxHeartbeats 8000000 in
set_option maxRecDepth 100000 in
theorem lawAL (g : Gram) (s : Sys) (seed : Int) (vr va ve : Value) (w : World) (hal : s.attrs.length ≤ 2000000) (hsz : ∀ q ∈ s.eqs, q.is'.size ≤ 1048576) (hR : Rd AnyB w (.sl (g.rules.map Rule.d)) [vr]) (hA : Rd AnyB w (.sl (s.attrs.map Attr.d)) [va]) (hE : Rd AnyB w (.sl (s.eqs.map Eqn.d)) [ve]) :
    Calls Try.prog 3 #[.agg #[.int .i64 g.terms, .int .i64 g.nons, .int .i64 g.start, vr], .agg #[va, ve], .int .i64 seed] w (fun e w' => e = .returned (.bool true) ∧ Below w.heap.size w w') := by
  obtain ⟨ar, cr, rfl, -, -⟩ := hR.form
  obtain ⟨aa, ca, rfl, -, -⟩ := hA.form
  obtain ⟨ae, ce, rfl, he1, he2⟩ := hE.form
  rw [List.length_map] at hR hA hE he1 ⊢
  rw [List.length_map, List.length_map]
  unfold maxLen at he2
  obtain ⟨w0, HW0⟩ := nameIt (((w.alloc (.cells #[.int .i64 g.terms, .int .i64 g.nons, .int .i64 g.start, .slice ar g.rules.length cr] 24)).alloc (.cells #[.slice aa s.attrs.length ca, .slice ae s.eqs.length ce] 28)).alloc (.cells #[.int .i64 seed] 3))
  have HB0 : Hid (Below w.heap.size w w0) := by rw [← HW0.out]; exact (((Below.refl _ _).alloc (Nat.le_refl _) _).alloc (by simp) _).alloc (by simp; omega) _
  have X1 : Hid (w0.heap[w.heap.size]? = some (.cells #[.int .i64 g.terms, .int .i64 g.nons, .int .i64 g.start, .slice ar g.rules.length cr] 24 (0, 0))) := by
    rw [← HW0.out]; exact bx_keep (bx_keep (bx_new _ _ _ rfl) ((Below.refl _ _).alloc (Nat.le_refl _) _)) ((Below.refl _ _).alloc (Nat.le_refl _) _)
  have X2 : Hid (w0.heap[w.heap.size + 1]? = some (.cells #[.slice aa s.attrs.length ca, .slice ae s.eqs.length ce] 28 (0, 0))) := by
    rw [← HW0.out]; exact bx_keep (bx_new _ _ _ (by simp)) ((Below.refl _ _).alloc (Nat.le_refl _) _)
  have X3 : Hid (w0.heap[w.heap.size + 1 + 1]? = some (.cells #[.int .i64 seed] 3 (0, 0))) := by
    rw [← HW0.out]; exact bx_new _ _ _ (by simp)
  have HFA := Lib.hid (fun (W : World) (hb : Below w.heap.size w W) => faultyE g s ar aa ae cr ca ce W hsz (hR.below hb) (hA.below hb) (hE.below hb))
  have HE := Lib.hid hE
  have HCH := Lib.hid (fun (h : checkS g s = 0) => checked h hal)
  obtain ⟨w1, HW1⟩ := nameIt ((w0.alloc (.cells #[.int .i64 0, .int .i64 6, .int .i64 0, .int .i64 0, .slice none 0 0, .int .i64 1, .int .i64 0, .int .i64 0, .int .i64 0, .slice none 0 0] 33)).alloc (.cells #[.int .i64 3, .int .i64 0, .int .i64 0, .int .i64 0, .slice (some ⟨w0.heap.size, 0, none⟩) 2 2] 33))
  have HB1 : Hid (Below w0.heap.size w0 w1) := by rw [← HW1.out]; exact ((Below.refl _ _).alloc (Nat.le_refl _) _).alloc (by simp) _
  have XT : Hid (w1.heap[w0.heap.size + 1]? = some (.cells #[.int .i64 3, .int .i64 0, .int .i64 0, .int .i64 0, .slice (some ⟨w0.heap.size, 0, none⟩) 2 2] 33 (0, 0))) := by
    rw [← HW1.out]; exact bx_new _ _ _ (by simp)
  have hrt : Rd AnyB w1 (.sl (testX.args.map Expr.d)) [.slice (some ⟨w0.heap.size, 0, none⟩) 2 2] := by
    have hr : w1.heap[w0.heap.size]? = some (.cells #[.int .i64 0, .int .i64 6, .int .i64 0, .int .i64 0, .slice none 0 0, .int .i64 1, .int .i64 0, .int .i64 0, .int .i64 0, .slice none 0 0] 33 (0, 0)) := by
      rw [← HW1.out]; exact bx_keep (bx_new _ _ _ rfl) ((Below.refl _ _).alloc (Nat.le_refl _) _)
    refine rd_of_own (own_of_block hr (n := 2) (size := 5) rfl (by simp [maxLen])) ?_ rfl (fun _ _ => trivial)
    exact ⟨[.int .i64 0, .int .i64 6, .int .i64 0, .int .i64 0, .slice none 0 0], [.int .i64 1, .int .i64 0, .int .i64 0, .int .i64 0, .slice none 0 0], rfl, rd_expr (x := .node 0 6 ⟨0, 0⟩ []) (rd_nilC _), RdAll.one (rd_expr (x := .node 1 0 ⟨0, 0⟩ []) (rd_nilC _))⟩
  have HC1 := Lib.hid (calcE 5 #[] (fun _ => 7) (fun _ _ => by unfold inM; omega) (fun _ _ => by kernel_rfl) testX.size testX _ w1 (Nat.le_refl _) testX_ok (sevenG w1) hrt (by decide))
  rw [testX_worth] at HC1
  have HR1 := Lib.hid (fun (W : World) (hb : Below w1.heap.size w1 W) => refsE testX _ W (by decide) (hrt.below hb))
  have HWB : Hid (∀ W, Below w0.heap.size w0 W → Below w.heap.size w W) := fun W h => HB0.out.trans (h.mono HB0.out.size)
  obtain ⟨cs, HCS⟩ := nameIt (checkS g s)
  obtain ⟨tm, HTM⟩ := nameIt g.terms
  obtain ⟨no, HNO⟩ := nameIt g.nons
  obtain ⟨st, HST⟩ := nameIt g.start
  obtain ⟨m, HM⟩ := nameIt g.rules.length
  obtain ⟨al, HAL⟩ := nameIt s.attrs.length
  obtain ⟨n, HN⟩ := nameIt s.eqs.length
  simp only [HTM.out, HNO.out, HST.out, HM.out, HAL.out, HN.out, HCS.out] at HFA
  rw [HCS.out] at HCH
  rw [HTM.out, HNO.out, HST.out, HM.out, HAL.out, HN.out] at HW0
  rw [HTM.out, HNO.out, HST.out, HM.out] at X1
  rw [HAL.out, HN.out] at X2
  rw [HN.out] at HE he1
  rw [HTM.out, HNO.out, HST.out, HM.out, HAL.out, HN.out]
  obtain ⟨x0, x1, x2, x3, x4⟩ := bx_cells5 XT.out
  clear hR hA hE hsz hrt hal
  go_enter Try.func3, Try.ntmps3
  go_upto_region 1 with fail
  rw [HW0.out]
  go_upto_region 2 with fail
  rw [HW1.out]
  go_wp2_with fail
  refine HC1.out.mono ?_
  rintro e w2 ⟨rfl, hb2⟩
  have HB2 := Lib.hid hb2
  obtain ⟨x0, x1, x2, x3, x4⟩ := bx_cells5 (bx_keep XT.out hb2)
  clear hb2
  go_wp2_with fail
  refine (HR1.out w2 HB2.out).mono ?_
  rintro e w3 ⟨v3, rfl, hr3, hb3⟩
  obtain ⟨a3, c3, rfl, -, -⟩ := hr3.form
  rw [List.length_map, testX_refs]
  have HB3 : Hid (Below w0.heap.size w0 w3) := (HB1.out.trans (HB2.out.mono HB1.out.size)).trans (hb3.mono (HB1.out.trans (HB2.out.mono HB1.out.size)).size)
  clear x0 x1 x2 x3 x4 hr3 hb3
  obtain ⟨y0, y1, y2, y3⟩ := bx_cells4 (bx_keep X1.out HB3.out)
  obtain ⟨z0, z1⟩ := bx_cells2 (bx_keep X2.out HB3.out)
  go_wp2_with fail
  refine (HFA.out w3 (HWB.out _ HB3.out)).mono ?_
  rintro e w4 ⟨rfl, hb4⟩
  have HB4 : Hid (Below w0.heap.size w0 w4) := HB3.out.trans (hb4.mono HB3.out.size)
  clear y0 y1 y2 y3 z0 z1 hb4
  by_cases hcs : cs = 0
  · have HCK := Lib.hid (HCH.out hcs)
    obtain ⟨z0, z1⟩ := bx_cells2 (bx_keep X2.out HB4.out)
    have HSC := Lib.hid (bx_cells1 (bx_keep X3.out HB4.out))
    have HB44 := Lib.hid (Below.refl w4.heap.size w4)
    subst hcs
    go_wp2_with fail
    clear z0 z1
    go_loopg [32] n (fun gg v32 wr => ∃ j : Nat, j ≤ n ∧ n - j ≤ gg ∧ v32 = .int .i64 j ∧ Hid (Below w4.heap.size w4 wr))
    case atStart => exact ⟨0, by omega, by omega, rfl, HB44⟩
    case round =>
      clear HB44
      obtain ⟨j, hj, hg, rfl, HBJ⟩ := hrel
      have HB0J : Hid (Below w0.heap.size w0 wr) := HB4.out.trans (HBJ.out.mono HB4.out.size)
      by_cases hlt : j < n
      · have hlt' : (j : Int) < (n : Int) := by omega
        have hjE : j < s.eqs.length := by rw [HN.out]; exact hlt
        obtain ⟨b9, off9, v9, hae9, -, hbl9, c0, c1, c2, c3, c4, c5, c6, c7, hkid9⟩ := Rd.eqn_at (HE.out.below (HWB.out _ HB0J.out)) hjE
        obtain ⟨av9, cv9, rfl, -, -⟩ := hkid9.form
        rw [List.length_map] at c7 hkid9
        obtain ⟨hs30, hokx⟩ := HCK.out _ (List.getElem_mem hjE)
        obtain ⟨p, HPE⟩ := nameIt (s.eqs[j]'hjE)
        rw [HPE.out] at c0 c1 c2 c3 c4 c5 c6 c7 hkid9 hs30 hokx
        obtain ⟨wa, HWA⟩ := nameIt (wr.alloc (.cells #[.int .i64 p.rule, .int .i64 p.to'.at', .int .i64 p.to'.attr, .int .i64 p.is'.kind, .int .i64 p.is'.n, .int .i64 p.is'.ref.at', .int .i64 p.is'.ref.attr, .slice av9 p.is'.args.length cv9] 41))
        have hba : Below wr.heap.size wr wa := by rw [← HWA.out]; exact (Below.refl _ _).alloc (Nat.le_refl _) _
        have XA : Hid (wa.heap[wr.heap.size]? = some (.cells #[.int .i64 p.rule, .int .i64 p.to'.at', .int .i64 p.to'.attr, .int .i64 p.is'.kind, .int .i64 p.is'.n, .int .i64 p.is'.ref.at', .int .i64 p.is'.ref.attr, .slice av9 p.is'.args.length cv9] 41 (0, 0))) := by rw [← HWA.out]; exact bx_new _ _ _ rfl
        have HBA : Hid (Below w4.heap.size w4 wa) := HBJ.out.trans (hba.mono HBJ.out.size)
        have hka := hkid9.below hba
        have hseed : wa.cell? ⟨w.heap.size + 1 + 1, 0, none⟩ = some (.int .i64 seed) := (HBA.out.cell (lt_of_cell HSC.out)).trans HSC.out
        have hgg := seedG seed (w.heap.size + 1 + 1) wa hseed
        have HCA := Lib.hid (fun (W : World) (hb : Below wa.heap.size wa W) => calcE 8 #[.pointer (some ⟨w.heap.size + 1 + 1, 0, none⟩)] (getSeed seed) (getSeed_inM seed) (fun _ _ => by kernel_rfl) p.is'.size p.is' _ W (Nat.le_refl _) hokx (hgg.below hb) (hka.below hb) (by omega))
        have HWO := Lib.hid (fun (W : World) (hb : Below wa.heap.size wa W) => worthE 8 #[.pointer (some ⟨w.heap.size + 1 + 1, 0, none⟩)] (getSeed seed) (getSeed_inM seed) (fun _ _ => by kernel_rfl) p.is'.size p.is' _ W (Nat.le_refl _) hokx (hgg.below hb) (hka.below hb) (by omega))
        have HRF := Lib.hid (fun (W : World) (hb : Below wa.heap.size wa W) => refsE p.is' _ W (by omega) (hka.below hb))
        have HME := Lib.hid (fun (W : World) (hb : Below wa.heap.size wa W) => mentE p.is' _ W (by omega) (hka.below hb))
        unfold RefsPost at HRF
        unfold MentPost at HME
        rw [refs_same] at HRF
        have HEQ := Lib.hid (fun (a a' : Option Addr) (c c' : Nat) (W : World) (h : Rd AnyB W (.sl ((mentS p.is').map Ref.d)) [.slice a (mentS p.is').length c]) (h' : Rd AnyB W (.sl ((mentS p.is').map Ref.d)) [.slice a' (mentS p.is').length c']) => equalRefs (mentS p.is') a a' c c' W h h')
        obtain ⟨M, HMS⟩ := nameIt (mentS p.is')
        rw [HMS.out] at HRF HME HEQ
        obtain ⟨k, HKM⟩ := nameIt M.length
        rw [HKM.out] at HEQ
        obtain ⟨vw, HVW⟩ := nameIt (worth (getSeed seed) p.is')
        rw [HVW.out] at HCA HWO
        have HRF2 : Hid (∀ (W : World) (hb : Below wa.heap.size wa W), Calls Try.prog 6 #[.agg #[.int .i64 p.is'.kind, .int .i64 p.is'.n, .int .i64 p.is'.ref.at', .int .i64 p.is'.ref.attr, .slice av9 p.is'.args.length cv9]] W fun e w' => ∃ a c, e = .returned (.slice a k c) ∧ Rd AnyB w' (.sl (M.map Ref.d)) [.slice a k c] ∧ Below W.heap.size W w') := by
          intro W hb
          refine (HRF.out W hb).mono ?_
          rintro e w' ⟨v, rfl, h1, h2⟩
          obtain ⟨a, c, rfl, -, -⟩ := h1.form
          rw [List.length_map, HKM.out] at h1 ⊢
          exact ⟨a, c, rfl, h1, h2⟩
        have HME2 : Hid (∀ (W : World) (hb : Below wa.heap.size wa W), Calls Try.prog 11 #[.agg #[.int .i64 p.is'.kind, .int .i64 p.is'.n, .int .i64 p.is'.ref.at', .int .i64 p.is'.ref.attr, .slice av9 p.is'.args.length cv9]] W fun e w' => ∃ a c, e = .returned (.slice a k c) ∧ Rd AnyB w' (.sl (M.map Ref.d)) [.slice a k c] ∧ Below W.heap.size W w') := by
          intro W hb
          refine (HME.out W hb).mono ?_
          rintro e w' ⟨v, rfl, h1, h2⟩
          obtain ⟨a, c, rfl, -, -⟩ := h1.form
          rw [List.length_map, HKM.out] at h1 ⊢
          exact ⟨a, c, rfl, h1, h2⟩
        obtain ⟨p0, HP0⟩ := nameIt p.rule
        obtain ⟨p1, HP1⟩ := nameIt p.to'.at'
        obtain ⟨p2, HP2⟩ := nameIt p.to'.attr
        obtain ⟨p3, HP3⟩ := nameIt p.is'.kind
        obtain ⟨p4, HP4⟩ := nameIt p.is'.n
        obtain ⟨p5, HP5⟩ := nameIt p.is'.ref.at'
        obtain ⟨p6, HP6⟩ := nameIt p.is'.ref.attr
        obtain ⟨pn, HPN⟩ := nameIt p.is'.args.length
        rw [HP0.out, HP1.out, HP2.out, HP3.out, HP4.out, HP5.out, HP6.out, HPN.out] at XA HWA
        simp only [HP3.out, HP4.out, HP5.out, HP6.out, HPN.out] at HCA HWO HRF2 HME2
        rw [HP0.out] at c0
        rw [HP1.out] at c1
        rw [HP2.out] at c2
        rw [HP3.out] at c3
        rw [HP4.out] at c4
        rw [HP5.out] at c5
        rw [HP6.out] at c6
        rw [HPN.out] at c7
        subst hae9
        obtain ⟨s0, s1, s2, s3, s4, s5, s6, s7⟩ := bx_cells8 XA.out
        clear hba hkid9 hka hseed hgg hokx hs30 HRF HME
        go_upto_region 10 with fail
        rw [HWA.out]
        clear c0 c1 c2 c3 c4 c5 c6 c7
        go_region_held3 (fun w' => w'.cell? ⟨wr.heap.size, 0 + 3, none⟩ = some (.int .i64 p3) ∧ w'.cell? ⟨wr.heap.size, 0 + 4, none⟩ = some (.int .i64 p4) ∧ w'.cell? ⟨wr.heap.size, 0 + 5, none⟩ = some (.int .i64 p5) ∧ w'.cell? ⟨wr.heap.size, 0 + 6, none⟩ = some (.int .i64 p6) ∧ w'.cell? ⟨wr.heap.size, 0 + 7, none⟩ = some (.slice av9 pn cv9))
          (first | exact cells5of8 (Below.refl _ _).drew XA.out | exact cells5of8 HB7.out XA.out | exact cells5of8 HB6.out XA.out | exact cells5of8 HB5.out XA.out | exact cells5of8 HBW.out XA.out | exact cells5of8 HBC.out XA.out | fail)
          (first
            | (go_at_call 4; (with_reducible refine (HCA.out _ (Below.refl _ _).drew).mono ?_); rintro e wc ⟨rfl, hbc⟩; have HBC : Hid (Below wa.heap.size wa wc) := (Below.refl _ _).drew.trans hbc; clear hbc)
            | (go_at_call 9; (with_reducible refine (HWO.out _ HBC.out).mono ?_); rintro e ww ⟨rfl, hbw⟩; have HBW : Hid (Below wa.heap.size wa ww) := HBC.out.trans (hbw.mono HBC.out.size); clear hbw)
            | (go_at_call 6; (with_reducible refine (HRF2.out _ HBW.out).mono ?_); rintro e w5 ⟨a5, q5, rfl, hr5, hb5⟩; have HB5 : Hid (Below wa.heap.size wa w5) := HBW.out.trans (hb5.mono HBW.out.size); have HR5 := Lib.hid hr5; clear hr5 hb5)
            | (go_at_call 11; (with_reducible refine (HME2.out _ HB5.out).mono ?_); rintro e w6 ⟨a6, q6, rfl, hr6, hb6⟩; have HB6 : Hid (Below wa.heap.size wa w6) := HB5.out.trans (hb6.mono HB5.out.size); have HR6 := Lib.hid hr6; have HR56 := Lib.hid (HR5.out.below hb6); clear hr6 hb6)
            | (go_at_call 10; (with_reducible refine (HEQ.out _ _ _ _ _ HR56.out HR6.out).mono ?_); rintro e w7 ⟨rfl, hb7⟩; have HB7 : Hid (Below wa.heap.size wa w7) := HB6.out.trans (hb7.mono HB6.out.size); clear hb7)
            | fail)
        have HBZ : Hid (Below w4.heap.size w4 w7) := HBA.out.trans (HB7.out.mono HBA.out.size)
        go_wp2_with fail
        go_roundg (n - (j + 1))
        case measure => omega
        case rel => exact ⟨j + 1, by omega, by omega, by go_num, HBZ⟩
      · have hlt' : ¬ (j : Int) < (n : Int) := by omega
        go_wp2_with fail
        go_ret
        exact ⟨rfl, HWB.out _ HB0J.out⟩
  · have hcs' : (cs != 0) = true := by simpa using hcs
    clear hcs
    go_wp2_with fail
    go_ret
    exact ⟨rfl, HWB.out _ HB4.out⟩
end At
end Go.Proofs.Ythkdeljlhplkgaa
