/- The contract of the reference's wellFormed. -/
import Derived.Test.YthkdeljlhplkgaaAttrOcc
namespace Go.Proofs.Ythkdeljlhplkgaa
open Go.RowKit
namespace At

set_option maxHeartbeats 4000000 in
set_option maxRecDepth 100000 in
theorem wellE (g : Gram) (j : Nat) (hj : j < g.rules.length) (hr4 : g.rules[j].right.length ≤ 4) (al : List Attr) (hnn : ∀ a ∈ al, 0 ≤ a.non) (x : Expr) (v : Value) (ar aa ae : Option Addr) (cr ca ne ce : Nat) (w : World) (hR : Rd AnyB w (.sl (g.rules.map Rule.d)) [.slice ar g.rules.length cr]) (hA : Rd AnyB w (.sl (al.map Attr.d)) [.slice aa al.length ca]) (hv : Rd AnyB w (.sl (x.args.map Expr.d)) [v]) :
    Calls Try.prog 34 #[.agg #[.int .i64 g.terms, .int .i64 g.nons, .int .i64 g.start, .slice ar g.rules.length cr], .agg #[.slice aa al.length ca, .slice ae ne ce], .int .i64 (j : Int), .agg #[.int .i64 x.kind, .int .i64 x.n, .int .i64 x.ref.at', .int .i64 x.ref.attr, v]] w (fun e w' => e = .returned (.bool (okNode al g.rules[j] x)) ∧ Below w.heap.size w w') := by
  obtain ⟨av, cv, rfl, hc1, hc2⟩ := hv.form
  rw [List.length_map] at hc1 ⊢
  obtain ⟨w0, HW0⟩ := nameIt (((w.alloc (.cells #[.int .i64 g.terms, .int .i64 g.nons, .int .i64 g.start, .slice ar g.rules.length cr] 24)).alloc (.cells #[.slice aa al.length ca, .slice ae ne ce] 28)).alloc (.cells #[.int .i64 x.kind, .int .i64 x.n, .int .i64 x.ref.at', .int .i64 x.ref.attr, .slice av x.args.length cv] 33))
  have HB0 : Hid (Below w.heap.size w w0) := by rw [← HW0.out]; exact (((Below.refl _ _).alloc (Nat.le_refl _) _).alloc (by simp) _).alloc (by simp; omega) _
  have X1 : Hid (w0.heap[w.heap.size]? = some (.cells #[.int .i64 g.terms, .int .i64 g.nons, .int .i64 g.start, .slice ar g.rules.length cr] 24 (0, 0))) := by
    rw [← HW0.out]; exact bx_keep (bx_keep (bx_new _ _ _ rfl) ((Below.refl _ _).alloc (Nat.le_refl _) _)) ((Below.refl _ _).alloc (Nat.le_refl _) _)
  have X2 : Hid (w0.heap[w.heap.size + 1]? = some (.cells #[.slice aa al.length ca, .slice ae ne ce] 28 (0, 0))) := by
    rw [← HW0.out]; exact bx_keep (bx_new _ _ _ (by simp)) ((Below.refl _ _).alloc (Nat.le_refl _) _)
  have X3 : Hid (w0.heap[w.heap.size + 1 + 1]? = some (.cells #[.int .i64 x.kind, .int .i64 x.n, .int .i64 x.ref.at', .int .i64 x.ref.attr, .slice av x.args.length cv] 33 (0, 0))) := by
    rw [← HW0.out]; exact bx_new _ _ _ (by simp)
  have HTE := Lib.hid (occursE g j hj hr4 al hnn x.ref ar aa ae cr ca ne ce w0 (hR.below HB0.out) (hA.below HB0.out))
  obtain ⟨tm, HTM⟩ := nameIt g.terms
  obtain ⟨no, HNON⟩ := nameIt g.nons
  obtain ⟨st, HST⟩ := nameIt g.start
  obtain ⟨m, HM⟩ := nameIt g.rules.length
  obtain ⟨an, HAN⟩ := nameIt al.length
  obtain ⟨p0, HP0⟩ := nameIt x.kind
  obtain ⟨p1, HP1⟩ := nameIt x.n
  obtain ⟨p2, HP2⟩ := nameIt x.ref.at'
  obtain ⟨p3, HP3⟩ := nameIt x.ref.attr
  obtain ⟨pn, HPN⟩ := nameIt x.args.length
  obtain ⟨b8, H8⟩ := nameIt (okArgs p0 pn)
  obtain ⟨b9, H9⟩ := nameIt (okN p0 p1)
  obtain ⟨th, HTH⟩ := nameIt (there al g.rules[j] x.ref)
  obtain ⟨rs, HRS⟩ := nameIt (okNode al g.rules[j] x)
  have HREF : Hid (decide (x.ref = ⟨0, 0⟩) = (p2 == 0 && p3 == 0)) := by
    show _ = _
    rw [← HP2.out, ← HP3.out]
    cases x.ref with
    | mk u v => rw [Bool.eq_iff_iff]; simp
  have HFIN : Hid (rs = (b8 && b9 && (if p0 = 1 then th else (p2 == 0 && p3 == 0)))) := by
    show _ = _
    rw [← HRS.out, okNode_eq, HTH.out, HP0.out, HP1.out, HPN.out, H8.out, H9.out, HREF.out]
  rw [HTM.out, HNON.out, HST.out, HM.out, HAN.out, HP0.out, HP1.out, HP2.out, HP3.out, HPN.out] at HW0
  rw [HTM.out, HNON.out, HST.out, HM.out] at X1
  rw [HAN.out] at X2
  rw [HP0.out, HP1.out, HP2.out, HP3.out, HPN.out] at X3
  rw [HTM.out, HNON.out, HST.out, HM.out, HAN.out, HP2.out, HP3.out, HTH.out] at HTE
  rw [HTM.out, HNON.out, HST.out, HM.out, HAN.out, HP0.out, HP1.out, HP2.out, HP3.out, HPN.out, HRS.out]
  rw [HPN.out] at hc1
  unfold maxLen at hc2
  obtain ⟨x0, x1, x2, x3⟩ := bx_cells4 X1.out
  obtain ⟨y0, y1⟩ := bx_cells2 X2.out
  obtain ⟨z0, z1, z2, z3, z4⟩ := bx_cells5 X3.out
  clear hR hA hv hr4
  go_enter Try.func34, Try.ntmps34
  go_upto_region 1 with fail
  rw [HW0.out]
  by_cases e0 : p0 = 0
  · subst e0
    obtain rfl : ((pn : Int) == 0) = b8 := by rw [← H8.out]; exact beq_cast pn 0
    have h9 : decide (0 ≤ p1 ∧ p1 < 1000003) = b9 := H9.out
    have HF : Hid (rs = (((pn : Int) == 0) && decide (0 ≤ p1 ∧ p1 < 1000003) && (p2 == 0 && p3 == 0))) := by show _ = _; rw [HFIN.out, h9]; rfl
    clear h9
    by_cases g1 : (pn : Int) = 0
    · have g1' : ((pn : Int) == 0) = true := by simpa using g1
      by_cases g2 : 0 ≤ p1
      · have g2' : decide (0 ≤ p1) = true := by simpa using g2
        by_cases g3 : p1 < 1000003
        · have g3' : decide (p1 < 1000003) = true := by simpa using g3
          by_cases h2 : p2 = 0
          · subst h2
            by_cases h3 : p3 = 0
            · subst h3
              obtain rfl : rs = true := by rw [HF.out, g1', decide_eq_true (⟨g2, g3⟩ : 0 ≤ p1 ∧ p1 < 1000003)]; rfl
              clear g1 g2 g3
              go_wp2_with fail
              go_ret
              exact ⟨rfl, HB0.out⟩
            · have h3' : (p3 == 0) = false := by simpa using h3
              obtain rfl : rs = false := by rw [HF.out, g1', decide_eq_true (⟨g2, g3⟩ : 0 ≤ p1 ∧ p1 < 1000003)]; rw [h3']; rfl
              clear g1 g2 g3 h3
              go_wp2_with fail
              go_ret
              exact ⟨rfl, HB0.out⟩
          · have h2' : (p2 == 0) = false := by simpa using h2
            obtain rfl : rs = false := by rw [HF.out, g1', decide_eq_true (⟨g2, g3⟩ : 0 ≤ p1 ∧ p1 < 1000003)]; rw [h2']; rfl
            clear g1 g2 g3 h2
            go_wp2_with fail
            go_ret
            exact ⟨rfl, HB0.out⟩
        · have g3' : decide (p1 < 1000003) = false := by simpa using g3
          obtain rfl : rs = false := by rw [HF.out, decide_eq_false (fun h => g3 h.2)]; simp
          clear g1 g2 g3
          go_wp2_with fail
          go_ret
          exact ⟨rfl, HB0.out⟩
      · have g2' : decide (0 ≤ p1) = false := by simpa using g2
        obtain rfl : rs = false := by rw [HF.out, decide_eq_false (fun h => g2 h.1)]; simp
        clear g1 g2
        go_wp2_with fail
        go_ret
        exact ⟨rfl, HB0.out⟩
    · have g1' : ((pn : Int) == 0) = false := by simpa using g1
      obtain rfl : rs = false := by rw [HF.out, g1']; rfl
      clear g1
      go_wp2_with fail
      go_ret
      exact ⟨rfl, HB0.out⟩
  by_cases e1 : p0 = 1
  · subst e1
    obtain rfl : ((pn : Int) == 0) = b8 := by rw [← H8.out]; exact beq_cast pn 0
    have h9 : decide (p1 = 0) = b9 := H9.out
    have HF : Hid (rs = (((pn : Int) == 0) && (p1 == 0) && th)) := by show _ = _; rw [HFIN.out, ← h9]; rfl
    clear h9 e0
    by_cases g1 : (pn : Int) = 0
    · have g1' : ((pn : Int) == 0) = true := by simpa using g1
      by_cases g2 : p1 = 0
      · have g2' : (p1 == 0) = true := by simpa using g2
        obtain rfl : rs = th := by rw [HF.out, g1', g2']; rfl
        clear g1 g2
        go_wp2_with fail
        refine HTE.out.mono ?_
        rintro e w7 ⟨rfl, hb7⟩
        have HB7 := Lib.hid hb7
        clear hb7
        go_wp2_with fail
        go_ret
        exact ⟨rfl, HB0.out.trans (HB7.out.mono HB0.out.size)⟩
      · have g2' : (p1 == 0) = false := by simpa using g2
        obtain rfl : rs = false := by rw [HF.out, g2']; simp
        clear g1 g2
        go_wp2_with fail
        go_ret
        exact ⟨rfl, HB0.out⟩
    · have g1' : ((pn : Int) == 0) = false := by simpa using g1
      obtain rfl : rs = false := by rw [HF.out, g1']; rfl
      clear g1
      go_wp2_with fail
      go_ret
      exact ⟨rfl, HB0.out⟩
  have f0 : (p0 == 0) = false := by simpa using e0
  have f1 : (p0 == 1) = false := by simpa using e1
  have HF : Hid (rs = (b8 && (p1 == 0) && (p2 == 0 && p3 == 0))) := by
    show _ = _
    have h9 : decide (p1 = 0) = b9 := by have h := H9.out; unfold okN at h; rw [if_neg e0] at h; exact h
    rw [HFIN.out, if_neg e1, ← h9]
    rfl
  have HE01 : Hid (p0 ≠ 0 ∧ p0 ≠ 1) := ⟨e0, e1⟩
  clear e0 e1
  go_upto_block 0 with fail
  go_cut [10] (fun t10 wx => t10 = .bool b8 ∧ wx = w0)
  case first =>
    by_cases e2 : p0 = 2
    · subst e2
      obtain rfl : true = b8 := by rw [← H8.out]; simp [okArgs]
      clear f0 f1
      go_wp2_with fail
      go_meet
      exact ⟨rfl, rfl⟩
    by_cases e3 : p0 = 3
    · subst e3
      obtain rfl : true = b8 := by rw [← H8.out]; simp [okArgs]
      clear f0 f1
      go_wp2_with fail
      go_meet
      exact ⟨rfl, rfl⟩
    by_cases e4 : p0 = 4
    · subst e4
      obtain rfl : decide (0 < pn) = b8 := by rw [← H8.out]; exact decide_eq_decide.2 (by omega)
      clear f0 f1
      go_wp2_with fail
      go_meet
      exact ⟨rfl, rfl⟩
    by_cases e5 : p0 = 5
    · subst e5
      obtain rfl : ((pn : Int) == 2) = b8 := by rw [← H8.out]; exact beq_cast pn 2
      clear f0 f1
      go_wp2_with fail
      go_meet
      exact ⟨rfl, rfl⟩
    by_cases e6 : p0 = 6
    · subst e6
      obtain rfl : ((pn : Int) == 3) = b8 := by rw [← H8.out]; exact beq_cast pn 3
      clear f0 f1
      go_wp2_with fail
      go_meet
      exact ⟨rfl, rfl⟩
    · obtain rfl : false = b8 := by rw [← H8.out]; unfold okArgs; have := HE01.out; rw [if_neg (by omega), if_neg (by omega), if_neg e4, if_neg e5, if_neg e6]
      have f2 : (p0 == 2) = false := by simpa using e2
      have f3 : (p0 == 3) = false := by simpa using e3
      have f4 : (p0 == 4) = false := by simpa using e4
      have f5 : (p0 == 5) = false := by simpa using e5
      have f6 : (p0 == 6) = false := by simpa using e6
      clear e2 e3 e4 e5 e6
      go_wp2_with fail
      go_meet
      exact ⟨rfl, rfl⟩
  case rest =>
    obtain ⟨rfl, rfl⟩ := hcut
    obtain ⟨w0, rfl⟩ : ∃ ww : World, ww = wc := ⟨_, rfl⟩
    cases b8 with
    | false =>
      obtain rfl : rs = false := by rw [HF.out]; rfl
      go_wp2_with fail
      go_ret
      exact ⟨rfl, HB0.out⟩
    | true =>
      by_cases g3 : p1 = 0
      · have g3' : (p1 == 0) = true := by simpa using g3
        by_cases h2 : p2 = 0
        · subst h2
          by_cases h3 : p3 = 0
          · subst h3
            obtain rfl : rs = true := by rw [HF.out, g3']; rfl
            clear g3
            go_wp2_with fail
            go_ret
            exact ⟨rfl, HB0.out⟩
          · have h3' : (p3 == 0) = false := by simpa using h3
            obtain rfl : rs = false := by rw [HF.out, g3']; rw [h3']; rfl
            clear g3 h3
            go_wp2_with fail
            go_ret
            exact ⟨rfl, HB0.out⟩
        · have h2' : (p2 == 0) = false := by simpa using h2
          obtain rfl : rs = false := by rw [HF.out, g3']; rw [h2']; rfl
          clear g3 h2
          go_wp2_with fail
          go_ret
          exact ⟨rfl, HB0.out⟩
      · have g3' : (p1 == 0) = false := by simpa using g3
        obtain rfl : rs = false := by rw [HF.out, g3']; rfl
        clear g3
        go_wp2_with fail
        go_ret
        exact ⟨rfl, HB0.out⟩
end At
end Go.Proofs.Ythkdeljlhplkgaa
