/- The contracts of the reference's occurs and wellFormed. The contract of the reference's wellFormed. The reference's SystemFault: what its rounds keep. The contracts of the closures that look for an equation of a rule and a place. The contract of the reference's SystemFault. The contract of list. -/
import Derived.Test.YtfocooehnmpndaaGreatJDemandSomeRow4
import Derived.Test.YtfocooehnmpndaaGreatJDemandSomeRow3
import Derived.Test.YtfocooehnmpndaaGreatJDemandSomeRow1
namespace Go.Proofs.YtfocooehnmpndaaGreat
open Go.RowKit
namespace At
theorem occ_sym (s : Sym) (z : Int) (h : 0 ≤ z) : decide (some s = some ⟨false, z⟩) = ((if s.term then -1 else s.n) == z) := by
  obtain ⟨t, n⟩ := s
  rw [Bool.eq_iff_iff, decide_eq_true_iff, beq_iff_eq, Option.some.injEq]
  cases t with
  | true => simp; omega
  | false => simp
theorem there_occ {al : List Attr} {r : Rule} {x : Ref} {i : Nat} (hi : i < al.length) (hx : x.attr = (i : Int)) (hn : 0 ≤ al[i].non) : there al r x = (atR r x.at' == al[i].non) := by
  by_cases h : x.at' < 0 ∨ (r.right.length : Int) < x.at'
  · rw [there_no (by omega), atR_out h]
    symm
    rw [beq_eq_false_iff_ne]
    omega
  · obtain ⟨k, hk⟩ : ∃ k : Nat, x.at' = (k : Int) := ⟨x.at'.toNat, by omega⟩
    rw [there_at hi hx (by omega) (by omega), hk]
    have hl : k < (atL r).length := by unfold atL; simp; omega
    rw [atR_in hl]
    cases k with
    | zero =>
      rw [if_pos (by simp)]
      simp only [atL, List.getElem_cons_zero]
      rw [Bool.eq_iff_iff]
      simp
      exact eq_comm
    | succ k =>
      have hk2 : k < r.right.length := by omega
      rw [if_neg (by omega), show (((k + 1 : Nat) : Int) - 1).toNat = k by omega, List.getElem?_eq_getElem hk2]
      simp only [atL, List.getElem_cons_succ]
      exact occ_sym _ _ hn
theorem occ_no {al : List Attr} {r : Rule} {x : Ref} (h : x.attr < 0 ∨ (al.length : Int) ≤ x.attr) : there al r x = false := there_no (by omega)
set_option maxHeartbeats 4000000 in
set_option maxRecDepth 100000 in
theorem occursE (g : Gram) (j : Nat) (hj : j < g.rules.length) (hr4 : g.rules[j].right.length ≤ 4) (al : List Attr) (hnn : ∀ a ∈ al, 0 ≤ a.non) (x : Ref) (ar aa ae : Option Addr) (cr ca ne ce : Nat) (w : World) (hR : Rd AnyB w (.sl (g.rules.map Rule.d)) [.slice ar g.rules.length cr]) (hA : Rd AnyB w (.sl (al.map Attr.d)) [.slice aa al.length ca]) :
    Calls Tryz.prog 70 #[.agg #[.int .i64 g.terms, .int .i64 g.nons, .int .i64 g.start, .slice ar g.rules.length cr], .agg #[.slice aa al.length ca, .slice ae ne ce], .int .i64 (j : Int), .agg #[.int .i64 x.at', .int .i64 x.attr]] w (fun e w' => e = .returned (.bool (there al g.rules[j] x)) ∧ Below w.heap.size w w') := by
  have ha1 := hA.bounds.2
  unfold maxLen at ha1
  obtain ⟨ha1, ha2⟩ := ha1
  obtain ⟨w0, HW0⟩ := nameIt (((w.alloc (.cells #[.int .i64 g.terms, .int .i64 g.nons, .int .i64 g.start, .slice ar g.rules.length cr] 24)).alloc (.cells #[.slice aa al.length ca, .slice ae ne ce] 28)).alloc (.cells #[.int .i64 x.at', .int .i64 x.attr] 83))
  have HB0 : Hid (Below w.heap.size w w0) := by rw [← HW0.out]; exact (((Below.refl _ _).alloc (Nat.le_refl _) _).alloc (by simp) _).alloc (by simp; omega) _
  have X1 : Hid (w0.heap[w.heap.size]? = some (.cells #[.int .i64 g.terms, .int .i64 g.nons, .int .i64 g.start, .slice ar g.rules.length cr] 24 (0, 0))) := by
    rw [← HW0.out]; exact bx_keep (bx_keep (bx_new _ _ _ rfl) ((Below.refl _ _).alloc (Nat.le_refl _) _)) ((Below.refl _ _).alloc (Nat.le_refl _) _)
  have X2 : Hid (w0.heap[w.heap.size + 1]? = some (.cells #[.slice aa al.length ca, .slice ae ne ce] 28 (0, 0))) := by
    rw [← HW0.out]; exact bx_keep (bx_new _ _ _ (by simp)) ((Below.refl _ _).alloc (Nat.le_refl _) _)
  have X3 : Hid (w0.heap[w.heap.size + 1 + 1]? = some (.cells #[.int .i64 x.at', .int .i64 x.attr] 83 (0, 0))) := by
    rw [← HW0.out]; exact bx_new _ _ _ (by simp)
  have HA := Lib.hid (hA.below HB0.out)
  have HAT := Lib.hid (fun W (hb : Below w0.heap.size w0 W) => atE g j hj hr4 x.at' ar cr W ((hR.below HB0.out).below hb))
  have HNO := Lib.hid (@occ_no al g.rules[j] x)
  have HTO := Lib.hid (fun (i : Nat) (hi : i < al.length) (hx : x.attr = (i : Int)) => there_occ (r := g.rules[j]) hi hx (hnn _ (List.getElem_mem hi)))
  obtain ⟨th, HTH⟩ := nameIt (there al g.rules[j] x)
  obtain ⟨xa, HXA⟩ := nameIt x.at'
  obtain ⟨xi, HXI⟩ := nameIt x.attr
  obtain ⟨at0, HAT0⟩ := nameIt (atR g.rules[j] xa)
  obtain ⟨tm, HTM⟩ := nameIt g.terms
  obtain ⟨no, HNON⟩ := nameIt g.nons
  obtain ⟨st, HST⟩ := nameIt g.start
  obtain ⟨m, HM⟩ := nameIt g.rules.length
  obtain ⟨n, HN⟩ := nameIt al.length
  have HN' := Lib.hid HN.out
  simp only [HXA.out, HTM.out, HNON.out, HST.out, HM.out, HAT0.out] at HAT
  rw [HTH.out, HXI.out, HN.out] at HNO
  simp only [HTH.out, HXI.out, HXA.out, HAT0.out] at HTO
  rw [HTM.out, HNON.out, HST.out, HM.out, HN.out, HXA.out, HXI.out] at HW0
  rw [HTM.out, HNON.out, HST.out, HM.out] at X1
  rw [HN.out] at X2 HA ha1
  rw [HXA.out, HXI.out] at X3
  rw [HTH.out, HTM.out, HNON.out, HST.out, HM.out, HN.out, HXA.out, HXI.out]
  obtain ⟨x0, x1, x2, x3⟩ := bx_cells4 X1.out
  obtain ⟨y0, y1⟩ := bx_cells2 X2.out
  obtain ⟨z0, z1⟩ := bx_cells2 X3.out
  have k0 := aft_cell x0
  have k1 := aft_cell x1
  have k2 := aft_cell x2
  have k3 := aft_cell x3
  have k4 := aft_cell y0
  have k5 := aft_cell z0
  have k6 := aft_cell z1
  clear hR hA x0 x1 x2 x3 y0 y1 z0 z1 hr4
  go_enter Tryz.func70, Tryz.ntmps70
  go_upto_region 1 with fail
  rw [HW0.out]
  by_cases h1 : xi < 0
  · have h1' : decide (0 ≤ xi) = false := by simp; omega
    obtain rfl : th = false := HNO.out (.inl h1)
    clear h1
    refine wp_region_after (by kernel_rfl) (by kernel_rfl) ?_
    repeat (go_big_quiet_step (exact Calls.after (HAT.out _ (Aft.bel _))))
    refine wpQuiet_nil ?_
    rintro _ ⟨⟨w7, hb7⟩, rfl⟩
    have HB7 := Lib.hid hb7
    clear hb7 k0 k1 k2 k3 k4 k5 k6
    go_wp2_with fail
    go_ret
    exact ⟨rfl, HB0.out.trans (HB7.out.mono HB0.out.size)⟩
  · have h1' : decide (0 ≤ xi) = true := by simp; omega
    obtain ⟨i, hi⟩ : ∃ i : Nat, xi = (i : Int) := ⟨xi.toNat, by omega⟩
    subst hi
    by_cases h2 : i < n
    · have h2' : decide ((i : Int) < (n : Int)) = true := by simpa using h2
      have hiA : i < al.length := by rw [HN.out]; exact h2
      obtain ⟨b, off, hae, -, hbl, c0, c1⟩ := Rd.attr_at HA.out hiA
      have HE := Lib.hid (HTO.out i hiA rfl)
      obtain ⟨non, HNN⟩ := nameIt (al[i]'hiA).non
      rw [HNN.out] at c0 HE
      subst hae
      have k7 := aft_cell c0
      have h3 : (i : Int) < (n : Int) := by omega
      have h4 : (0 : Int) ≤ (i : Int) := by omega
      clear h1 c0 c1
      refine wp_region_after (by kernel_rfl) (by kernel_rfl) ?_
      repeat (go_big_quiet_step (exact Calls.after (HAT.out _ (Aft.bel _))))
      refine wpQuiet_nil ?_
      rintro _ ⟨⟨w7, hb7⟩, rfl⟩
      have HB7 := Lib.hid hb7
      clear hb7 k0 k1 k2 k3 k4 k5 k6 k7
      go_wp2_with fail
      go_ret
      refine ⟨?_, HB0.out.trans (HB7.out.mono HB0.out.size)⟩
      rw [HE.out]
      rfl
    · have h2' : decide ((i : Int) < (n : Int)) = false := by simp; omega
      obtain rfl : th = false := HNO.out (.inr (by omega))
      clear h1
      refine wp_region_after (by kernel_rfl) (by kernel_rfl) ?_
      repeat (go_big_quiet_step (exact Calls.after (HAT.out _ (Aft.bel _))))
      refine wpQuiet_nil ?_
      rintro _ ⟨⟨w7, hb7⟩, rfl⟩
      have HB7 := Lib.hid hb7
      clear hb7 k0 k1 k2 k3 k4 k5 k6
      go_wp2_with fail
      go_ret
      exact ⟨rfl, HB0.out.trans (HB7.out.mono HB0.out.size)⟩
end At
end Go.Proofs.YtfocooehnmpndaaGreat
namespace Go.Proofs.YtfocooehnmpndaaGreat
open Go.RowKit
namespace At
set_option maxHeartbeats 4000000 in
set_option maxRecDepth 100000 in
theorem wellE (g : Gram) (j : Nat) (hj : j < g.rules.length) (hr4 : g.rules[j].right.length ≤ 4) (al : List Attr) (hnn : ∀ a ∈ al, 0 ≤ a.non) (x : Expr) (v : Value) (ar aa ae : Option Addr) (cr ca ne ce : Nat) (w : World) (hR : Rd AnyB w (.sl (g.rules.map Rule.d)) [.slice ar g.rules.length cr]) (hA : Rd AnyB w (.sl (al.map Attr.d)) [.slice aa al.length ca]) (hv : Rd AnyB w (.sl (x.args.map Expr.d)) [v]) :
    Calls Tryz.prog 71 #[.agg #[.int .i64 g.terms, .int .i64 g.nons, .int .i64 g.start, .slice ar g.rules.length cr], .agg #[.slice aa al.length ca, .slice ae ne ce], .int .i64 (j : Int), .agg #[.int .i64 x.kind, .int .i64 x.n, .int .i64 x.ref.at', .int .i64 x.ref.attr, v]] w (fun e w' => e = .returned (.bool (okNode al g.rules[j] x)) ∧ Below w.heap.size w w') := by
  obtain ⟨av, cv, rfl, hc1, hc2⟩ := hv.form
  rw [List.length_map] at hc1 ⊢
  obtain ⟨w0, HW0⟩ := nameIt (((w.alloc (.cells #[.int .i64 g.terms, .int .i64 g.nons, .int .i64 g.start, .slice ar g.rules.length cr] 24)).alloc (.cells #[.slice aa al.length ca, .slice ae ne ce] 28)).alloc (.cells #[.int .i64 x.kind, .int .i64 x.n, .int .i64 x.ref.at', .int .i64 x.ref.attr, .slice av x.args.length cv] 86))
  have HB0 : Hid (Below w.heap.size w w0) := by rw [← HW0.out]; exact (((Below.refl _ _).alloc (Nat.le_refl _) _).alloc (by simp) _).alloc (by simp; omega) _
  have X1 : Hid (w0.heap[w.heap.size]? = some (.cells #[.int .i64 g.terms, .int .i64 g.nons, .int .i64 g.start, .slice ar g.rules.length cr] 24 (0, 0))) := by
    rw [← HW0.out]; exact bx_keep (bx_keep (bx_new _ _ _ rfl) ((Below.refl _ _).alloc (Nat.le_refl _) _)) ((Below.refl _ _).alloc (Nat.le_refl _) _)
  have X2 : Hid (w0.heap[w.heap.size + 1]? = some (.cells #[.slice aa al.length ca, .slice ae ne ce] 28 (0, 0))) := by
    rw [← HW0.out]; exact bx_keep (bx_new _ _ _ (by simp)) ((Below.refl _ _).alloc (Nat.le_refl _) _)
  have X3 : Hid (w0.heap[w.heap.size + 1 + 1]? = some (.cells #[.int .i64 x.kind, .int .i64 x.n, .int .i64 x.ref.at', .int .i64 x.ref.attr, .slice av x.args.length cv] 86 (0, 0))) := by
    rw [← HW0.out]; exact bx_new _ _ _ (by simp)
  have HTE := Lib.hid (occursE g j hj hr4 al hnn x.ref ar aa ae cr ca ne ce w0 (hR.below HB0.out) (hA.below HB0.out))
  obtain ⟨tm, HTM⟩ := nameIt g.terms
  obtain ⟨no, HNON⟩ := nameIt g.nons
  obtain ⟨st, HST⟩ := nameIt g.start
  obtain ⟨m, HM⟩ := nameIt g.rules.length
  obtain ⟨an, HAN⟩ := nameIt al.length
  obtain ⟨p0, HP0⟩ := nameIt x.kind
  obtain ⟨p1, HP1⟩ := nameIt x.n
  obtain ⟨p2, HP2⟩ := nameIt x.ref.at'
  obtain ⟨p3, HP3⟩ := nameIt x.ref.attr
  obtain ⟨pn, HPN⟩ := nameIt x.args.length
  obtain ⟨b8, H8⟩ := nameIt (okArgs p0 pn)
  obtain ⟨b9, H9⟩ := nameIt (okN p0 p1)
  obtain ⟨th, HTH⟩ := nameIt (there al g.rules[j] x.ref)
  obtain ⟨rs, HRS⟩ := nameIt (okNode al g.rules[j] x)
  have HREF : Hid (decide (x.ref = ⟨0, 0⟩) = (p2 == 0 && p3 == 0)) := by
    show _ = _
    rw [← HP2.out, ← HP3.out]
    cases x.ref with
    | mk u v => rw [Bool.eq_iff_iff]; simp
  have HFIN : Hid (rs = (b8 && b9 && (if p0 = 1 then th else (p2 == 0 && p3 == 0)))) := by
    show _ = _
    rw [← HRS.out, okNode_eq, HTH.out, HP0.out, HP1.out, HPN.out, H8.out, H9.out, HREF.out]
  rw [HTM.out, HNON.out, HST.out, HM.out, HAN.out, HP0.out, HP1.out, HP2.out, HP3.out, HPN.out] at HW0
  rw [HTM.out, HNON.out, HST.out, HM.out] at X1
  rw [HAN.out] at X2
  rw [HP0.out, HP1.out, HP2.out, HP3.out, HPN.out] at X3
  rw [HTM.out, HNON.out, HST.out, HM.out, HAN.out, HP2.out, HP3.out, HTH.out] at HTE
  rw [HTM.out, HNON.out, HST.out, HM.out, HAN.out, HP0.out, HP1.out, HP2.out, HP3.out, HPN.out, HRS.out]
  rw [HPN.out] at hc1
  unfold maxLen at hc2
  obtain ⟨x0, x1, x2, x3⟩ := bx_cells4 X1.out
  obtain ⟨y0, y1⟩ := bx_cells2 X2.out
  obtain ⟨z0, z1, z2, z3, z4⟩ := bx_cells5 X3.out
  clear hR hA hv hr4
  go_enter Tryz.func71, Tryz.ntmps71
  go_upto_region 1 with fail
  rw [HW0.out]
  by_cases e0 : p0 = 0
  · subst e0
    obtain rfl : ((pn : Int) == 0) = b8 := by rw [← H8.out]; exact beq_cast pn 0
    have h9 : decide (0 ≤ p1 ∧ p1 < 1000003) = b9 := H9.out
    have HF : Hid (rs = (((pn : Int) == 0) && decide (0 ≤ p1 ∧ p1 < 1000003) && (p2 == 0 && p3 == 0))) := by show _ = _; rw [HFIN.out, h9]; rfl
    clear h9
    by_cases g1 : (pn : Int) = 0
    · have g1' : ((pn : Int) == 0) = true := by simpa using g1
      by_cases g2 : 0 ≤ p1
      · have g2' : decide (0 ≤ p1) = true := by simpa using g2
        by_cases g3 : p1 < 1000003
        · have g3' : decide (p1 < 1000003) = true := by simpa using g3
          by_cases h2 : p2 = 0
          · subst h2
            by_cases h3 : p3 = 0
            · subst h3
              obtain rfl : rs = true := by rw [HF.out, g1', decide_eq_true (⟨g2, g3⟩ : 0 ≤ p1 ∧ p1 < 1000003)]; rfl
              clear g1 g2 g3
              go_wp2_with fail
              go_ret
              exact ⟨rfl, HB0.out⟩
            · have h3' : (p3 == 0) = false := by simpa using h3
              obtain rfl : rs = false := by rw [HF.out, g1', decide_eq_true (⟨g2, g3⟩ : 0 ≤ p1 ∧ p1 < 1000003)]; rw [h3']; rfl
              clear g1 g2 g3 h3
              go_wp2_with fail
              go_ret
              exact ⟨rfl, HB0.out⟩
          · have h2' : (p2 == 0) = false := by simpa using h2
            obtain rfl : rs = false := by rw [HF.out, g1', decide_eq_true (⟨g2, g3⟩ : 0 ≤ p1 ∧ p1 < 1000003)]; rw [h2']; rfl
            clear g1 g2 g3 h2
            go_wp2_with fail
            go_ret
            exact ⟨rfl, HB0.out⟩
        · have g3' : decide (p1 < 1000003) = false := by simpa using g3
          obtain rfl : rs = false := by rw [HF.out, decide_eq_false (fun h => g3 h.2)]; simp
          clear g1 g2 g3
          go_wp2_with fail
          go_ret
          exact ⟨rfl, HB0.out⟩
      · have g2' : decide (0 ≤ p1) = false := by simpa using g2
        obtain rfl : rs = false := by rw [HF.out, decide_eq_false (fun h => g2 h.1)]; simp
        clear g1 g2
        go_wp2_with fail
        go_ret
        exact ⟨rfl, HB0.out⟩
    · have g1' : ((pn : Int) == 0) = false := by simpa using g1
      obtain rfl : rs = false := by rw [HF.out, g1']; rfl
      clear g1
      go_wp2_with fail
      go_ret
      exact ⟨rfl, HB0.out⟩
  by_cases e1 : p0 = 1
  · subst e1
    obtain rfl : ((pn : Int) == 0) = b8 := by rw [← H8.out]; exact beq_cast pn 0
    have h9 : decide (p1 = 0) = b9 := H9.out
    have HF : Hid (rs = (((pn : Int) == 0) && (p1 == 0) && th)) := by show _ = _; rw [HFIN.out, ← h9]; rfl
    clear h9 e0
    by_cases g1 : (pn : Int) = 0
    · have g1' : ((pn : Int) == 0) = true := by simpa using g1
      by_cases g2 : p1 = 0
      · have g2' : (p1 == 0) = true := by simpa using g2
        obtain rfl : rs = th := by rw [HF.out, g1', g2']; rfl
        clear g1 g2
        go_wp2_with fail
        refine HTE.out.mono ?_
        rintro e w7 ⟨rfl, hb7⟩
        have HB7 := Lib.hid hb7
        clear hb7
        go_wp2_with fail
        go_ret
        exact ⟨rfl, HB0.out.trans (HB7.out.mono HB0.out.size)⟩
      · have g2' : (p1 == 0) = false := by simpa using g2
        obtain rfl : rs = false := by rw [HF.out, g2']; simp
        clear g1 g2
        go_wp2_with fail
        go_ret
        exact ⟨rfl, HB0.out⟩
    · have g1' : ((pn : Int) == 0) = false := by simpa using g1
      obtain rfl : rs = false := by rw [HF.out, g1']; rfl
      clear g1
      go_wp2_with fail
      go_ret
      exact ⟨rfl, HB0.out⟩
  have f0 : (p0 == 0) = false := by simpa using e0
  have f1 : (p0 == 1) = false := by simpa using e1
  have HF : Hid (rs = (b8 && (p1 == 0) && (p2 == 0 && p3 == 0))) := by
    show _ = _
    have h9 : decide (p1 = 0) = b9 := by have h := H9.out; unfold okN at h; rw [if_neg e0] at h; exact h
    rw [HFIN.out, if_neg e1, ← h9]
    rfl
  have HE01 : Hid (p0 ≠ 0 ∧ p0 ≠ 1) := ⟨e0, e1⟩
  clear e0 e1
  go_upto_block 0 with fail
  go_cut [10] (fun t10 wx => t10 = .bool b8 ∧ wx = w0)
  case first =>
    by_cases e2 : p0 = 2
    · subst e2
      obtain rfl : true = b8 := by rw [← H8.out]; simp [okArgs]
      clear f0 f1
      go_wp2_with fail
      go_meet
      exact ⟨rfl, rfl⟩
    by_cases e3 : p0 = 3
    · subst e3
      obtain rfl : true = b8 := by rw [← H8.out]; simp [okArgs]
      clear f0 f1
      go_wp2_with fail
      go_meet
      exact ⟨rfl, rfl⟩
    by_cases e4 : p0 = 4
    · subst e4
      obtain rfl : decide (0 < pn) = b8 := by rw [← H8.out]; exact decide_eq_decide.2 (by omega)
      clear f0 f1
      go_wp2_with fail
      go_meet
      exact ⟨rfl, rfl⟩
    by_cases e5 : p0 = 5
    · subst e5
      obtain rfl : ((pn : Int) == 2) = b8 := by rw [← H8.out]; exact beq_cast pn 2
      clear f0 f1
      go_wp2_with fail
      go_meet
      exact ⟨rfl, rfl⟩
    by_cases e6 : p0 = 6
    · subst e6
      obtain rfl : ((pn : Int) == 3) = b8 := by rw [← H8.out]; exact beq_cast pn 3
      clear f0 f1
      go_wp2_with fail
      go_meet
      exact ⟨rfl, rfl⟩
    · obtain rfl : false = b8 := by rw [← H8.out]; unfold okArgs; have := HE01.out; rw [if_neg (by omega), if_neg (by omega), if_neg e4, if_neg e5, if_neg e6]
      have f2 : (p0 == 2) = false := by simpa using e2
      have f3 : (p0 == 3) = false := by simpa using e3
      have f4 : (p0 == 4) = false := by simpa using e4
      have f5 : (p0 == 5) = false := by simpa using e5
      have f6 : (p0 == 6) = false := by simpa using e6
      clear e2 e3 e4 e5 e6
      go_wp2_with fail
      go_meet
      exact ⟨rfl, rfl⟩
  case rest =>
    obtain ⟨rfl, rfl⟩ := hcut
    obtain ⟨w0, rfl⟩ : ∃ ww : World, ww = wc := ⟨_, rfl⟩
    cases b8 with
    | false =>
      obtain rfl : rs = false := by rw [HF.out]; rfl
      go_wp2_with fail
      go_ret
      exact ⟨rfl, HB0.out⟩
    | true =>
      by_cases g3 : p1 = 0
      · have g3' : (p1 == 0) = true := by simpa using g3
        by_cases h2 : p2 = 0
        · subst h2
          by_cases h3 : p3 = 0
          · subst h3
            obtain rfl : rs = true := by rw [HF.out, g3']; rfl
            clear g3
            go_wp2_with fail
            go_ret
            exact ⟨rfl, HB0.out⟩
          · have h3' : (p3 == 0) = false := by simpa using h3
            obtain rfl : rs = false := by rw [HF.out, g3']; rw [h3']; rfl
            clear g3 h3
            go_wp2_with fail
            go_ret
            exact ⟨rfl, HB0.out⟩
        · have h2' : (p2 == 0) = false := by simpa using h2
          obtain rfl : rs = false := by rw [HF.out, g3']; rw [h2']; rfl
          clear g3 h2
          go_wp2_with fail
          go_ret
          exact ⟨rfl, HB0.out⟩
      · have g3' : (p1 == 0) = false := by simpa using g3
        obtain rfl : rs = false := by rw [HF.out, g3']; rfl
        clear g3
        go_wp2_with fail
        go_ret
        exact ⟨rfl, HB0.out⟩
end At
end Go.Proofs.YtfocooehnmpndaaGreat
namespace Go.Proofs.YtfocooehnmpndaaGreat
open Go.RowKit
namespace At
structure SfI (w : World) (G S : Array Value) (wr : World) : Prop where
  b1 : wr.heap[w.heap.size]? = some (.cells G 24 (0, 0))
  b2 : wr.heap[w.heap.size + 1]? = some (.cells S 28 (0, 0))
  bel : Below w.heap.size w wr
theorem SfI.keep {w : World} {G S : Array Value} {wr w' : World} (h : SfI w G S wr) (hb : Below wr.heap.size wr w') : SfI w G S w' := ⟨bx_keep h.b1 hb, bx_keep h.b2 hb, h.bel.trans (hb.mono h.bel.size)⟩
def NoM (g : Gram) (s : Sys) (i k a : Nat) : Prop := ∀ i' (h : i' < g.rules.length) a' k', a' < s.attrs.length → k' < g.rules[i'].right.length + 1 → (i' < i ∨ (i' = i ∧ (k' < k ∨ (k' = k ∧ a' < a)))) → lacksAt s i' g.rules[i'] k' a' = false
theorem noM_start (g : Gram) (s : Sys) : NoM g s 0 0 0 := fun i' h a' k' _ _ h3 => by omega
theorem NoM.a {g : Gram} {s : Sys} {i k a : Nat} (h : NoM g s i k a) (hi : i < g.rules.length) (hl : lacksAt s i g.rules[i] k a = false) : NoM g s i k (a + 1) := by
  intro i' h' a' k' h1 h2 h3
  by_cases e : i' = i ∧ a' = a ∧ k' = k
  · obtain ⟨rfl, rfl, rfl⟩ := e; exact hl
  · exact h i' h' a' k' h1 h2 (by omega)
theorem NoM.k {g : Gram} {s : Sys} {i k a : Nat} (h : NoM g s i k a) (ha : s.attrs.length ≤ a) : NoM g s i (k + 1) 0 := by
  intro i' h' a' k' h1 h2 h3
  exact h i' h' a' k' h1 h2 (by omega)
theorem NoM.i {g : Gram} {s : Sys} {i k : Nat} (h : NoM g s i k 0) (hi : i < g.rules.length) (hk : g.rules[i].right.length + 1 ≤ k) : NoM g s (i + 1) 0 0 := by
  intro i' h' a' k' h1 h2 h3
  by_cases e : i' = i
  · subst e; exact h i' h' a' k' h1 h2 (by omega)
  · exact h i' h' a' k' h1 h2 (by omega)
theorem NoM.fin {g : Gram} {s : Sys} {i : Nat} (h : NoM g s i 0 0) (hi : g.rules.length ≤ i) : ¬ lacks g s := by
  rintro ⟨i', k', a', h1, h2, h3, h4⟩
  rw [h i' h1 a' k' h3 h2 (by omega)] at h4
  cases h4
theorem had_hit {es : List Eqn} {i j : Nat} (h : j < es.length) (hij : j < i) {rule : Int} {x : Ref} (h1 : es[j].rule = rule) (h2 : es[j].to' = x) : had (es.take i) rule x = true := by
  unfold had
  rw [List.any_eq_true]
  refine ⟨es[j], ?_, by simp [h1, h2]⟩
  rw [List.mem_take_iff_getElem]
  exact ⟨j, by omega, rfl⟩
theorem had_none {es : List Eqn} {rule : Int} {x : Ref} : ∀ (i : Nat), i ≤ es.length → (∀ j (h : j < es.length), j < i → ¬ (es[j].rule = rule ∧ es[j].to' = x)) → had (es.take i) rule x = false := by
  intro i hi h
  unfold had
  rw [List.any_eq_false]
  intro q hq
  rw [List.mem_take_iff_getElem] at hq
  obtain ⟨j, hj, rfl⟩ := hq
  simpa using h j (by omega) (by omega)
theorem valid_bad {al : List Attr} {r : Rule} {x : Expr} {i : Nat} (h : i < (enodes x).length) (h2 : okNode al r (enodes x)[i] = false) : valid al r x = false := by
  unfold valid
  rw [List.all_eq_false]
  exact ⟨_, List.getElem_mem h, by simp [h2]⟩
theorem valid_ok {al : List Attr} {r : Rule} {x : Expr} (h : ∀ i (h : i < (enodes x).length), okNode al r (enodes x)[i] = true) : valid al r x = true := by
  unfold valid
  rw [List.all_eq_true]
  intro y hy
  obtain ⟨i, hi, rfl⟩ := List.getElem_of_mem hy
  exact h i hi
end At
end Go.Proofs.YtfocooehnmpndaaGreat
namespace Go.Proofs.YtfocooehnmpndaaGreat
open Go.RowKit
namespace At
set_option maxHeartbeats 2000000 in
set_option maxRecDepth 100000 in
theorem predFault (rule : Int) (x : Ref) (br bx : Nat) (l : List Eqn) (w : World) (h1 : w.heap[br]? = some (.cells #[.int .i64 rule] 3 (0, 0))) (h2 : w.heap[bx]? = some (.cells #[.int .i64 x.at', .int .i64 x.attr] 83 (0, 0))) :
    PredEqn 73 #[.pointer (some ⟨br, 0, none⟩), .pointer (some ⟨bx, 0, none⟩)] l (fun q => decide (q.rule = rule ∧ q.to' = x)) w := by
  intro W q v _ hb hv
  obtain ⟨a, cap, rfl, -, -⟩ := hv.form
  rw [List.length_map]
  obtain ⟨w0, HW0⟩ := nameIt (W.alloc (.cells #[.int .i64 q.rule, .int .i64 q.to'.at', .int .i64 q.to'.attr, .int .i64 q.is'.kind, .int .i64 q.is'.n, .int .i64 q.is'.ref.at', .int .i64 q.is'.ref.attr, .slice a q.is'.args.length cap] 90))
  have HB0 : Hid (Below W.heap.size W w0) := by rw [← HW0.out]; exact (Below.refl _ _).alloc (Nat.le_refl _) _
  have X0 : Hid (w0.heap[W.heap.size]? = some (.cells #[.int .i64 q.rule, .int .i64 q.to'.at', .int .i64 q.to'.attr, .int .i64 q.is'.kind, .int .i64 q.is'.n, .int .i64 q.is'.ref.at', .int .i64 q.is'.ref.attr, .slice a q.is'.args.length cap] 90 (0, 0))) := by rw [← HW0.out]; exact bx_new _ _ _ rfl
  have y0 := bx_cells1 (bx_keep (bx_keep h1 hb) HB0.out)
  obtain ⟨y1, y2⟩ := bx_cells2 (bx_keep (bx_keep h2 hb) HB0.out)
  obtain ⟨rs, HRS⟩ := nameIt (decide (q.rule = rule ∧ q.to' = x))
  have HE : Hid (rs = decide (q.rule = rule ∧ q.to'.at' = x.at' ∧ q.to'.attr = x.attr)) := by
    show _ = _
    rw [← HRS.out, decide_eq_decide]
    cases q.to' with
    | mk u v => cases x with | mk u' v' => simp
  obtain ⟨q0, HQ0⟩ := nameIt q.rule
  obtain ⟨q1, HQ1⟩ := nameIt q.to'.at'
  obtain ⟨q2, HQ2⟩ := nameIt q.to'.attr
  obtain ⟨q3, HQ3⟩ := nameIt q.is'.kind
  obtain ⟨q4, HQ4⟩ := nameIt q.is'.n
  obtain ⟨q5, HQ5⟩ := nameIt q.is'.ref.at'
  obtain ⟨q6, HQ6⟩ := nameIt q.is'.ref.attr
  obtain ⟨qn, HQN⟩ := nameIt q.is'.args.length
  obtain ⟨xa, HXA⟩ := nameIt x.at'
  obtain ⟨xi, HXI⟩ := nameIt x.attr
  rw [HQ0.out, HQ1.out, HQ2.out, HQ3.out, HQ4.out, HQ5.out, HQ6.out, HQN.out] at HW0 X0
  rw [HQ0.out, HQ1.out, HQ2.out, HXA.out, HXI.out] at HE
  rw [HXA.out] at y1
  rw [HXI.out] at y2
  rw [HQ0.out, HQ1.out, HQ2.out, HQ3.out, HQ4.out, HQ5.out, HQ6.out, HQN.out]
  show Calls Tryz.prog 73 #[.agg #[.int .i64 q0, .int .i64 q1, .int .i64 q2, .int .i64 q3, .int .i64 q4, .int .i64 q5, .int .i64 q6, .slice a qn cap], .pointer (some ⟨br, 0, none⟩), .pointer (some ⟨bx, 0, none⟩)] W (fun e w' => e = .returned (.bool (decide (q.rule = rule ∧ q.to' = x))) ∧ Below W.heap.size W w')
  rw [HRS.out]
  obtain ⟨x0, x1, x2, x3, x4, x5, x6, x7⟩ := bx_cells8 X0.out
  clear h1 h2 hb hv
  go_enter Tryz.func73, Tryz.ntmps73
  go_upto_region 1 with fail
  rw [HW0.out]
  by_cases e0 : q0 = rule
  · have e0' : (q0 == rule) = true := by simpa using e0
    by_cases e1 : q1 = xa
    · by_cases e2 : q2 = xi
      · obtain rfl : rs = true := by rw [HE.out]; exact decide_eq_true ⟨e0, e1, e2⟩
        subst e0 e1 e2
        go_wp2_with fail
        go_ret
        exact ⟨rfl, HB0.out⟩
      · have e2' : (q2 == xi) = false := by simpa using e2
        obtain rfl : rs = false := by rw [HE.out]; exact decide_eq_false (fun h => e2 h.2.2)
        subst e0 e1
        clear e2
        go_wp2_with fail
        go_ret
        exact ⟨rfl, HB0.out⟩
    · have e1' : (q1 == xa) = false := by simpa using e1
      obtain rfl : rs = false := by rw [HE.out]; exact decide_eq_false (fun h => e1 h.2.1)
      subst e0
      clear e1
      go_wp2_with fail
      go_ret
      exact ⟨rfl, HB0.out⟩
  · have e0' : (q0 == rule) = false := by simpa using e0
    obtain rfl : rs = false := by rw [HE.out]; exact decide_eq_false (fun h => e0 h.1)
    clear e0
    go_wp2_with fail
    go_ret
    exact ⟨rfl, HB0.out⟩
end At
end Go.Proofs.YtfocooehnmpndaaGreat
namespace Go.Proofs.YtfocooehnmpndaaGreat
open Go.RowKit
namespace At
set_option maxHeartbeats 8000000 in
set_option maxRecDepth 100000 in
theorem sysFaultE (g : Gram) (s : Sys) (hg : checkG g = 0) (ar aa ae : Option Addr) (cr ca ce : Nat) (w : World) (hsz : ∀ q ∈ s.eqs, q.is'.size ≤ 1048576) (hR : Rd AnyB w (.sl (g.rules.map Rule.d)) [.slice ar g.rules.length cr]) (hA : Rd AnyB w (.sl (s.attrs.map Attr.d)) [.slice aa s.attrs.length ca]) (hE : Rd AnyB w (.sl (s.eqs.map Eqn.d)) [.slice ae s.eqs.length ce]) :
    Calls Tryz.prog 32 #[.agg #[.int .i64 g.terms, .int .i64 g.nons, .int .i64 g.start, .slice ar g.rules.length cr], .agg #[.slice aa s.attrs.length ca, .slice ae s.eqs.length ce]] w (fun e w' => e = .returned (.int .i64 (sysErr g s)) ∧ Below w.heap.size w w') := by
  have hr1 := hR.bounds.2
  have ha1 := hA.bounds.2
  have he1 := hE.bounds.2
  unfold maxLen at hr1 ha1 he1
  obtain ⟨hr1, hr2⟩ := hr1
  obtain ⟨ha1, ha2⟩ := ha1
  obtain ⟨he1, he2⟩ := he1
  have HZ := Lib.hid (checkG_zero hg)
  obtain ⟨w0, HW0⟩ := nameIt ((w.alloc (.cells #[.int .i64 g.terms, .int .i64 g.nons, .int .i64 g.start, .slice ar g.rules.length cr] 24)).alloc (.cells #[.slice aa s.attrs.length ca, .slice ae s.eqs.length ce] 28))
  have HI0 : Hid (SfI w #[.int .i64 g.terms, .int .i64 g.nons, .int .i64 g.start, .slice ar g.rules.length cr] #[.slice aa s.attrs.length ca, .slice ae s.eqs.length ce] w0) := by
    rw [← HW0.out]
    exact ⟨bx_keep (bx_new _ _ _ rfl) ((Below.refl _ _).alloc (Nat.le_refl _) _), bx_new _ _ _ (by simp), ((Below.refl _ _).alloc (Nat.le_refl _) _).alloc (by simp) _⟩
  have HR := Lib.hid hR
  have HA := Lib.hid hA
  have HE := Lib.hid hE
  have HSIZ := Lib.hid hsz
  have HSA := Lib.hid (@sysErr_a g s)
  have HSL := Lib.hid (@sysErr_l g s)
  have HSE := Lib.hid (@sysErr_e g s)
  have HSN := Lib.hid (@sysErr_n g s)
  have HSZ := Lib.hid (@sysErr_z g s)
  have HAT := Lib.hid (fun (i : Nat) (h : i < s.attrs.length) => @attrsFrom_at g s.attrs i h)
  have HNN0 : Hid (attrsErr g s.attrs = 0 → ∀ a ∈ s.attrs, 0 ≤ a.non) := fun h a ha => (attrsFrom_zero h a ha).1
  have HOC := Lib.hid (fun (hnn : ∀ a ∈ s.attrs, 0 ≤ a.non) (j : Nat) (hj : j < g.rules.length) (x : Ref) (W : World) (hb : Below w.heap.size w W) => occursE g j hj (HZ.out.2.2 _ (List.getElem_mem hj)).2.2.1 s.attrs hnn x ar aa ae cr ca s.eqs.length ce W (hR.below hb) (hA.below hb))
  have HWL := Lib.hid (fun (hnn : ∀ a ∈ s.attrs, 0 ≤ a.non) (j : Nat) (hj : j < g.rules.length) (x : Expr) (v : Value) (W : World) (hb : Below w.heap.size w W) (hv : Rd AnyB W (.sl (x.args.map Expr.d)) [v]) => wellE g j hj (HZ.out.2.2 _ (List.getElem_mem hj)).2.2.1 s.attrs hnn x v ar aa ae cr ca s.eqs.length ce W (hR.below hb) (hA.below hb) hv)
  obtain ⟨ss, HSSS⟩ := nameIt (sysErr g s)
  obtain ⟨ass, HAS⟩ := nameIt (attrsErr g s.attrs)
  have HER0 : Hid (ass = attrsFrom g s.attrs 0 (s.attrs.drop 0)) := HAS.out.symm
  obtain ⟨tm, HTM⟩ := nameIt g.terms
  obtain ⟨no, HNO⟩ := nameIt g.nons
  obtain ⟨st, HST⟩ := nameIt g.start
  obtain ⟨m, HM⟩ := nameIt g.rules.length
  obtain ⟨al, HAL⟩ := nameIt s.attrs.length
  obtain ⟨n, HN⟩ := nameIt s.eqs.length
  have HBAD := Lib.hid (fun (i : Nat) (h : i < s.attrs.length) => show attrErr g s.attrs i s.attrs[i] = if s.attrs[i].non < 0 ∨ no ≤ s.attrs[i].non then 1 else if s.attrs[i].inh ∧ s.attrs[i].non = st then 3 else if 3 < cntA (s.attrs.take (i + 1)) s.attrs[i].non then 2 else 0 by unfold attrErr; rw [HNO.out, HST.out])
  have HM' := Lib.hid HM.out
  have HN' := Lib.hid HN.out
  have HAL' := Lib.hid HAL.out
  rw [HSSS.out, HAS.out] at HSA
  rw [HSSS.out, HAS.out, HN.out] at HSL
  rw [HSSS.out, HAS.out, HN.out] at HSE
  rw [HSSS.out, HAS.out, HN.out] at HSN
  rw [HSSS.out, HAS.out, HN.out] at HSZ
  rw [HAS.out] at HNN0
  simp only [HTM.out, HNO.out, HST.out, HM.out, HAL.out, HN.out] at HOC HWL
  rw [HTM.out, HNO.out, HST.out, HM.out, HAL.out, HN.out] at HW0 HI0
  rw [HM.out] at HR hr1
  rw [HAL.out] at HA ha1
  rw [HN.out] at HE he1
  rw [HTM.out, HNO.out, HST.out, HM.out, HAL.out, HN.out, HSSS.out]
  obtain ⟨k0, k1, k2, k3⟩ := bx_cells4 HI0.out.b1
  obtain ⟨l0, l1⟩ := bx_cells2 HI0.out.b2
  clear hR hA hE hsz hg
  go_enter Tryz.func32, Tryz.ntmps32
  go_upto_region 1 with fail
  rw [HW0.out]
  go_wp2_with fail
  clear k0 k1 k2 k3 l0 l1
  go_loopg [25] al (fun gg v25 wr => ∃ i : Nat, i ≤ al ∧ al - i ≤ gg ∧ v25 = .int .i64 i ∧ Hid (ass = attrsFrom g s.attrs i (s.attrs.drop i)) ∧ Hid (SfI w #[.int .i64 tm, .int .i64 no, .int .i64 st, .slice ar m cr] #[.slice aa al ca, .slice ae n ce] wr))
  case atStart => exact ⟨0, by omega, by omega, rfl, HER0, HI0⟩
  case round =>
    clear HI0 HER0
    obtain ⟨i, hi, hg, rfl, HER, HI⟩ := hrel
    by_cases hlt : i < al
    · have hlt' : (i : Int) < (al : Int) := by omega
      have hlt2 : i < s.attrs.length := by rw [HAL.out]; exact hlt
      obtain ⟨wb, rfl⟩ : ∃ ww : World, ww = wr := ⟨_, rfl⟩
      obtain ⟨b, off, hae, -, hbl, c0, c1⟩ := Rd.attr_at (HA.out.below HI.out.bel) hlt2
      have HBI := Lib.hid (HBAD.out i hlt2)
      have HATI := Lib.hid (HAT.out i hlt2)
      obtain ⟨ai, HAI⟩ := nameIt (s.attrs[i]'hlt2)
      rw [HAI.out] at c0 c1 HBI HATI
      obtain ⟨non, HNON⟩ := nameIt ai.non
      obtain ⟨inh, HINH⟩ := nameIt ai.inh
      rw [HNON.out] at c0 HBI
      rw [HINH.out] at c1 HBI
      obtain ⟨w2, HW2⟩ := nameIt (wb.alloc (.cells #[.int .i64 non, .bool inh] 88))
      have hb2 : Below wb.heap.size wb w2 := by rw [← HW2.out]; exact (Below.refl _ _).alloc (Nat.le_refl _) _
      have X3 : Hid (w2.heap[wb.heap.size]? = some (.cells #[.int .i64 non, .bool inh] 88 (0, 0))) := by rw [← HW2.out]; exact bx_new _ _ _ rfl
      have HI2 := Lib.hid (HI.out.keep hb2)
      obtain ⟨k0, k1, k2, k3⟩ := bx_cells4 HI2.out.b1
      obtain ⟨l0, l1⟩ := bx_cells2 HI2.out.b2
      obtain ⟨z0, z1⟩ := bx_cells2 X3.out
      have HRET : Hid (∀ z, z ≠ 0 → attrErr g s.attrs i ai = z → ss = z) := by
        intro z hz h
        have h1 : ass = z := by rw [HER.out, HATI.out, h, if_pos hz]
        rw [← h1]
        exact HSA.out (by rw [h1]; exact hz)
      have HNEXT : Hid (attrErr g s.attrs i ai = 0 → ass = attrsFrom g s.attrs (i + 1) (s.attrs.drop (i + 1))) := by
        intro h
        rw [HER.out, HATI.out, h, if_neg (by simp)]
      subst hae
      clear hb2
      go_upto_region 4 with fail
      rw [HW2.out]
      clear c0 c1
      by_cases h1 : non < 0
      · have h1' : decide (non < 0) = true := by simpa using h1
        have HF : Hid (ss = 1) := HRET.out 1 (by decide) (by rw [HBI.out, if_pos (.inl h1)])
        clear h1
        go_wp2_with fail
        go_ret
        exact ⟨by rw [HF.out]; rfl, HI2.out.bel⟩
      have h1' : decide (non < 0) = false := by simpa using h1
      by_cases h2 : no ≤ non
      · have h2' : decide (no ≤ non) = true := by simpa using h2
        have HF : Hid (ss = 1) := HRET.out 1 (by decide) (by rw [HBI.out, if_pos (.inr h2)])
        clear h1
        go_wp2_with fail
        go_ret
        exact ⟨by rw [HF.out]; rfl, HI2.out.bel⟩
      have h2' : decide (no ≤ non) = false := by simp; omega
      have HBJ : Hid (attrErr g s.attrs i ai = if inh ∧ non = st then 3 else if 3 < cntA (s.attrs.take (i + 1)) non then 2 else 0) := by
        show _ = _
        rw [HBI.out, if_neg (by omega)]
      by_cases h3 : inh = true ∧ non = st
      · have HF : Hid (ss = 3) := HRET.out 3 (by decide) (by rw [HBJ.out, if_pos h3])
        obtain ⟨h3, h4⟩ := h3
        subst h3 h4
        clear h1 h2
        go_wp2_with fail
        go_ret
        exact ⟨by rw [HF.out]; rfl, HI2.out.bel⟩
      have HBK : Hid (attrErr g s.attrs i ai = if 3 < cntA (s.attrs.take (i + 1)) non then 2 else 0) := by
        show _ = _
        rw [HBJ.out, if_neg h3]
      have HC0 : Hid ((0 : Int) = (cntA (s.attrs.take 0) non : Nat)) := by show _ = _; simp [cntA]
      have hst : ((inh && (non == st)) = false) := by
        cases inh with
        | false => rfl
        | true => simpa using h3
      have hica : (i : Int) + 1 ≤ (ca : Int) := by omega
      have hiT : ((i : Int) + 1).toNat = i + 1 := by omega
      have hi0 : (0 : Int) ≤ (i : Int) + 1 := by omega
      go_upto_region 6 with fail
      go_cut [48] (fun t48 wx => t48 = .bool false ∧ wx = w2)
      case first =>
        cases inh with
        | false =>
          clear h1 h2 h3 hst
          go_wp2_with fail
          go_meet
          exact ⟨rfl, rfl⟩
        | true =>
          have h3' : (non == st) = false := by simpa using hst
          clear h1 h2 h3 hst
          go_wp2_with fail
          go_meet
          exact ⟨rfl, rfl⟩
      case rest =>
        obtain ⟨rfl, rfl⟩ := hcut
        obtain ⟨w2, rfl⟩ : ∃ ww : World, ww = wc := ⟨_, rfl⟩
        clear h1 h2 h3 hst
        go_wp2_with fail
        clear k0 k1 k2 k3 l0 l1 z0 z1
        have XB2 := Lib.hid X3.out
        go_loopg [7, 55] (i + 1) (fun gg v7 v55 wr => ∃ j : Nat, j ≤ i + 1 ∧ i + 1 - j ≤ gg ∧ v55 = .int .i64 j ∧ v7 = .int .i64 (cntA (s.attrs.take j) non : Nat) ∧ Hid (SfI w #[.int .i64 tm, .int .i64 no, .int .i64 st, .slice ar m cr] #[.slice (some ⟨b, off, none⟩) al ca, .slice ae n ce] wr) ∧ Hid (wr.heap[wb.heap.size]? = some (.cells #[.int .i64 non, .bool inh] 88 (0, 0))))
        case atStart => exact ⟨0, by omega, by omega, rfl, by rw [← HC0.out], HI2, XB2⟩
        case round =>
          clear HI2 XB2 X3
          obtain ⟨j, hj, hgj, rfl, rfl, HIJ, XBJ⟩ := hrel
          by_cases hji : j < i + 1
          · have hji' : (j : Int) < (i : Int) + 1 := by omega
            have hj2 : j < s.attrs.length := by omega
            obtain ⟨b', off', hae', -, hbl', c0, c1⟩ := Rd.attr_at (HA.out.below HIJ.out.bel) hj2
            cases hae'
            have HCS := Lib.hid (cntA_step hj2 non)
            have HCL := Lib.hid (cntA_le s.attrs j non)
            obtain ⟨aj, HAJ⟩ := nameIt (s.attrs[j]'hj2)
            rw [HAJ.out] at c0 c1 HCS
            obtain ⟨nj, HNJ⟩ := nameIt aj.non
            obtain ⟨ij, HIJN⟩ := nameIt aj.inh
            rw [HNJ.out] at c0 HCS
            rw [HIJN.out] at c1
            obtain ⟨ct, HCT⟩ := nameIt (cntA (s.attrs.take j) non)
            rw [HCT.out] at HCS HCL
            rw [HCT.out]
            have hctl := HCL.out
            obtain ⟨w3, HW3⟩ := nameIt (wr.alloc (.cells #[.int .i64 nj, .bool ij] 88))
            have hb3 : Below wr.heap.size wr w3 := by rw [← HW3.out]; exact (Below.refl _ _).alloc (Nat.le_refl _) _
            have X4 : Hid (w3.heap[wr.heap.size]? = some (.cells #[.int .i64 nj, .bool ij] 88 (0, 0))) := by rw [← HW3.out]; exact bx_new _ _ _ rfl
            have HI3 := Lib.hid (HIJ.out.keep hb3)
            have XB3 := Lib.hid (bx_keep XBJ.out hb3)
            obtain ⟨p0, p1⟩ := bx_cells2 X4.out
            obtain ⟨o0, o1⟩ := bx_cells2 XB3.out
            clear hb3
            go_upto_region 12 with fail
            rw [HW3.out]
            clear c0 c1
            by_cases hnj : nj = non
            · subst hnj
              have HE2 : Hid ((cntA (s.attrs.take (j + 1)) nj : Nat) = ct + 1) := by show _ = _; rw [HCS.out, if_pos rfl]
              go_wp2_with fail
              go_roundg (i + 1 - (j + 1))
              case measure => omega
              case rel => exact ⟨j + 1, by omega, by omega, by go_num, by rw [HE2.out]; go_num, HI3, XB3⟩
            · have hnj' : (nj == non) = false := by simpa using hnj
              have HE2 : Hid ((cntA (s.attrs.take (j + 1)) non : Nat) = ct) := by show _ = _; rw [HCS.out, if_neg (fun h => hnj h.symm)]
              clear hnj
              go_wp2_with fail
              go_roundg (i + 1 - (j + 1))
              case measure => omega
              case rel => exact ⟨j + 1, by omega, by omega, by go_num, by rw [HE2.out], HI3, XB3⟩
          · have hji' : ¬ (j : Int) < (i : Int) + 1 := by omega
            obtain rfl : j = i + 1 := by omega
            obtain ⟨ct, HCT⟩ := nameIt (cntA (s.attrs.take (i + 1)) non)
            rw [HCT.out] at HBK ⊢
            by_cases h5 : 3 < ct
            · have h5' : (3 : Int) < (ct : Int) := by omega
              have HF : Hid (ss = 2) := HRET.out 2 (by decide) (by rw [HBK.out, if_pos h5])
              go_wp2_with fail
              go_ret
              exact ⟨by rw [HF.out]; rfl, HIJ.out.bel⟩
            · have h5' : ¬ (3 : Int) < (ct : Int) := by omega
              have HNX := Lib.hid (HNEXT.out (by rw [HBK.out, if_neg h5]))
              go_wp2_with fail
              go_roundg (al - (i + 1))
              case measure => omega
              case rel => exact ⟨i + 1, by omega, by omega, by go_num, HNX, HIJ⟩
    · have hlt' : ¬ (i : Int) < (al : Int) := by omega
      have HEZ : Hid (ass = 0) := by
        show _ = _
        rw [HER.out, List.drop_of_length_le (by rw [HAL.out]; omega)]
        rfl
      have HNN := Lib.hid (HNN0.out HEZ.out)
      have HIA := Lib.hid HI.out
      obtain ⟨l0, l1⟩ := bx_cells2 HIA.out.b2
      by_cases hbig : 200 < n
      · have hbig' : (200 : Int) < (n : Int) := by omega
        have HF : Hid (ss = 2) := HSL.out HEZ.out hbig
        go_wp2_with fail
        go_ret
        exact ⟨by rw [HF.out]; rfl, HIA.out.bel⟩
      have hbig' : ¬ (200 : Int) < (n : Int) := by omega
      have HNB := Lib.hid hbig
      have HER0 : Hid (eqsFrom g s 0 s.eqs = eqsFrom g s 0 (s.eqs.drop 0)) := rfl
      have HEA := Lib.hid (fun (i : Nat) (h : i < s.eqs.length) => @eqsFrom_at g s i h)
      obtain ⟨er, HERE⟩ := nameIt (eqsFrom g s 0 s.eqs)
      rw [HERE.out] at HER0 HSE HSN HSZ
      have HOCN := Lib.hid (HOC.out HNN.out)
      have HWLN := Lib.hid (HWL.out HNN.out)
      go_wp2_with fail
      clear l0 l1 hlt hlt'
      go_loopg [77] n (fun gg v77 wr => ∃ i : Nat, i ≤ n ∧ n - i ≤ gg ∧ v77 = .int .i64 i ∧ Hid (er = eqsFrom g s i (s.eqs.drop i)) ∧ Hid (SfI w #[.int .i64 tm, .int .i64 no, .int .i64 st, .slice ar m cr] #[.slice aa al ca, .slice ae n ce] wr))
      case atStart => exact ⟨0, by omega, by omega, rfl, HER0, HIA⟩
      case round =>
        clear HIA HI HER0 HER hg hi
        obtain ⟨i, hi, hg, rfl, HEI, HI⟩ := hrel
        by_cases hlt : i < n
        · have hlt' : (i : Int) < (n : Int) := by omega
          have hltE : i < s.eqs.length := by rw [HN.out]; exact hlt
          obtain ⟨wb, rfl⟩ : ∃ ww : World, ww = wr := ⟨_, rfl⟩
          obtain ⟨b, off, v, hae, -, hbl, c0, c1, c2, c3, c4, c5, c6, c7, hkid⟩ := Rd.eqn_at (HE.out.below HI.out.bel) hltE
          obtain ⟨av, cv, rfl, -, -⟩ := hkid.form
          rw [List.length_map] at c7 hkid
          have HATI := Lib.hid (HEA.out i hltE)
          have HSQZ := Lib.hid (HSIZ.out _ (List.getElem_mem hltE))
          obtain ⟨q, HQ⟩ := nameIt (s.eqs[i]'hltE)
          rw [HQ.out] at c0 c1 c2 c3 c4 c5 c6 c7 hkid HATI HSQZ
          have HRET : Hid (∀ z, z ≠ 0 → eqErr g s i q = z → ss = z) := by
            intro z hz h
            have h1 : er = z := by rw [HEI.out, HATI.out, h, if_pos hz]
            rw [← h1]
            exact HSE.out HEZ.out HNB.out (by rw [h1]; exact hz)
          have HNEXT : Hid (eqErr g s i q = 0 → er = eqsFrom g s (i + 1) (s.eqs.drop (i + 1))) := by
            intro h
            rw [HEI.out, HATI.out, h, if_neg (by simp)]
          have HEIN := Lib.hid (fun (j : Nat) (hj : j < g.rules.length) (h : q.rule = (j : Int)) => eqErr_in (s := s) (i := i) hj h)
          have HEOUT : Hid (q.rule < 0 ∨ (m : Int) ≤ q.rule → eqErr g s i q = 1) := by
            intro h
            exact eqErr_out (by rw [HM.out]; exact h)
          obtain ⟨w4, HW4⟩ := nameIt (wb.alloc (.cells #[.int .i64 q.rule, .int .i64 q.to'.at', .int .i64 q.to'.attr, .int .i64 q.is'.kind, .int .i64 q.is'.n, .int .i64 q.is'.ref.at', .int .i64 q.is'.ref.attr, .slice av q.is'.args.length cv] 90))
          have hb4 : Below wb.heap.size wb w4 := by rw [← HW4.out]; exact (Below.refl _ _).alloc (Nat.le_refl _) _
          have XQ : Hid (w4.heap[wb.heap.size]? = some (.cells #[.int .i64 q.rule, .int .i64 q.to'.at', .int .i64 q.to'.attr, .int .i64 q.is'.kind, .int .i64 q.is'.n, .int .i64 q.is'.ref.at', .int .i64 q.is'.ref.attr, .slice av q.is'.args.length cv] 90 (0, 0))) := by rw [← HW4.out]; exact bx_new _ _ _ rfl
          have HXE := Lib.hid (exprsE (fun k => k < w4.heap.size) q.is'.size q.is' _ w4 (Nat.le_refl _) HSQZ.out (fun k h => h) ((hkid.below hb4).mono (fun k _ h => h)))
          have HI4 := Lib.hid (HI.out.keep hb4)
          have HHL := Lib.hid (@had_none s.eqs q.rule q.to' i (by omega))
          have HHH := Lib.hid (fun (k : Nat) (hk : k < s.eqs.length) (hki : k < i) => @had_hit s.eqs i k hk hki q.rule q.to')
          have HTQ : Hid (∀ x : Ref, x = q.to' ↔ x.at' = q.to'.at' ∧ x.attr = q.to'.attr) := by
            intro x
            cases x with
            | mk u v => cases q.to' with | mk u' v' => simp
          obtain ⟨qr, HQR⟩ := nameIt q.rule
          obtain ⟨t1, HT1⟩ := nameIt q.to'.at'
          obtain ⟨t2, HT2⟩ := nameIt q.to'.attr
          obtain ⟨e0, HE0⟩ := nameIt q.is'.kind
          obtain ⟨e1, HE1⟩ := nameIt q.is'.n
          obtain ⟨e2, HE2⟩ := nameIt q.is'.ref.at'
          obtain ⟨e3, HE3⟩ := nameIt q.is'.ref.attr
          obtain ⟨qn, HQN⟩ := nameIt q.is'.args.length
          obtain ⟨hd, HHD⟩ := nameIt (had (s.eqs.take i) q.rule q.to')
          simp only [HHD.out] at HEIN
          simp only [HQR.out] at HEIN HEOUT
          rw [HHD.out] at HHL
          simp only [HHD.out] at HHH
          simp only [HQR.out] at HHL HHH
          simp only [HT1.out, HT2.out] at HTQ
          rw [HQR.out] at c0
          rw [HQR.out, HT1.out, HT2.out, HE0.out, HE1.out, HE2.out, HE3.out, HQN.out] at XQ HW4
          rw [HT1.out] at c1
          rw [HT2.out] at c2
          rw [HE0.out] at c3
          rw [HE1.out] at c4
          rw [HE2.out] at c5
          rw [HE3.out] at c6
          rw [HQN.out] at c7
          rw [HE0.out, HE1.out, HE2.out, HE3.out, HQN.out] at HXE
          subst hae
          obtain ⟨g0, g1, g2, g3⟩ := bx_cells4 HI4.out.b1
          obtain ⟨l0, l1⟩ := bx_cells2 HI4.out.b2
          obtain ⟨z0, z1, z2, z3, z4, z5, z6, z7⟩ := bx_cells8 XQ.out
          clear hb4 hkid
          go_upto_region 23 with fail
          rw [HW4.out]
          clear c0 c1 c2 c3 c4 c5 c6 c7
          by_cases h1 : qr < 0
          · have h1' : decide (qr < 0) = true := by simpa using h1
            have HF : Hid (ss = 1) := HRET.out 1 (by decide) (HEOUT.out (.inl h1))
            clear h1
            go_wp2_with fail
            go_ret
            exact ⟨by rw [HF.out]; rfl, HI4.out.bel⟩
          have h1' : decide (qr < 0) = false := by simpa using h1
          obtain ⟨j, hj⟩ : ∃ j : Nat, qr = (j : Int) := ⟨qr.toNat, by omega⟩
          subst hj
          by_cases h2 : m ≤ j
          · have h2' : decide ((m : Int) ≤ (j : Int)) = true := by simpa using h2
            have HF : Hid (ss = 1) := HRET.out 1 (by decide) (HEOUT.out (.inr (by omega)))
            clear h1
            go_wp2_with fail
            go_ret
            exact ⟨by rw [HF.out]; rfl, HI4.out.bel⟩
          have h2' : decide ((m : Int) ≤ (j : Int)) = false := by simp; omega
          have hjR : j < g.rules.length := by rw [HM.out]; omega
          have HEJ := Lib.hid (HEIN.out j hjR rfl)
          have HOJ := Lib.hid (fun (W : World) (hb : Below w4.heap.size w4 W) => HOCN.out j (by omega) q.to' W (HI4.out.bel.trans (hb.mono HI4.out.bel.size)))
          have HWJ := Lib.hid (fun (x : Expr) (v : Value) (W : World) (hb : Below w4.heap.size w4 W) => HWLN.out j (by omega) x v W (HI4.out.bel.trans (hb.mono HI4.out.bel.size)))
          clear h1
          obtain ⟨ru, HRU⟩ := nameIt (g.rules[j]'hjR)
          rw [HRU.out] at HEJ
          simp only [HRU.out] at HOJ HWJ
          have HTR := Lib.hid (@there_range s.attrs ru q.to')
          have HDN := Lib.hid (@defs_no s.attrs ru q.to')
          have HDA := Lib.hid (fun (h : there s.attrs ru q.to' = true) (k : Nat) (hk : k < s.attrs.length) => @defs_at s.attrs ru q.to' k h hk)
          have HVB := Lib.hid (fun (k : Nat) (h : k < (enodes q.is').length) => @valid_bad s.attrs ru q.is' k h)
          have HVO := Lib.hid (@valid_ok s.attrs ru q.is')
          have HLE := Lib.hid (enodes_len q.is')
          obtain ⟨sz, HSZE⟩ := nameIt q.is'.size
          obtain ⟨nds, HNDS⟩ := nameIt (enodes q.is')
          obtain ⟨th, HTH⟩ := nameIt (there s.attrs ru q.to')
          obtain ⟨df, HDF⟩ := nameIt (defs s.attrs ru q.to')
          obtain ⟨vl, HVL⟩ := nameIt (valid s.attrs ru q.is')
          rw [HDF.out, HVL.out, HSZE.out] at HEJ
          simp only [HT1.out, HT2.out, HTH.out] at HOJ HTR
          rw [HTH.out, HDF.out] at HDN
          simp only [HT1.out, HT2.out, HTH.out, HDF.out] at HDA
          simp only [HNDS.out, HVL.out] at HVB HVO
          rw [HNDS.out, HSZE.out] at HLE
          have hszl : sz ≤ 1048576 := by have h := HSQZ.out; rw [HSZE.out] at h; exact h
          go_upto_region 25 with fail
          go_wp2_with fail
          refine HXE.out.mono ?_
          rintro e w5 ⟨v5, xs5, rfl, ho5, hd5, hb5⟩
          rw [HSZE.out] at ho5
          rw [HNDS.out] at hd5
          have HB5 := Lib.hid hb5
          have HND : Hid (Rd AnyB w5 (.sl (nds.map Expr.d)) [v5]) := rd_of_own ho5 hd5.any (by rw [List.length_map, HLE.out]) (fun _ _ => trivial)
          obtain ⟨a5, c5, rfl, -, -⟩ := own_len ho5
          have HI5 := Lib.hid (HI4.out.keep hb5)
          have XQ5 := Lib.hid (bx_keep XQ.out hb5)
          clear hb5 ho5 hd5 g0 g1 g2 g3 l0 l1 z0 z1 z2 z3 z4 z5 z6 z7
          by_cases hbs : 30 < sz
          · have hbs' : (30 : Int) < (sz : Int) := by omega
            have HF : Hid (ss = 2) := HRET.out 2 (by decide) (by rw [HEJ.out, if_pos hbs])
            go_wp2_with fail
            go_ret
            exact ⟨by rw [HF.out]; rfl, HI5.out.bel⟩
          have hbs' : ¬ (30 : Int) < (sz : Int) := by omega
          have HEL : Hid (eqErr g s i q = if df = false ∨ vl = false then 3 else if hd then 6 else 0) := by
            show _ = _
            rw [HEJ.out, if_neg hbs]
          obtain ⟨g0, g1, g2, g3⟩ := bx_cells4 HI5.out.b1
          obtain ⟨l0, l1⟩ := bx_cells2 HI5.out.b2
          obtain ⟨z0, z1, z2, z3, z4, z5, z6, z7⟩ := bx_cells8 XQ5.out
          have k0 := aft_cell g0
          have k1 := aft_cell g1
          have k2 := aft_cell g2
          have k3 := aft_cell g3
          have k4 := aft_cell l0
          have k5 := aft_cell l1
          have k6 := aft_cell z0
          have k7 := aft_cell z1
          have k8 := aft_cell z2
          clear g0 g1 g2 g3 l0 l1 z0 z1 z2 z3 z4 z5 z6 z7
          have HOJ5 := Lib.hid (fun (W : World) (hb : Below w5.heap.size w5 W) => HOJ.out W (HB5.out.trans (hb.mono HB5.out.size)))
          go_upto_region 28 with fail
          go_cut [121] (fun t121 wx => t121 = .bool (!df) ∧ Hid (Below w5.heap.size w5 wx))
          case first =>
            cases th with
            | false =>
              obtain rfl : df = false := HDN.out rfl
              refine wp_region_after (by kernel_rfl) (by kernel_rfl) ?_
              repeat (go_big_quiet_step (exact Calls.after (HOJ5.out _ (Aft.bel _))))
              refine wpQuiet_nil ?_
              rintro _ ⟨⟨w7, hb7⟩, rfl⟩
              have HB7 := Lib.hid hb7
              clear hb7 k0 k1 k2 k3 k4 k5 k6 k7 k8
              go_wp2_with fail
              go_meet
              exact ⟨rfl, HB7⟩
            | true =>
              obtain ⟨r1, r2, r3, r4⟩ := HTR.out rfl
              obtain ⟨k, hk⟩ : ∃ k : Nat, t2 = (k : Int) := ⟨t2.toNat, by omega⟩
              subst hk
              have hkA : k < s.attrs.length := by omega
              obtain ⟨b', off', hae', -, hbl', d0, d1⟩ := Rd.attr_at (HA.out.below HI5.out.bel) hkA
              have HDD := Lib.hid (HDA.out rfl k hkA rfl)
              obtain ⟨inh, HINH⟩ := nameIt (s.attrs[k]'hkA).inh
              rw [HINH.out] at d1 HDD
              have k9 := aft_cell d1
              have hk0 : (0 : Int) ≤ (k : Int) := by omega
              have hk1 : (k : Int) < (al : Int) := by have := HAL.out; omega
              subst hae'
              clear r1 r2 r4 d0 d1
              by_cases h01 : 0 < t1
              · have h01' : decide (0 < t1) = true := by simpa using h01
                obtain rfl : df = (inh == true) := by rw [HDD.out, h01']
                clear h01
                cases inh with
                | false =>
                  refine wp_region_after (by kernel_rfl) (by kernel_rfl) ?_
                  repeat (go_big_quiet_step (exact Calls.after (HOJ5.out _ (Aft.bel _))))
                  refine wpQuiet_nil ?_
                  rintro _ ⟨⟨w7, hb7⟩, rfl⟩
                  have HB7 := Lib.hid hb7
                  clear hb7 k0 k1 k2 k3 k4 k5 k6 k7 k8 k9
                  go_wp2_with fail
                  go_meet
                  exact ⟨rfl, HB7⟩
                | true =>
                  refine wp_region_after (by kernel_rfl) (by kernel_rfl) ?_
                  repeat (go_big_quiet_step (exact Calls.after (HOJ5.out _ (Aft.bel _))))
                  refine wpQuiet_nil ?_
                  rintro _ ⟨⟨w7, hb7⟩, rfl⟩
                  have HB7 := Lib.hid hb7
                  clear hb7 k0 k1 k2 k3 k4 k5 k6 k7 k8 k9
                  go_wp2_with fail
                  go_meet
                  exact ⟨rfl, HB7⟩
              · have h01' : decide (0 < t1) = false := by simpa using h01
                obtain rfl : df = (inh == false) := by rw [HDD.out, h01']
                clear h01
                cases inh with
                | false =>
                  refine wp_region_after (by kernel_rfl) (by kernel_rfl) ?_
                  repeat (go_big_quiet_step (exact Calls.after (HOJ5.out _ (Aft.bel _))))
                  refine wpQuiet_nil ?_
                  rintro _ ⟨⟨w7, hb7⟩, rfl⟩
                  have HB7 := Lib.hid hb7
                  clear hb7 k0 k1 k2 k3 k4 k5 k6 k7 k8 k9
                  go_wp2_with fail
                  go_meet
                  exact ⟨rfl, HB7⟩
                | true =>
                  refine wp_region_after (by kernel_rfl) (by kernel_rfl) ?_
                  repeat (go_big_quiet_step (exact Calls.after (HOJ5.out _ (Aft.bel _))))
                  refine wpQuiet_nil ?_
                  rintro _ ⟨⟨w7, hb7⟩, rfl⟩
                  have HB7 := Lib.hid hb7
                  clear hb7 k0 k1 k2 k3 k4 k5 k6 k7 k8 k9
                  go_wp2_with fail
                  go_meet
                  exact ⟨rfl, HB7⟩
          case rest =>
            obtain ⟨rfl, HB7⟩ := hcut
            obtain ⟨w7, rfl⟩ : ∃ ww : World, ww = wc := ⟨_, rfl⟩
            clear k0 k1 k2 k3 k4 k5 k6 k7 k8
            have HI7 := Lib.hid (HI5.out.keep HB7.out)
            have XQ7 := Lib.hid (bx_keep XQ5.out HB7.out)
            have HND7 := Lib.hid (HND.out.below HB7.out)
            have HB47 : Hid (Below w4.heap.size w4 w7) := HB5.out.trans (HB7.out.mono HB5.out.size)
            cases df with
            | false =>
              have HF : Hid (ss = 3) := HRET.out 3 (by decide) (by rw [HEL.out, if_pos (.inl rfl)])
              go_wp2_with fail
              go_ret
              exact ⟨by rw [HF.out]; rfl, HI7.out.bel⟩
            | true =>
              have HRF : Hid (∀ k (h : k < nds.length), k < 0 → okNode s.attrs ru nds[k] = true) := fun k _ h => by omega
              have HB77 := Lib.hid (Below.refl w7.heap.size w7)
              go_wp2_with fail
              go_loopg [124] sz (fun gg v124 wr => ∃ k : Nat, k ≤ sz ∧ sz - k ≤ gg ∧ v124 = .int .i64 k ∧ Hid (∀ k' (h : k' < nds.length), k' < k → okNode s.attrs ru nds[k'] = true) ∧ Hid (SfI w #[.int .i64 tm, .int .i64 no, .int .i64 st, .slice ar m cr] #[.slice aa al ca, .slice (some ⟨b, off, none⟩) n ce] wr) ∧ Hid (Below w7.heap.size w7 wr))
              case atStart => exact ⟨0, by omega, by omega, rfl, HRF, HI7, HB77⟩
              case round =>
                clear HRF HI7 HB77
                obtain ⟨k, hk, hgk, rfl, HOK, HIK, HBK⟩ := hrel
                by_cases hks : k < sz
                · have hks' : (k : Int) < (sz : Int) := by omega
                  have hkn : k < nds.length := by rw [HLE.out]; exact hks
                  obtain ⟨b8, off8, v8, hae8, -, hbl8, c0, c1, c2, c3, c4, hkid8⟩ := Rd.arg (HND7.out.below HBK.out) hkn
                  obtain ⟨av8, cv8, rfl, -, -⟩ := hkid8.form
                  rw [List.length_map] at c4 hkid8
                  have HOKK := Lib.hid (fun (h : okNode s.attrs ru nds[k] = true) => show ∀ k' (h : k' < nds.length), k' < k + 1 → okNode s.attrs ru nds[k'] = true from fun k' h1 h2 => by
                    by_cases e : k' = k
                    · subst e; exact h
                    · exact HOK.out k' h1 (by omega))
                  have HVBK := Lib.hid (HVB.out k hkn)
                  obtain ⟨nd, HNDE⟩ := nameIt (nds[k]'hkn)
                  rw [HNDE.out] at c0 c1 c2 c3 c4 hkid8 HVBK
                  simp only [HNDE.out] at HOKK
                  obtain ⟨w8, HW8⟩ := nameIt (wr.alloc (.cells #[.int .i64 nd.kind, .int .i64 nd.n, .int .i64 nd.ref.at', .int .i64 nd.ref.attr, .slice av8 nd.args.length cv8] 86))
                  have hb8 : Below wr.heap.size wr w8 := by rw [← HW8.out]; exact (Below.refl _ _).alloc (Nat.le_refl _) _
                  have X8 : Hid (w8.heap[wr.heap.size]? = some (.cells #[.int .i64 nd.kind, .int .i64 nd.n, .int .i64 nd.ref.at', .int .i64 nd.ref.attr, .slice av8 nd.args.length cv8] 86 (0, 0))) := by rw [← HW8.out]; exact bx_new _ _ _ rfl
                  have HB8 : Hid (Below w7.heap.size w7 w8) := HBK.out.trans (hb8.mono HBK.out.size)
                  have HI8 := Lib.hid (HIK.out.keep hb8)
                  have HWC := Lib.hid (HWJ.out nd _ w8 (HB47.out.trans (HB8.out.mono HB47.out.size)) (hkid8.below hb8))
                  have XQ8 := Lib.hid (bx_keep XQ7.out HB8.out)
                  obtain ⟨okb, HOKB⟩ := nameIt (okNode s.attrs ru nd)
                  rw [HOKB.out] at HWC HVBK HOKK
                  obtain ⟨p0, HP0⟩ := nameIt nd.kind
                  obtain ⟨p1, HP1⟩ := nameIt nd.n
                  obtain ⟨p2, HP2⟩ := nameIt nd.ref.at'
                  obtain ⟨p3, HP3⟩ := nameIt nd.ref.attr
                  obtain ⟨pn, HPN⟩ := nameIt nd.args.length
                  rw [HP0.out, HP1.out, HP2.out, HP3.out, HPN.out] at HWC X8 HW8
                  rw [HP0.out] at c0
                  rw [HP1.out] at c1
                  rw [HP2.out] at c2
                  rw [HP3.out] at c3
                  rw [HPN.out] at c4
                  obtain ⟨g0, g1, g2, g3⟩ := bx_cells4 HI8.out.b1
                  obtain ⟨l0, l1⟩ := bx_cells2 HI8.out.b2
                  obtain ⟨z0, z1, z2, z3, z4, z5, z6, z7⟩ := bx_cells8 XQ8.out
                  obtain ⟨y0, y1, y2, y3, y4⟩ := bx_cells5 X8.out
                  subst hae8
                  clear hb8 hkid8
                  go_upto_region 33 with fail
                  rw [HW8.out]
                  clear c0 c1 c2 c3 c4
                  go_wp2_with fail
                  refine HWC.out.mono ?_
                  rintro e w9 ⟨rfl, hb9⟩
                  have HI9 := Lib.hid (HI8.out.keep hb9)
                  have HB9 : Hid (Below w7.heap.size w7 w9) := HB8.out.trans (hb9.mono HB8.out.size)
                  clear hb9 g0 g1 g2 g3 l0 l1 z0 z1 z2 z3 z4 z5 z6 z7 y0 y1 y2 y3 y4
                  cases okb with
                  | false =>
                    have HF : Hid (ss = 3) := HRET.out 3 (by decide) (by rw [HEL.out, if_pos (.inr (HVBK.out rfl))])
                    go_wp2_with fail
                    go_ret
                    exact ⟨by rw [HF.out]; rfl, HI9.out.bel⟩
                  | true =>
                    have HOKN := Lib.hid (HOKK.out rfl)
                    go_wp2_with fail
                    go_roundg (sz - (k + 1))
                    case measure => omega
                    case rel => exact ⟨k + 1, by omega, by omega, by go_num, HOKN, HI9, HB9⟩
                · have hks' : ¬ (k : Int) < (sz : Int) := by omega
                  have HVT : Hid (vl = true) := HVO.out (fun k' h => HOK.out k' h (by have := HLE.out; omega))
                  have HEM : Hid (eqErr g s i q = if hd then 6 else 0) := by
                    show _ = _
                    rw [HEL.out, if_neg (by rw [HVT.out]; simp)]
                  have XQK := Lib.hid (bx_keep XQ7.out HBK.out)
                  obtain ⟨l0, l1⟩ := bx_cells2 HIK.out.b2
                  have HNH : Hid (∀ k' (h : k' < s.eqs.length), k' < 0 → ¬ (s.eqs[k'].rule = (j : Int) ∧ s.eqs[k'].to' = q.to')) := fun k' _ h => by omega
                  have hica : (i : Int) ≤ (ce : Int) := by omega
                  have hi0 : (0 : Int) ≤ (i : Int) := by omega
                  have hiT : ((i : Int)).toNat = i := by omega
                  have HBKK := Lib.hid (Below.refl wr.heap.size wr)
                  obtain ⟨wk, HWK⟩ : ∃ ww : World, Hid (wr = ww) := ⟨_, rfl⟩
                  have HIKK : Hid (SfI w #[.int .i64 tm, .int .i64 no, .int .i64 st, .slice ar m cr] #[.slice aa al ca, .slice (some ⟨b, off, none⟩) n ce] wr) := HIK.out
                  have HXQK : Hid (wr.heap[wb.heap.size]? = some (.cells #[.int .i64 (j : Int), .int .i64 t1, .int .i64 t2, .int .i64 e0, .int .i64 e1, .int .i64 e2, .int .i64 e3, .slice av qn cv] 90 (0, 0))) := XQK.out
                  go_wp2_with fail
                  clear l0 l1
                  go_loopg [141] i (fun gg v141 wr => ∃ k : Nat, k ≤ i ∧ i - k ≤ gg ∧ v141 = .int .i64 k ∧ Hid (∀ k' (h : k' < s.eqs.length), k' < k → ¬ (s.eqs[k'].rule = (j : Int) ∧ s.eqs[k'].to' = q.to')) ∧ Hid (SfI w #[.int .i64 tm, .int .i64 no, .int .i64 st, .slice ar m cr] #[.slice aa al ca, .slice (some ⟨b, off, none⟩) n ce] wr) ∧ Hid (wr.heap[wb.heap.size]? = some (.cells #[.int .i64 (j : Int), .int .i64 t1, .int .i64 t2, .int .i64 e0, .int .i64 e1, .int .i64 e2, .int .i64 e3, .slice av qn cv] 90 (0, 0))))
                  case atStart => exact ⟨0, by omega, by omega, rfl, HNH, HIKK, HXQK⟩
                  case round =>
                    clear HNH HIKK HXQK HIK XQK HBKK
                    obtain ⟨k, hk, hgk, rfl, HNH, HIP, XP⟩ := hrel
                    by_cases hki : k < i
                    · have hki' : (k : Int) < (i : Int) := by omega
                      have hkE : k < s.eqs.length := by omega
                      obtain ⟨b9, off9, v9, hae9, -, hbl9, c0, c1, c2, c3, c4, c5, c6, c7, hkid9⟩ := Rd.eqn_at (HE.out.below HIP.out.bel) hkE
                      cases hae9
                      obtain ⟨av9, cv9, rfl, -, -⟩ := hkid9.form
                      rw [List.length_map] at c7 hkid9
                      have HHK := Lib.hid (HHH.out k hkE hki)
                      have HTP := Lib.hid (HTQ.out s.eqs[k].to')
                      have HNHK := Lib.hid (fun (h : ¬ (s.eqs[k].rule = (j : Int) ∧ s.eqs[k].to' = q.to')) => show ∀ k' (h : k' < s.eqs.length), k' < k + 1 → ¬ (s.eqs[k'].rule = (j : Int) ∧ s.eqs[k'].to' = q.to') from fun k' h1 h2 => by
                        by_cases e : k' = k
                        · subst e; exact h
                        · exact HNH.out k' h1 (by omega))
                      obtain ⟨p, HPE⟩ := nameIt (s.eqs[k]'hkE)
                      rw [HPE.out] at c0 c1 c2 c3 c4 c5 c6 c7 hkid9 HHK HTP
                      simp only [HPE.out] at HNHK
                      obtain ⟨w9, HW9⟩ := nameIt (wr.alloc (.cells #[.int .i64 p.rule, .int .i64 p.to'.at', .int .i64 p.to'.attr, .int .i64 p.is'.kind, .int .i64 p.is'.n, .int .i64 p.is'.ref.at', .int .i64 p.is'.ref.attr, .slice av9 p.is'.args.length cv9] 90))
                      have hb9 : Below wr.heap.size wr w9 := by rw [← HW9.out]; exact (Below.refl _ _).alloc (Nat.le_refl _) _
                      have X9 : Hid (w9.heap[wr.heap.size]? = some (.cells #[.int .i64 p.rule, .int .i64 p.to'.at', .int .i64 p.to'.attr, .int .i64 p.is'.kind, .int .i64 p.is'.n, .int .i64 p.is'.ref.at', .int .i64 p.is'.ref.attr, .slice av9 p.is'.args.length cv9] 90 (0, 0))) := by rw [← HW9.out]; exact bx_new _ _ _ rfl
                      have HI9 := Lib.hid (HIP.out.keep hb9)
                      have XP9 := Lib.hid (bx_keep XP.out hb9)
                      obtain ⟨pr, HPR⟩ := nameIt p.rule
                      obtain ⟨u1, HU1⟩ := nameIt p.to'.at'
                      obtain ⟨u2, HU2⟩ := nameIt p.to'.attr
                      obtain ⟨f0, HF0⟩ := nameIt p.is'.kind
                      obtain ⟨f1, HF1⟩ := nameIt p.is'.n
                      obtain ⟨f2, HF2⟩ := nameIt p.is'.ref.at'
                      obtain ⟨f3, HF3⟩ := nameIt p.is'.ref.attr
                      obtain ⟨fn, HFN⟩ := nameIt p.is'.args.length
                      rw [HPR.out, HU1.out, HU2.out, HF0.out, HF1.out, HF2.out, HF3.out, HFN.out] at X9 HW9
                      rw [HPR.out] at c0 HHK
                      simp only [HPR.out] at HNHK
                      rw [HU1.out, HU2.out] at HTP
                      rw [HU1.out] at c1
                      rw [HU2.out] at c2
                      rw [HF0.out] at c3
                      rw [HF1.out] at c4
                      rw [HF2.out] at c5
                      rw [HF3.out] at c6
                      rw [HFN.out] at c7
                      obtain ⟨z0, z1, z2, z3, z4, z5, z6, z7⟩ := bx_cells8 XP9.out
                      obtain ⟨y0, y1, y2, y3, y4, y5, y6, y7⟩ := bx_cells8 X9.out
                      clear hb9 hkid9
                      go_upto_region 39 with fail
                      rw [HW9.out]
                      clear c0 c1 c2 c3 c4 c5 c6 c7
                      by_cases g0 : pr = (j : Int)
                      · by_cases g1 : u1 = t1
                        · by_cases g2 : u2 = t2
                          · have HHT : Hid (hd = true) := HHK.out g0 (HTP.out.2 ⟨g1, g2⟩)
                            have HF : Hid (ss = 6) := HRET.out 6 (by decide) (by rw [HEM.out, HHT.out]; rfl)
                            subst g0 g1 g2
                            go_wp2_with fail
                            go_ret
                            exact ⟨by rw [HF.out]; rfl, HI9.out.bel⟩
                          · have g2' : (u2 == t2) = false := by simpa using g2
                            have HNX := Lib.hid (HNHK.out (fun h => g2 (HTP.out.1 h.2).2))
                            subst g0 g1
                            clear g2
                            go_wp2_with fail
                            go_roundg (i - (k + 1))
                            case measure => omega
                            case rel => exact ⟨k + 1, by omega, by omega, by go_num, HNX, HI9, XP9⟩
                        · have g1' : (u1 == t1) = false := by simpa using g1
                          have HNX := Lib.hid (HNHK.out (fun h => g1 (HTP.out.1 h.2).1))
                          subst g0
                          clear g1
                          go_wp2_with fail
                          go_roundg (i - (k + 1))
                          case measure => omega
                          case rel => exact ⟨k + 1, by omega, by omega, by go_num, HNX, HI9, XP9⟩
                      · have g0' : (pr == (j : Int)) = false := by simpa using g0
                        have HNX := Lib.hid (HNHK.out (fun h => g0 h.1))
                        clear g0
                        go_wp2_with fail
                        go_roundg (i - (k + 1))
                        case measure => omega
                        case rel => exact ⟨k + 1, by omega, by omega, by go_num, HNX, HI9, XP9⟩
                    · have hki' : ¬ (k : Int) < (i : Int) := by omega
                      have HHF : Hid (hd = false) := HHL.out (fun k' h1 h2 => HNH.out k' h1 (by omega))
                      have HNX := Lib.hid (HNEXT.out (by rw [HEM.out, HHF.out]; rfl))
                      go_wp2_with fail
                      go_roundg (n - (i + 1))
                      case measure => omega
                      case rel => exact ⟨i + 1, by omega, by omega, by go_num, HNX, HIP⟩
        · have hlt' : ¬ (i : Int) < (n : Int) := by omega
          have HEQZ : Hid (er = 0) := by
            show _ = _
            rw [HEI.out, List.drop_of_length_le (by rw [HN.out]; omega)]
            rfl
          have HFZ := Lib.hid (fun h => HSZ.out HEZ.out HNB.out HEQZ.out h)
          have HFN := Lib.hid (fun h => HSN.out HEZ.out HNB.out HEQZ.out h)
          have HN0 := Lib.hid (noM_start g s)
          have HIE := Lib.hid HI.out
          obtain ⟨g0, g1, g2, g3⟩ := bx_cells4 HIE.out.b1
          go_wp2_with fail
          clear g0 g1 g2 g3
          go_loopg [162] m (fun gg v162 wr => ∃ i : Nat, i ≤ m ∧ m - i ≤ gg ∧ v162 = .int .i64 i ∧ Hid (NoM g s i 0 0) ∧ Hid (SfI w #[.int .i64 tm, .int .i64 no, .int .i64 st, .slice ar m cr] #[.slice aa al ca, .slice ae n ce] wr))
          case atStart => exact ⟨0, by omega, by omega, rfl, HN0, HIE⟩
          case round =>
            clear HN0 HIE HI HEI hlt hlt' hi hg
            obtain ⟨wb, rfl⟩ : ∃ ww : World, ww = wr := ⟨_, rfl⟩
            obtain ⟨i, hi, hg, rfl, HNL, HI⟩ := hrel
            by_cases him : i < m
            · have him' : (i : Int) < (m : Int) := by omega
              have hi0 : (0 : Int) ≤ (i : Int) := by omega
              have hiR : i < g.rules.length := by rw [HM.out]; exact him
              obtain ⟨w4, HW4⟩ := nameIt (wb.alloc (.cells #[.int .i64 (i : Int)] 3))
              have hb4 : Below wb.heap.size wb w4 := by rw [← HW4.out]; exact (Below.refl _ _).alloc (Nat.le_refl _) _
              have XI : Hid (w4.heap[wb.heap.size]? = some (.cells #[.int .i64 (i : Int)] 3 (0, 0))) := by rw [← HW4.out]; exact bx_new _ _ _ rfl
              have HI4 := Lib.hid (HI.out.keep hb4)
              obtain ⟨b6, off6, vr6, hae6, -, hbl6, d0, d1, hkr6⟩ := (HR.out.below HI4.out.bel).rule_at hiR
              obtain ⟨ar6, cr6, rfl, -, -⟩ := hkr6.form
              rw [List.length_map] at d1 hkr6
              have HNA := Lib.hid (fun (k a : Nat) (h : NoM g s i k a) => h.a hiR)
              have HNK := Lib.hid (fun (k a : Nat) (h : NoM g s i k a) => h.k)
              have HNI := Lib.hid (fun (k : Nat) (h : NoM g s i k 0) => h.i hiR)
              have HLAK : Hid (∀ a k : Nat, k < g.rules[i].right.length + 1 → a < al → lacksAt s i g.rules[i] k a = true → lacks g s) := fun a k h1 h2 h3 => ⟨i, k, a, hiR, h1, by rw [HAL.out]; exact h2, h3⟩
              have hrn := (HZ.out.2.2 _ (List.getElem_mem hiR)).2.2.1
              have HOI := Lib.hid (fun (x : Ref) (W : World) (hb : Below w4.heap.size w4 W) => HOCN.out i him x W (HI4.out.bel.trans (hb.mono HI4.out.bel.size)))
              obtain ⟨ru, HRU⟩ := nameIt (g.rules[i]'hiR)
              simp only [HRU.out] at HNA HNI HLAK HOI
              rw [HRU.out] at d0 d1 hkr6 hrn
              obtain ⟨lf, HLF⟩ := nameIt ru.left
              obtain ⟨rn, HRN⟩ := nameIt ru.right.length
              rw [HLF.out] at d0
              rw [HRN.out] at d1 hrn
              simp only [HRN.out] at HNI HLAK
              have x0 := bx_cells1 XI.out
              obtain ⟨g0, g1, g2, g3⟩ := bx_cells4 HI4.out.b1
              subst hae6
              have HB4 := Lib.hid (Below.refl w4.heap.size w4)
              clear hb4 hkr6 d0
              go_upto_region 46 with fail
              rw [HW4.out]
              go_wp2_with fail
              clear d1 x0 g0 g1 g2 g3
              go_loopg [173] (rn + 1) (fun gg v173 wr => ∃ k : Nat, k ≤ rn + 1 ∧ rn + 1 - k ≤ gg ∧ v173 = .int .i64 k ∧ Hid (NoM g s i k 0) ∧ Hid (SfI w #[.int .i64 tm, .int .i64 no, .int .i64 st, .slice (some ⟨b6, off6, none⟩) m cr] #[.slice aa al ca, .slice ae n ce] wr) ∧ Hid (Below w4.heap.size w4 wr))
              case atStart => exact ⟨0, by omega, by omega, rfl, HNL, HI4, HB4⟩
              case round =>
                obtain ⟨wd, rfl⟩ : ∃ ww : World, ww = wr := ⟨_, rfl⟩
                clear HI4 HB4 HNL
                obtain ⟨k, hk, hgk, rfl, HNL, HIK, HBK⟩ := hrel
                by_cases hkr : k < rn + 1
                · have hkr' : (k : Int) < (rn : Int) + 1 := by omega
                  obtain ⟨l0, l1⟩ := bx_cells2 HIK.out.b2
                  go_wp2_with fail
                  clear l0 l1
                  go_loopg [179] al (fun gg v179 wr => ∃ a : Nat, a ≤ al ∧ al - a ≤ gg ∧ v179 = .int .i64 a ∧ Hid (NoM g s i k a) ∧ Hid (SfI w #[.int .i64 tm, .int .i64 no, .int .i64 st, .slice (some ⟨b6, off6, none⟩) m cr] #[.slice aa al ca, .slice ae n ce] wr) ∧ Hid (Below w4.heap.size w4 wr))
                  case atStart => exact ⟨0, by omega, by omega, rfl, HNL, HIK, HBK⟩
                  case round =>
                    obtain ⟨we, rfl⟩ : ∃ ww : World, ww = wr := ⟨_, rfl⟩
                    clear HIK HBK HNL
                    obtain ⟨a, ha, hga, rfl, HNL, HIA, HBA⟩ := hrel
                    by_cases haa : a < al
                    · have haa' : (a : Int) < (al : Int) := by omega
                      have haA : a < s.attrs.length := by rw [HAL.out]; exact haa
                      obtain ⟨b7, off7, hae7, -, hbl7, c0, c1⟩ := Rd.attr_at (HA.out.below HIA.out.bel) haA
                      obtain ⟨aj, HAJ⟩ := nameIt (s.attrs[a]'haA)
                      have HDA := Lib.hid (fun (h : there s.attrs ru ⟨k, a⟩ = true) => @defs_at s.attrs ru ⟨k, a⟩ a h haA rfl)
                      rw [HAJ.out] at c0 c1 HDA
                      obtain ⟨nj, HNJ⟩ := nameIt aj.non
                      obtain ⟨ij, HIJN⟩ := nameIt aj.inh
                      rw [HNJ.out] at c0
                      rw [HIJN.out] at c1 HDA
                      have HDN := Lib.hid (@defs_no s.attrs ru ⟨k, a⟩)
                      have HLA : Hid (lacksAt s i ru k a = (defs s.attrs ru ⟨k, a⟩ && !had s.eqs i ⟨k, a⟩)) := rfl
                      have HLB := Lib.hid (HLAK.out a k hkr haa)
                      have HNN' := Lib.hid (fun h => HNA.out k a HNL.out h)
                      obtain ⟨w5, HW5⟩ := nameIt (we.alloc (.cells #[.int .i64 nj, .bool ij] 88))
                      have hb5 : Below we.heap.size we w5 := by rw [← HW5.out]; exact (Below.refl _ _).alloc (Nat.le_refl _) _
                      have X5 : Hid (w5.heap[we.heap.size]? = some (.cells #[.int .i64 nj, .bool ij] 88 (0, 0))) := by rw [← HW5.out]; exact bx_new _ _ _ rfl
                      have hs5 : w5.heap.size = we.heap.size + 1 := by rw [← HW5.out]; simp
                      obtain ⟨w6, HW6⟩ := nameIt (w5.alloc (.cells #[.int .i64 (k : Int), .int .i64 (a : Int)] 83))
                      have hb6 : Below w5.heap.size w5 w6 := by rw [← HW6.out]; exact (Below.refl _ _).alloc (Nat.le_refl _) _
                      have X6 : Hid (w6.heap[we.heap.size + 1]? = some (.cells #[.int .i64 (k : Int), .int .i64 (a : Int)] 83 (0, 0))) := by rw [← HW6.out]; exact bx_new _ _ _ hs5.symm
                      have HS5 := Lib.hid hs5
                      have X56 := Lib.hid (bx_keep X5.out hb6)
                      have hb56 : Below we.heap.size we w6 := hb5.trans (hb6.mono hb5.size)
                      have HI6 := Lib.hid (HIA.out.keep hb56)
                      have HB6 : Hid (Below w4.heap.size w4 w6) := HBA.out.trans (hb56.mono HBA.out.size)
                      have XI6 := Lib.hid (bx_keep XI.out HB6.out)
                      have hoc := HOI.out ⟨k, a⟩ w6 HB6.out
                      obtain ⟨th, HTH⟩ := nameIt (there s.attrs ru ⟨k, a⟩)
                      obtain ⟨dd, HDD⟩ := nameIt (defs s.attrs ru ⟨k, a⟩)
                      obtain ⟨hh, HHH⟩ := nameIt (had s.eqs i ⟨k, a⟩)
                      obtain ⟨la, HLAA⟩ := nameIt (lacksAt s i ru k a)
                      rw [HDD.out, HHH.out, HLAA.out] at HLA
                      rw [HLAA.out] at HLB
                      simp only [HLAA.out] at HNN'
                      rw [HTH.out] at hoc
                      rw [HTH.out, HDD.out] at HDN
                      simp only [HTH.out, HDD.out] at HDA
                      have HCC := Lib.hid hoc
                      have HCF : Hid (∀ W, Below w6.heap.size w6 W → Calls Tryz.prog 72 #[.slice ae n ce, .func (.func 73) #[] #[.pointer (some ⟨wb.heap.size, 0, none⟩), .pointer (some ⟨we.heap.size + 1, 0, none⟩)]] W (fun e w' => e = .returned (.bool hh) ∧ Below W.heap.size W w')) := by
                        intro W hb
                        have h1 := containsFuncEqn 73 #[.pointer (some ⟨wb.heap.size, 0, none⟩), .pointer (some ⟨we.heap.size + 1, 0, none⟩)] (fun q => decide (q.rule = (i : Int) ∧ q.to' = ⟨k, a⟩)) ae ce s.eqs W (fun _ _ => by kernel_rfl) (predFault (i : Int) ⟨k, a⟩ wb.heap.size (we.heap.size + 1) s.eqs W (bx_keep XI6.out hb) (bx_keep X6.out hb)) (by rw [HN.out]; exact HE.out.below (HI6.out.bel.trans (hb.mono HI6.out.bel.size)))
                        rw [HN.out] at h1
                        rw [← HHH.out]
                        exact h1
                      obtain ⟨l0, l1⟩ := bx_cells2 HI6.out.b2
                      obtain ⟨g0, g1, g2, g3⟩ := bx_cells4 HI6.out.b1
                      have x0 := bx_cells1 XI6.out
                      obtain ⟨y0, y1⟩ := bx_cells2 X56.out
                      obtain ⟨f0, f1⟩ := bx_cells2 X6.out
                      subst hae7
                      clear hb5 hb6 hb56 hoc hs5
                      go_upto_region 52 with fail
                      rw [HW5.out]
                      go_upto_region 53 with fail
                      rw [HS5.out, HW6.out]
                      clear c0 c1
                      go_wp2_with fail
                      refine HCC.out.mono ?_
                      rintro e w7 ⟨rfl, hb7⟩
                      have HI7 := Lib.hid (HI6.out.keep hb7)
                      have HB7 : Hid (Below w4.heap.size w4 w7) := HB6.out.trans (hb7.mono HB6.out.size)
                      have HB67 := Lib.hid hb7
                      obtain ⟨y2, y3⟩ := bx_cells2 (bx_keep X56.out hb7)
                      obtain ⟨l2, l3⟩ := bx_cells2 HI7.out.b2
                      clear l0 l1 g0 g1 g2 g3 x0 y0 y1 f0 f1 hb7
                      obtain ⟨kz, HKZ⟩ := nameIt (decide ((0 : Int) < (k : Int)))
                      have hkz : decide ((0 : Int) < (k : Int)) = kz := HKZ.out
                      have hkz2 : decide (0 < k) = kz := by rw [← hkz]; exact decide_eq_decide.2 (by omega)
                      cases th with
                      | false =>
                        obtain rfl : dd = false := HDN.out rfl
                        have HNX := Lib.hid (HNN'.out HLA.out)
                        go_wp2_with fail
                        go_roundg (al - (a + 1))
                        case measure => omega
                        case rel => exact ⟨a + 1, by omega, by omega, by go_num, HNX, HI7, HB7⟩
                      | true =>
                        obtain rfl : dd = (ij == kz) := by rw [← HKZ.out]; exact HDA.out rfl
                        obtain ⟨bk, HBKE⟩ := nameIt (ij == kz)
                        rw [HBKE.out] at HLA
                        have hne : (ij != kz) = !bk := by rw [← HBKE.out]; cases ij <;> cases kz <;> rfl
                        cases bk with
                        | false =>
                          have HNX := Lib.hid (HNN'.out HLA.out)
                          have hne' : (ij != kz) = true := hne
                          clear hne
                          have hij : ij = !kz := by have h := HBKE.out; revert h; cases ij <;> cases kz <;> decide
                          subst hij
                          cases kz with
                          | false =>
                            go_wp2_with fail
                            go_roundg (al - (a + 1))
                            case measure => omega
                            case rel => exact ⟨a + 1, by omega, by omega, by go_num, HNX, HI7, HB7⟩
                          | true =>
                            go_wp2_with fail
                            go_roundg (al - (a + 1))
                            case measure => omega
                            case rel => exact ⟨a + 1, by omega, by omega, by go_num, HNX, HI7, HB7⟩
                        | true =>
                          clear hne
                          have hij : ij = kz := by have h := HBKE.out; revert h; cases ij <;> cases kz <;> decide
                          subst hij
                          have HCG := Lib.hid (HCF.out w7 HB67.out)
                          cases ij with
                          | false =>
                            go_wp2_with fail
                            refine HCG.out.mono ?_
                            rintro e w8 ⟨rfl, hb8⟩
                            have HI8 := Lib.hid (HI7.out.keep hb8)
                            have HB8 : Hid (Below w4.heap.size w4 w8) := HB7.out.trans (hb8.mono HB7.out.size)
                            clear hb8
                            cases hh with
                            | true =>
                              have HNX := Lib.hid (HNN'.out HLA.out)
                              go_wp2_with fail
                              go_roundg (al - (a + 1))
                              case measure => omega
                              case rel => exact ⟨a + 1, by omega, by omega, by go_num, HNX, HI8, HB8⟩
                            | false =>
                              have HF : Hid (ss = 5) := HFN.out (HLB.out HLA.out)
                              go_wp2_with fail
                              go_ret
                              exact ⟨by rw [HF.out]; rfl, HI8.out.bel⟩
                          | true =>
                            go_wp2_with fail
                            refine HCG.out.mono ?_
                            rintro e w8 ⟨rfl, hb8⟩
                            have HI8 := Lib.hid (HI7.out.keep hb8)
                            have HB8 : Hid (Below w4.heap.size w4 w8) := HB7.out.trans (hb8.mono HB7.out.size)
                            clear hb8
                            cases hh with
                            | true =>
                              have HNX := Lib.hid (HNN'.out HLA.out)
                              go_wp2_with fail
                              go_roundg (al - (a + 1))
                              case measure => omega
                              case rel => exact ⟨a + 1, by omega, by omega, by go_num, HNX, HI8, HB8⟩
                            | false =>
                              have HF : Hid (ss = 5) := HFN.out (HLB.out HLA.out)
                              go_wp2_with fail
                              go_ret
                              exact ⟨by rw [HF.out]; rfl, HI8.out.bel⟩
                    · have haa' : ¬ (a : Int) < (al : Int) := by omega
                      have HNX := Lib.hid (HNK.out k a HNL.out (by rw [HAL.out]; omega))
                      go_wp2_with fail
                      go_roundg (rn + 1 - (k + 1))
                      case measure => omega
                      case rel => exact ⟨k + 1, by omega, by omega, by go_num, HNX, HIA, HBA⟩
                · have hkr' : ¬ (k : Int) < (rn : Int) + 1 := by omega
                  have HNX := Lib.hid (HNI.out k HNL.out (by omega))
                  go_wp2_with fail
                  go_roundg (m - (i + 1))
                  case measure => omega
                  case rel => exact ⟨i + 1, by omega, by omega, by go_num, HNX, HIK⟩
            · have him' : ¬ (i : Int) < (m : Int) := by omega
              have HF : Hid (ss = 0) := HFZ.out (HNL.out.fin (by rw [HM.out]; omega))
              go_wp2_with fail
              go_ret
              exact ⟨by rw [HF.out]; rfl, HI.out.bel⟩
end At
end Go.Proofs.YtfocooehnmpndaaGreat
namespace Go.Proofs.YtfocooehnmpndaaGreat
open Go.RowKit
def listG : Gram := ⟨1, 1, 0, [⟨0, [⟨false, 0⟩, ⟨true, 0⟩]⟩, ⟨0, [⟨true, 0⟩]⟩]⟩
def GramPost (g : Gram) (w : World) (e : Ending) (w' : World) : Prop := ∃ v, e = .returned (.agg #[.int .i64 g.terms, .int .i64 g.nons, .int .i64 g.start, v]) ∧ Rd AnyB w' (.sl (g.rules.map Rule.d)) [v] ∧ Below w.heap.size w w'
set_option maxHeartbeats 1000000 in
theorem listE (w : World) : Calls Tryz.prog 7 #[] w (GramPost listG w) := by
  go_enter Tryz.func7, Tryz.ntmps7
  go_wp2_with fail
  refine bodyPost_ret (v := .agg #[.int .i64 1, .int .i64 1, .int .i64 0, .slice (some ⟨w.heap.size + 1 + 1 + 1 + 1, 0, none⟩) 2 2]) (by simp [results, Tryz.results7, go_sem]) rfl ?_
  refine ⟨_, rfl, ?_, (((((Below.refl _ _).alloc (Nat.le_refl _) _).alloc (by simp) _).alloc (by simp; omega) _).alloc (by simp; omega) _).alloc (by simp; omega) _⟩
  refine rd_of_own (own_of_block (bx_new _ _ _ (by simp)) (n := 2) (size := 2) rfl (by simp [maxLen])) ?_ rfl (fun _ _ => trivial)
  refine ⟨[.int .i64 0, .slice (some ⟨w.heap.size + 1 + 1, 0, none⟩) 2 2], [.int .i64 0, .slice (some ⟨w.heap.size + 1 + 1 + 1, 0, none⟩) 1 1], rfl, ?_, RdAll.one ?_⟩
  · refine rd_rule (r := ⟨0, [⟨false, 0⟩, ⟨true, 0⟩]⟩) ?_
    refine rd_of_own (own_of_block (bx_keep (bx_keep (bx_new _ _ _ (by simp)) ((Below.refl _ _).alloc (Nat.le_refl _) _)) ((Below.refl _ _).alloc (Nat.le_refl _) _)) (n := 2) (size := 2) rfl (by simp [maxLen])) ?_ rfl (fun _ _ => trivial)
    exact ⟨[.bool false, .int .i64 0], [.bool true, .int .i64 0], rfl, rd_sym ⟨false, 0⟩, RdAll.one (rd_sym ⟨true, 0⟩)⟩
  · refine rd_rule (r := ⟨0, [⟨true, 0⟩]⟩) ?_
    exact rd_of_own (own_of_block (bx_keep (bx_new _ _ _ (by simp)) ((Below.refl _ _).alloc (Nat.le_refl _) _)) (n := 1) (size := 2) rfl (by simp [maxLen])) (RdAll.one (rd_sym ⟨true, 0⟩)) rfl (fun _ _ => trivial)
end Go.Proofs.YtfocooehnmpndaaGreat
