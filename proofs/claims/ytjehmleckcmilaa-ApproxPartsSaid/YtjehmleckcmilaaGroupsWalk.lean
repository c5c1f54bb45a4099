/- The walk of Groups. -/
import Derived.Test.YtjehmleckcmilaaGroups
namespace Go.Proofs.Ytjehmleckcmilaa
open Go.RowKit

theorem kind_flags {K : List Rule} {L : List Int} : kindOf K L = if onlyB K L pLast then 0 else if onlyB K L pFirst then 1 else 2 := rfl

set_option maxHeartbeats 8000000 in
set_option maxRecDepth 100000 in
theorem groupsE (g : Gram) (hg : checkG g = 0) (ar : Option Addr) (cr : Nat) (w : World) (hr : Rd AnyB w (.sl (g.rules.map Rule.d)) [.slice ar g.rules.length cr]) :
    Calls Try.prog 53 #[.agg #[.int .i64 g.terms, .int .i64 g.nons, .int .i64 g.start, .slice ar g.rules.length cr]] w (GroupsPost g w) := by
  obtain ⟨⟨hg1, hg2, hg3, hg4, hg5, hg6⟩, hg7, hg8⟩ := checkG_zero hg
  have HRU := Lib.hid hg8
  have HEL := Lib.hid (gEdges_lt hg)
  have hbs := hr.bounds.2
  unfold maxLen at hbs
  obtain ⟨hc1, hc2⟩ := hbs
  obtain ⟨N, HN⟩ : ∃ N : Nat, g.nons = (N : Int) := ⟨g.nons.toNat, by omega⟩
  have HNN := Lib.hid HN
  have HFIN : Hid (∀ v5 v6 W, Rd AnyB W (.sl ((compsN g.rules (gEdges g) N N).map fun c => D.ints c.nons)) [v5] → Sl W v6 (ints ((compsN g.rules (gEdges g) N N).map Comp.kind)) → Below w.heap.size w W → GroupsPost g w (.returned (.tuple #[v5, v6])) W) := by
    intro v5 v6 W h1 h2 h3
    refine ⟨v5, v6, rfl, ?_, ?_, h3⟩
    · rw [HN]; exact h1
    · rw [HN]; exact h2
  have hN1 : 1 ≤ N := by omega
  have hN10 : N ≤ 10 := by omega
  obtain ⟨w0, HW0⟩ := nameIt (w.alloc (.cells #[.int .i64 g.terms, .int .i64 g.nons, .int .i64 g.start, .slice ar g.rules.length cr] 77))
  have HB0 : Hid (Below w.heap.size w w0) := by rw [← HW0.out]; exact (Below.refl _ _).alloc (Nat.le_refl _) _
  have X1 : Hid (w0.heap[w.heap.size]? = some (.cells #[.int .i64 g.terms, .int .i64 g.nons, .int .i64 g.start, .slice ar g.rules.length cr] 77 (0, 0))) := by rw [← HW0.out]; exact bx_new _ _ _ rfl
  have HUN := Lib.hid (fun (a : Nat) (ha : a < 1000) W (hb : Below w0.heap.size w0 W) => underE g hg w.heap.size ar cr a W ha (bx_keep X1.out hb) ((hr.below HB0.out).below hb))
  have HR := Lib.hid (hr.below HB0.out)
  obtain ⟨gt, HGT⟩ := nameIt g.terms
  obtain ⟨gs, HGS⟩ := nameIt g.start
  obtain ⟨K, HK⟩ := nameIt g.rules
  obtain ⟨E, HE⟩ := nameIt (gEdges g)
  have HUP : Hid (∀ a W0 e W, UnderPost g a W0 e W → ∃ b c, e = .returned (.map (some b)) ∧ IntSet b c (rnds E N (single a)) W ∧ Below W0.heap.size W0 W) := by
    rintro a W0 e W ⟨b, c, h1, h2, h3⟩
    rw [HNN.out, HE.out] at h2
    exact ⟨b, c, h1, h2, h3⟩
  rw [HGT.out, HGS.out, HK.out, HN] at X1 HW0
  rw [HK.out] at hc1 hg7 HFIN HR HRU
  rw [HE.out] at HFIN HEL
  rw [HN] at HRU HEL
  have HEL2 : Hid (∀ e ∈ E, e.1 < N ∧ e.2 < N) := HEL.out
  rw [HN, HGT.out, HGS.out, HK.out]
  obtain ⟨B, HBB⟩ := nameIt w0.heap.size
  have HG0 : Hid (GI B (compsN K E N 0) (.slice none 0 0) (.slice none 0 0) w0) := GI.start B w0 (by rw [HBB.out]; exact Nat.le_refl _)
  obtain ⟨x0, x1, x2, x3⟩ := bx_cells4 X1.out
  clear hr HN hg1 hg2 hg3 hg4 hg5 hg6 hg8 hg
  go_enter Try.func53, Try.ntmps53
  go_upto_region 1 with fail
  rw [HW0.out]
  go_wp2_with fail
  clear x0 x1 x2 x3
  go_loopg [5, 6, 20] N (fun gg v5 v6 v20 wr => ∃ a : Nat, a ≤ N ∧ N - a ≤ gg ∧ v20 = .int .i64 a ∧ Hid (GI B (compsN K E N a) v5 v6 wr) ∧ Hid (Below w0.heap.size w0 wr) ∧ Hid ((compsN K E N a).length ≤ a))
  case atStart => exact ⟨0, by omega, by omega, rfl, HG0, Below.refl _ _, Lib.hid (by simp [compsN])⟩
  case round =>
    clear HG0
    obtain ⟨wo, rfl⟩ : ∃ wo : World, wo = wr := ⟨_, rfl⟩
    obtain ⟨a, ha, hga, rfl, HGI, HBO, HLE⟩ := hrel
    obtain ⟨a5, n5, c5, rfl, h51, h52⟩ : ∃ x y z, u5 = Value.slice x y z ∧ y ≤ z ∧ z ≤ maxLen := by obtain ⟨xs, h1, _⟩ := HGI.out.sets; obtain ⟨x, z, e, h2, h3⟩ := own_len h1; exact ⟨_, _, _, e, h2, h3⟩
    obtain ⟨a6, n6, c6, rfl, h61, h62⟩ : ∃ x y z, u6 = Value.slice x y z ∧ y ≤ z ∧ z ≤ maxLen := by obtain ⟨x, z, e, h2, h3⟩ := own_len HGI.out.kinds; exact ⟨_, _, _, e, h2, h3⟩
    unfold maxLen at h52 h62
    by_cases haN : a < N
    · have haN' : (a : Int) < (N : Int) := by omega
      obtain ⟨x0, x1, x2, x3⟩ := bx_cells4 (bx_keep X1.out HBO.out)
      have HCN : Hid (compsN K E N (a + 1) = if (compsN K E N a).any (fun c => inL c.nons a) then compsN K E N a else compsN K E N a ++ [⟨kindOf K (clsOf E N a), clsOf E N a⟩]) := rfl
      rw [comps_new HEL2.out K haN] at HCN
      have HUM := Lib.hid (fun b (hb : b < N) => und_mut HEL2.out haN hb)
      have HHD := Lib.hid (cls_head (E := E) (N := N) haN)
      obtain ⟨CS, HCS⟩ := nameIt (compsN K E N a)
      rw [HCS.out] at HCN HGI HLE
      have HO0 : Hid (wo.ownsRow wo.heap.size 3 1 (.slice none 0 0) (clsTo E N a 0).length (ints (clsTo E N a 0))) := Lib.hid (by simpa [clsTo, ints] using World.ownsRow_nil wo wo.heap.size 3 1)
      go_wp2_with fail
      clear x0 x1 x2 x3
      go_loopg [8, 25] N (fun gg v8 v25 wr => ∃ b : Nat, b ≤ N ∧ N - b ≤ gg ∧ v25 = .int .i64 b ∧ Hid (wr.ownsRow wo.heap.size 3 1 v8 (clsTo E N a b).length (ints (clsTo E N a b))) ∧ Hid (Below wo.heap.size wo wr))
      case atStart => exact ⟨0, by omega, by omega, rfl, HO0, Below.refl _ _⟩
      case round =>
        clear HO0
        obtain ⟨b, hb, hgb, rfl, HOW, HBW⟩ := hrel
        have HB0W : Hid (Below w0.heap.size w0 wr) := HBO.out.trans (HBW.out.mono HBO.out.size)
        by_cases hbN : b < N
        · have hbN' : (b : Int) < (N : Int) := by omega
          have hlen := cls_len E N a b
          have HCT := Lib.hid (clsTo_next E N a b)
          have HMU := Lib.hid (HUM.out b hbN)
          obtain ⟨L, HL⟩ := nameIt (clsTo E N a b)
          rw [HL.out] at HOW hlen HCT
          obtain ⟨nL, HNL⟩ := nameIt L.length
          rw [HNL.out] at HOW hlen
          obtain ⟨a8, c8, rfl, h81, h82⟩ := own_len HOW.out
          unfold maxLen at h82
          obtain ⟨mu, HMN⟩ := nameIt (mutB E N a b)
          rw [HMN.out] at HCT HMU
          obtain ⟨f1, HF1⟩ := nameIt (rnds E N (single a) b)
          obtain ⟨f2, HF2⟩ := nameIt (rnds E N (single b) a)
          rw [HF1.out, HF2.out] at HMU
          have HU1 := Lib.hid (HUN.out a (by omega) wr HB0W.out)
          go_wp2_with fail
          refine HU1.out.mono ?_
          intro e w3 hpost
          obtain ⟨m1, cc1, rfl, hs1, hb3⟩ := HUP.out a wr e w3 hpost
          have hlk1 := hs1.at (z := (b : Int)) ⟨by omega, by omega⟩
          rw [show ((b : Int)).toNat = b by simp, HF1.out] at hlk1
          have HB3 : Hid (Below wo.heap.size wo w3) := HBW.out.trans (hb3.mono HBW.out.size)
          have HB03 : Hid (Below w0.heap.size w0 w3) := HB0W.out.trans (hb3.mono HB0W.out.size)
          have HOW3 := Lib.hid (own_keep HOW.out hb3)
          clear hpost hs1 hb3
          cases f1 with
          | false =>
            have HMF : Hid (mu = false) := by show _ = _; rw [← HMU.out]; rfl
            have HON : Hid (w3.ownsRow wo.heap.size 3 1 (.slice a8 nL c8) (clsTo E N a (b + 1)).length (ints (clsTo E N a (b + 1)))) := by
              rw [HCT.out, HMF.out]
              simp only [Bool.false_eq_true, if_false]
              rw [HNL.out]
              exact HOW3
            go_wp2_with fail
            go_roundg (N - (b + 1))
            case measure => omega
            case rel => exact ⟨b + 1, by omega, by omega, by go_num, HON, HB3⟩
          | true =>
            have HU2 := Lib.hid (HUN.out b (by omega) w3 HB03.out)
            go_wp2_with fail
            refine HU2.out.mono ?_
            intro e w4 hpost
            obtain ⟨m2, cc2, rfl, hs2, hb4⟩ := HUP.out b w3 e w4 hpost
            have hlk2 := hs2.at (z := (a : Int)) ⟨by omega, by omega⟩
            rw [show ((a : Int)).toNat = a by simp, HF2.out] at hlk2
            have HB4 : Hid (Below wo.heap.size wo w4) := HB3.out.trans (hb4.mono HB3.out.size)
            have HOW4 := Lib.hid (own_keep HOW3.out hb4)
            clear hpost hs2 hb4 hlk1
            cases f2 with
            | false =>
              have HMF : Hid (mu = false) := by show _ = _; rw [← HMU.out]; rfl
              have HON : Hid (w4.ownsRow wo.heap.size 3 1 (.slice a8 nL c8) (clsTo E N a (b + 1)).length (ints (clsTo E N a (b + 1)))) := by
                rw [HCT.out, HMF.out]
                simp only [Bool.false_eq_true, if_false]
                rw [HNL.out]
                exact HOW4
              go_wp2_with fail
              go_roundg (N - (b + 1))
              case measure => omega
              case rel => exact ⟨b + 1, by omega, by omega, by go_num, HON, HB4⟩
            | true =>
              have HMT : Hid (mu = true) := by show _ = _; rw [← HMU.out]; rfl
              have hle4 := HB4.out.size
              go_wp2_with (at_builtin; refine wp_app1at elInt rfl _ _ rfl HOW4.out rfl rfl (by simp) rfl rfl (by omega) (by unfold maxLen; omega) (by omega) ?_)
              intro v' wz hoz hgz hatz
              have HON : Hid (wz.ownsRow wo.heap.size 3 1 v' (clsTo E N a (b + 1)).length (ints (clsTo E N a (b + 1)))) := by
                rw [HCT.out, HMT.out, if_pos rfl, List.length_append, HNL.out]
                exact Lib.hid (by simpa [ints] using hoz)
              have HBZ : Hid (Below wo.heap.size wo wz) := HB4.out.grown hgz (by omega) (fun k e => (HOW4.out.lt k e).1)
              obtain ⟨gz, cz, rfl, -, -, -, -, -⟩ := own_at hoz hatz
              clear hoz hgz hatz
              go_wp2_with fail
              go_roundg (N - (b + 1))
              case measure => omega
              case rel => exact ⟨b + 1, by omega, by omega, by go_num, HON, HBZ⟩
        · have hbN' : ¬ (b : Int) < (N : Int) := by omega
          have hbe : b = N := by omega
          have HOC := HOW.out
          rw [hbe, show clsTo E N a N = clsOf E N a from rfl] at HOC
          have HOC' := Lib.hid HOC
          obtain ⟨h0, hh0, hhd, -, -⟩ := HHD.out
          have hlen := cls_len E N a N
          rw [show clsTo E N a N = clsOf E N a from rfl] at hlen
          rw [hhd] at HCN
          obtain ⟨L, HL⟩ := nameIt (clsOf E N a)
          rw [HL.out] at HOC' hhd HCN hlen
          have hsl := sl_of_own HOC'.out
          have hLpos : 0 < L.length := by
            cases L with
            | nil => simp at hhd
            | cons x L => simp
          have hL0 : L[0]'hLpos = (h0 : Int) := by
            cases L with
            | nil => simp at hhd
            | cons x L => simpa using hhd
          obtain ⟨a8, c8, rfl, h81, h82⟩ := own_len HOC'.out
          unfold maxLen at h82
          obtain ⟨b8, o8, he8, hc8⟩ := hsl.at (k := 0) hLpos
          have e0 := hc8 0 (by rw [ints_len]; exact hLpos)
          rw [ints_get, hL0, Nat.add_zero] at e0
          have hLp' : (0 : Int) < (L.length : Int) := by omega
          have HSL := Lib.hid hsl
          clear HOC hsl hc8 hbe
          subst he8
          by_cases hne : h0 = a
          · have hnb : ((h0 : Int) != (a : Int)) = false := by simp; omega
            have HC1 : Hid (compsN K E N (a + 1) = CS ++ [⟨kindOf K L, L⟩]) := by show _ = _; rw [HCN.out, hne]; simp
            have HKF := Lib.hid (kind_flags (K := K) (L := L))
            have HA0 : Hid ((K.take 0).all (fitRule L pLast) = true) := Lib.hid (by simp)
            have HA1 : Hid ((K.take 0).all (fitRule L pFirst) = true) := Lib.hid (by simp)
            obtain ⟨x0, x1, x2, x3⟩ := bx_cells4 (bx_keep X1.out HB0W.out)
            clear hne
            go_wp2_with fail
            clear x0 x1 x2 x3 e0 hnb
            obtain ⟨wm, rfl⟩ : ∃ wm : World, wm = wr := ⟨_, rfl⟩
            obtain ⟨nL, HNL⟩ := nameIt L.length
            rw [HNL.out] at HSL HOC' h81 hlen
            rw [HNL.out]
            have HCI := Lib.hid (fun x W (hb : Below wm.heap.size wm W) => containsInt (some ⟨b8, o8, none⟩) c8 L x W (by rw [HNL.out]; exact HSL.out.keep hb))
            rw [HNL.out] at HCI
            go_loopg [10, 11, 53] K.length (fun gg v10 v11 v53 wr => ∃ (j : Nat) (f10 f11 : Bool), j ≤ K.length ∧ K.length - j ≤ gg ∧ v53 = .int .i64 j ∧ v10 = .bool f10 ∧ v11 = .bool f11 ∧ Hid ((K.take j).all (fitRule L pLast) = f10) ∧ Hid ((K.take j).all (fitRule L pFirst) = f11) ∧ Hid (Below wm.heap.size wm wr))
            case atStart => exact ⟨0, true, true, by omega, by omega, rfl, rfl, rfl, HA0, HA1, Below.refl _ _⟩
            case round =>
              clear HA0 HA1
              obtain ⟨wj, rfl⟩ : ∃ wj : World, wj = wr := ⟨_, rfl⟩
              obtain ⟨j, f10, f11, hj, hgj, rfl, rfl, rfl, HJ0, HJ1, HBJ⟩ := hrel
              have HB0J : Hid (Below w0.heap.size w0 wj) := HB0W.out.trans (HBJ.out.mono HB0W.out.size)
              by_cases hjK : j < K.length
              · have hjK' : (j : Int) < (K.length : Int) := by omega
                obtain ⟨b', off, vr, hae, -, hbl, c0, c1, hkr⟩ := (HR.out.below HB0J.out).rule_at hjK
                obtain ⟨av, cv, rfl, -, hcv⟩ := hkr.form
                rw [List.length_map] at c1 hkr
                have HP0 := Lib.hid (partV_rule (L := L) (p := pLast) hjK)
                have HP1 := Lib.hid (partV_rule (L := L) (p := pFirst) hjK)
                obtain ⟨-, -, hl2, -⟩ := HRU.out K[j] (List.getElem_mem hjK)
                obtain ⟨r, HRn⟩ := nameIt (K[j]'hjK)
                rw [HRn.out] at c0 c1 hkr HP0 HP1 hl2
                obtain ⟨lf, HLF⟩ := nameIt r.left
                obtain ⟨R, HRR⟩ := nameIt r.right
                rw [HLF.out] at c0 HP0 HP1
                rw [HRR.out] at c1 hkr HP0 HP1 hl2
                rw [HJ0.out] at HP0
                rw [HJ1.out] at HP1
                obtain ⟨w4, HW4⟩ := nameIt (wj.alloc (.cells #[.int .i64 lf, .slice av R.length cv] 189))
                have hb4 : Below wj.heap.size wj w4 := by rw [← HW4.out]; exact (Below.refl _ _).alloc (Nat.le_refl _) _
                have X4 : Hid (w4.heap[wj.heap.size]? = some (.cells #[.int .i64 lf, .slice av R.length cv] 189 (0, 0))) := by rw [← HW4.out]; exact bx_new _ _ _ rfl
                have HB4 : Hid (Below wm.heap.size wm w4) := HBJ.out.trans (hb4.mono HBJ.out.size)
                have HKR := Lib.hid (hkr.below hb4)
                obtain ⟨y0, y1⟩ := bx_cells2 X4.out
                subst hae
                clear hkr hb4
                go_upto_region 19 with fail
                rw [HW4.out]
                go_wp2_with fail
                clear y0 y1 c0 c1
                go_loopg [10, 11, 60] R.length (fun gg v10 v11 v60 wr => ∃ (q : Nat) (e10 e11 : Bool), q ≤ R.length ∧ R.length - q ≤ gg ∧ v60 = .int .i64 q ∧ v10 = .bool e10 ∧ v11 = .bool e11 ∧ Hid (partV f10 L pLast lf R q = e10) ∧ Hid (partV f11 L pFirst lf R q = e11) ∧ Hid (Below w4.heap.size w4 wr))
                case atStart => exact ⟨0, f10, f11, by omega, by omega, rfl, rfl, rfl, partV_zero _ _ _ _ _, partV_zero _ _ _ _ _, Below.refl _ _⟩
                case round =>
                  obtain ⟨q, e10, e11, hq, hgq, rfl, rfl, rfl, HQ0, HQ1, HBQ⟩ := hrel
                  by_cases hqR : q < R.length
                  · have hqR' : (q : Int) < (R.length : Int) := by omega
                    obtain ⟨b2, off2, hae2, -, hbl2, e0, e1⟩ := (HKR.out.below HBQ.out).sym_at hqR
                    have HN0 := Lib.hid (partV_next (A := f10) (L := L) (p := pLast) (lf := lf) hqR)
                    have HN1 := Lib.hid (partV_next (A := f11) (L := L) (p := pFirst) (lf := lf) hqR)
                    obtain ⟨s, HSn⟩ := nameIt (R[q]'hqR)
                    rw [HSn.out] at e0 e1 HN0 HN1
                    obtain ⟨st, HST⟩ := nameIt s.term
                    obtain ⟨sn, HSN⟩ := nameIt s.n
                    rw [HST.out] at e0 HN0 HN1
                    rw [HSN.out] at e1 HN0 HN1
                    rw [HQ0.out] at HN0
                    rw [HQ1.out] at HN1
                    obtain ⟨w5, HW5⟩ := nameIt (wr.alloc (.cells #[.bool st, .int .i64 sn] 88))
                    have hb5 : Below wr.heap.size wr w5 := by rw [← HW5.out]; exact (Below.refl _ _).alloc (Nat.le_refl _) _
                    have X5 : Hid (w5.heap[wr.heap.size]? = some (.cells #[.bool st, .int .i64 sn] 88 (0, 0))) := by rw [← HW5.out]; exact bx_new _ _ _ rfl
                    have HB5 : Hid (Below w4.heap.size w4 w5) := HBQ.out.trans (hb5.mono HBQ.out.size)
                    have HBM5 : Hid (Below wm.heap.size wm w5) := HB4.out.trans (HB5.out.mono HB4.out.size)
                    obtain ⟨y0, y1⟩ := bx_cells2 (bx_keep X4.out HB5.out)
                    obtain ⟨z0, z1⟩ := bx_cells2 X5.out
                    have HC1' := Lib.hid (HCI.out lf w5 HBM5.out)
                    have HC2' := Lib.hid (HCI.out sn w5 HBM5.out)
                    obtain ⟨il, HIL⟩ := nameIt (L.any fun y => lf == y)
                    obtain ⟨iS, HIS⟩ := nameIt (L.any fun y => sn == y)
                    have hil2 : inL L lf = il := HIL.out
                    have his2 : inL L sn = iS := HIS.out
                    rw [HIL.out] at HC1'
                    rw [HIS.out] at HC2'
                    rw [hil2, his2] at HN0 HN1
                    have hq1 : IntKind.i64.wrap ((q : Int) + 1) = (q : Int) + 1 := IntWalk.i64_in _ (by omega)
                    have hpl : ((q : Int) + 1 == (R.length : Int)) = pLast q R.length := by unfold pLast; rw [Bool.eq_iff_iff]; simp; omega
                    have hpf : ((q : Int) == 0) = pFirst q R.length := by unfold pFirst; rw [Bool.eq_iff_iff]; simp
                    obtain ⟨pl, HPL⟩ := nameIt (pLast q R.length)
                    obtain ⟨pf, HPF⟩ := nameIt (pFirst q R.length)
                    rw [HPL.out] at hpl HN0
                    rw [HPF.out] at hpf HN1
                    subst hae2
                    clear hb5 hil2 his2
                    go_upto_region 22 with fail
                    rw [HW5.out]
                    obtain ⟨cd, HCD⟩ := nameIt (il && !st && iS)
                    rw [HCD.out] at HN0 HN1
                    go_cut [79] (fun tt wx => tt = .bool cd ∧ wx = w5)
                    case first =>
                      go_wp2_with fail
                      refine HC1'.out.mono ?_
                      rintro e w6 ⟨rfl, rfl⟩
                      cases il with
                      | false =>
                        obtain rfl : cd = false := by rw [← HCD.out]; rfl
                        go_wp2_with fail
                        go_meet
                        exact ⟨rfl, rfl⟩
                      | true =>
                        cases st with
                        | true =>
                          obtain rfl : cd = false := by rw [← HCD.out]; rfl
                          go_wp2_with fail
                          go_meet
                          exact ⟨rfl, rfl⟩
                        | false =>
                          obtain rfl : cd = iS := by rw [← HCD.out]; simp
                          go_wp2_with fail
                          refine HC2'.out.mono ?_
                          rintro e w6 ⟨rfl, rfl⟩
                          go_wp2_with fail
                          go_meet
                          exact ⟨rfl, rfl⟩
                    case rest =>
                      obtain ⟨rfl, rfl⟩ := hcut
                      obtain ⟨w5, rfl⟩ : ∃ ww : World, ww = wc := ⟨_, rfl⟩
                      cases cd with
                      | false =>
                        have HR0 : Hid (partV f10 L pLast lf R (q + 1) = e10) := by show _ = _; rw [HN0.out]; simp
                        have HR1 : Hid (partV f11 L pFirst lf R (q + 1) = e11) := by show _ = _; rw [HN1.out]; simp
                        go_wp2_with fail
                        go_roundg (R.length - (q + 1))
                        case measure => omega
                        case rel => exact ⟨q + 1, e10, e11, by omega, by omega, by go_num, rfl, rfl, HR0, HR1, HB5⟩
                      | true =>
                        have HR0 : Hid (partV f10 L pLast lf R (q + 1) = (e10 && pl)) := by show _ = _; rw [HN0.out]; simp
                        have HR1 : Hid (partV f11 L pFirst lf R (q + 1) = (e11 && pf)) := by show _ = _; rw [HN1.out]; simp
                        cases e10 <;> cases e11
                        all_goals
                          go_wp2_with fail
                          go_roundg (R.length - (q + 1))
                          case measure => omega
                          case rel => exact ⟨q + 1, _, _, by omega, by omega, by go_num, rfl, rfl, HR0, HR1, HB5⟩
                  · have hqR' : ¬ (q : Int) < (R.length : Int) := by omega
                    have hqe : q = R.length := by omega
                    have HJ2 : Hid ((K.take (j + 1)).all (fitRule L pLast) = e10) := by show _ = _; rw [HP0.out, ← hqe]; exact HQ0.out
                    have HJ3 : Hid ((K.take (j + 1)).all (fitRule L pFirst) = e11) := by show _ = _; rw [HP1.out, ← hqe]; exact HQ1.out
                    have HBN : Hid (Below wm.heap.size wm wr) := HB4.out.trans (HBQ.out.mono HB4.out.size)
                    clear hqe
                    go_wp2_with fail
                    go_roundg (K.length - (j + 1))
                    case measure => omega
                    case rel => exact ⟨j + 1, e10, e11, by omega, by omega, by go_num, rfl, rfl, HJ2, HJ3, HBN⟩
              · have hjK' : ¬ (j : Int) < (K.length : Int) := by omega
                have HKK : Hid (kindOf K L = if f10 then 0 else if f11 then 1 else 2) := by
                  show _ = _
                  rw [HKF.out]
                  have h0 := HJ0.out
                  have h1 := HJ1.out
                  rw [List.take_of_length_le (by omega)] at h0 h1
                  unfold onlyB
                  rw [h0, h1]
                obtain ⟨kd, HKD⟩ := nameIt (kindOf K L)
                rw [HKD.out] at HKK HC1
                obtain ⟨k1, HK1⟩ : ∃ k1 : Int, Hid (k1 = if f11 then 1 else 2) := ⟨_, rfl⟩
                rw [← HK1.out] at HKK
                go_upto_if 96 with fail
                go_cut [16] (fun v16 wx => v16 = .int .i64 k1 ∧ wx = wj)
                case first =>
                  cases f11 with
                  | true =>
                    obtain rfl : k1 = 1 := HK1.out
                    go_wp2_with fail
                    go_meet
                    exact ⟨rfl, rfl⟩
                  | false =>
                    obtain rfl : k1 = 2 := HK1.out
                    go_wp2_with fail
                    go_meet
                    exact ⟨rfl, rfl⟩
                case rest =>
                  obtain ⟨rfl, rfl⟩ := hcut
                  obtain ⟨wj, rfl⟩ : ∃ ww : World, ww = wc := ⟨_, rfl⟩
                  go_upto_if 97 with fail
                  go_cut [16] (fun v16 wx => v16 = .int .i64 kd ∧ wx = wj)
                  case first =>
                    cases f10 with
                    | true =>
                      obtain rfl : kd = 0 := HKK.out
                      go_wp2_with fail
                      go_meet
                      exact ⟨rfl, rfl⟩
                    | false =>
                      obtain rfl : kd = k1 := HKK.out
                      go_wp2_with fail
                      go_meet
                      exact ⟨rfl, rfl⟩
                  case rest =>
                    obtain ⟨rfl, rfl⟩ := hcut
                    obtain ⟨wj, rfl⟩ : ∃ ww : World, ww = wc := ⟨_, rfl⟩
                    have HBOJ : Hid (Below wo.heap.size wo wj) := HBW.out.trans (HBJ.out.mono HBW.out.size)
                    have hGJ := HGI.out.keep HBOJ.out
                    obtain ⟨⟨xs, hs1, hs2⟩, hk1, hap, hle⟩ := hGJ
                    have hOJ := own_keep HOC'.out HBJ.out
                    have HNEW : Hid (Rd (fun k => (B ≤ k ∧ (Value.slice a6 n6 c6).ownBlock ≠ some k) ∧ (Value.slice a5 n5 c5).ownBlock ≠ some k) wj (D.ints L) [.slice (some ⟨b8, o8, none⟩) nL c8]) := by
                      refine rd_of_own hOJ ((rdAll_ints _ _).2 rfl) (by rw [List.length_map]; exact HNL.out) (fun k e => ?_)
                      have h5 := (hOJ.lt k e).1
                      have h6 := HBO.out.size
                      rw [HBB.out] at h6
                      refine ⟨⟨by omega, fun e2 => ?_⟩, fun e2 => ?_⟩
                      · have := (HGI.out.kinds.lt k e2).2; omega
                      · obtain ⟨ys, q1, _⟩ := HGI.out.sets
                        have := (q1.lt k e2).2; omega
                    obtain ⟨nc, HNC⟩ := nameIt CS.length
                    have HS1 := Lib.hid hs1
                    have HS2 := Lib.hid hs2
                    have HKI := Lib.hid hk1
                    have HAP := Lib.hid hap
                    rw [HNC.out] at HS1 HLE
                    have hnc : nc ≤ 10 := by have := HLE.out; omega
                    have HB0J2 : Hid (Below w0.heap.size w0 wj) := HBO.out.trans (HBOJ.out.mono HBO.out.size)
                    clear hs1 hs2 hk1 hap hOJ
                    go_wp2_with (at_builtin; refine wp_app1at elIntsG rfl _ _ rfl HS1.out rfl rfl (by simp) rfl rfl (by omega) (by unfold maxLen; omega) (by omega) ?_)
                    intro v' wz hoz hgz hatz
                    have HGM : Hid (GM B CS ⟨kd, L⟩ v' (.slice a6 n6 c6) wz) := GI.one (by rw [HNC.out]; exact HS1.out) HS2.out HKI.out HAP.out hle HNEW.out (by rw [HNC.out]; exact hoz) hgz hatz
                    have HBZ : Hid (Below w0.heap.size w0 wz) := HB0J2.out.grown hgz HB0J2.out.size (fun k e => by rw [HBB.out]; exact (HS1.out.lt k e).1)
                    obtain ⟨gz, cz, rfl, -, -, -, -, -⟩ := own_at hoz hatz
                    clear hoz hgz hatz
                    have HKZ := Lib.hid HGM.out.kinds
                    rw [HNC.out] at HKZ
                    have hlz := HGM.out.le
                    go_wp2_with (at_builtin; refine wp_app1at elInt rfl _ _ rfl HKZ.out rfl rfl (by simp) rfl rfl (by omega) (by unfold maxLen; omega) (by omega) ?_)
                    intro v'' wy hoy hgy haty
                    have HGN : Hid (GI B (compsN K E N (a + 1)) (.slice (some ⟨gz, 0, none⟩) (nc + 1) cz) v'' wy) := by
                      rw [HC1.out]
                      exact HGM.out.two (by rw [HNC.out]; exact hoy) hgy haty
                    have HBY : Hid (Below w0.heap.size w0 wy) := HBZ.out.grown hgy HBZ.out.size (fun k e => by rw [HBB.out]; exact (HKZ.out.lt k e).1)
                    have HLN : Hid ((compsN K E N (a + 1)).length ≤ a + 1) := by
                      show _ ≤ _
                      rw [HC1.out, List.length_append, HNC.out]
                      have := HLE.out; simp; omega
                    obtain ⟨gy, cy, rfl, -, -, -, -, -⟩ := own_at hoy haty
                    clear hoy hgy haty
                    go_wp2_with fail
                    go_roundg (N - (a + 1))
                    case measure => omega
                    case rel => exact ⟨a + 1, by omega, by omega, by go_num, HGN, HBY, HLN⟩
          · have hnb : ((h0 : Int) != (a : Int)) = true := by simp; omega
            have HC1 : Hid (compsN K E N (a + 1) = CS) := by
              show _ = _
              rw [HCN.out]
              have : ¬ (h0 : Int) = (a : Int) := by omega
              simp [this]
            have HGN : Hid (GI B (compsN K E N (a + 1)) (.slice a5 n5 c5) (.slice a6 n6 c6) wr) := by rw [HC1.out]; exact HGI.out.keep HBW.out
            have HLN : Hid ((compsN K E N (a + 1)).length ≤ a + 1) := by show _ ≤ _; rw [HC1.out]; have := HLE.out; omega
            clear hne
            go_wp2_with fail
            go_roundg (N - (a + 1))
            case measure => omega
            case rel => exact ⟨a + 1, by omega, by omega, by go_num, HGN, HB0W, HLN⟩
    · have haN' : ¬ (a : Int) < (N : Int) := by omega
      have haa : a = N := by omega
      have HEND := HGI.out
      rw [haa] at HEND
      have HE1 : Hid (Rd AnyB wo (.sl ((compsN K E N N).map fun c => D.ints c.nons)) [.slice a5 n5 c5]) := by
        obtain ⟨xs, h1, h2⟩ := HEND.sets
        exact (rd_of_own h1 h2.any (by simp) (fun _ _ => trivial))
      have HE2 : Hid (Sl wo (.slice a6 n6 c6) (ints ((compsN K E N N).map Comp.kind))) := sl_of_own HEND.kinds
      clear HEND haa
      go_wp2_with fail
      refine bodyPost_ret (results_tmp2 Try.results53 _ _ _) rfl ?_
      exact HFIN.out _ _ _ HE1.out HE2.out (HB0.out.trans (HBO.out.mono HB0.out.size))
end Go.Proofs.Ytjehmleckcmilaa
