/- The walk of lengthsOf. The lengths of a census are those of the second implementation; parlref5.Listed. parlref5.Listed. The contracts of tree.put and tree.Put. The contract of two; sizes of trees. The contracts of tree.Put; sizes of trees. The contracts of Yield and Codes. The contract of tree.rules. The contract of Codes. The walk of the law TreeOrder. What the law DrawTrees compares. -/
import Derived.Test.YtbnpemgmdnghgaaJRankTellsRow11
import Derived.IntWalk
import Derived.Deep.DeepCutAuto
import Derived.Deep.CutBlock
import Derived.Test.YtbnpemgmdnghgaaJRankTellsRow12
import Derived.Test.YtbnpemgmdnghgaaJRankTellsRow5
import Derived.Test.YtbnpemgmdnghgaaJRankTellsRow9
import Derived.Test.YtbnpemgmdnghgaaJRankTellsRow2
import Derived.Deep.RegionHeld3
import Derived.Test.YtbnpemgmdnghgaaJRankTellsRow3
import Derived.Test.YtbnpemgmdnghgaaJRankTellsRow6
import Derived.Test.YtbnpemgmdnghgaaJRankTellsRow1
namespace Go.Proofs.Ytbnpemgmdnghgaa
open Go.RowKit
namespace Ln

def LenPost (g : Gram) (n : Nat) (w : World) (e : Ending) (w' : World) : Prop :=
  ∃ (bt : Nat) (rb : Nat → Nat) (C : Nat → Nat → Bool), e = .returned (.slice (some ⟨bt, 0, none⟩) g.nons.toNat g.nons.toNat) ∧ Grd 51 4 w.heap.size bt g.nons.toNat (n + 1) g.nons.toNat rb (fun i j => .bool (C i j)) w' ∧ (∀ a k, a < g.nons.toNat → k ≤ n → (C a k = true ↔ Has g.rules (a : Int) k)) ∧ Below w.heap.size w w'

set_option maxHeartbeats 8000000 in
set_option maxRecDepth 100000 in
theorem lengthsE (g : Gram) (hg : checkG g = 0) (n : Nat) (hn : n ≤ 400) (ar : Option Addr) (cr : Nat) (w : World) (hr : Rd AnyB w (.sl (g.rules.map Rule.d)) [.slice ar g.rules.length cr]) :
    Calls Try.prog 45 #[.agg #[.int .i64 g.terms, .int .i64 g.nons, .int .i64 g.start, .slice ar g.rules.length cr], .int .i64 n] w (LenPost g n w) := by
  obtain ⟨⟨hg1, hg2, hg3, hg4, hg5, hg6⟩, hg7, hg8⟩ := checkG_zero hg
  have HRU := Lib.hid hg8
  have hbs := hr.bounds.2
  unfold maxLen at hbs
  obtain ⟨hc1, hc2⟩ := hbs
  obtain ⟨w0, HW0⟩ := nameIt ((w.alloc (.cells #[.int .i64 g.terms, .int .i64 g.nons, .int .i64 g.start, .slice ar g.rules.length cr] 24)).alloc (.cells #[.int .i64 n] 3))
  have HB0 : Hid (Below w.heap.size w w0) := by rw [← HW0.out]; exact ((Below.refl _ _).alloc (Nat.le_refl _) _).alloc (by simp) _
  have X1 : Hid (w0.heap[w.heap.size]? = some (.cells #[.int .i64 g.terms, .int .i64 g.nons, .int .i64 g.start, .slice ar g.rules.length cr] 24 (0, 0))) := by rw [← HW0.out]; exact bx_keep (bx_new _ _ _ rfl) ((Below.refl _ _).alloc (Nat.le_refl _) _)
  have N1 : Hid (w0.heap[w.heap.size + 1]? = some (.cells #[.int .i64 n] 3 (0, 0))) := by rw [← HW0.out]; exact bx_new _ _ _ (by simp)
  have HZ0 : Hid (w0.heap.size = w.heap.size + 2) := by rw [← HW0.out]; exact Lib.hid (by simp)
  have HR := Lib.hid hr
  obtain ⟨N, HN⟩ : ∃ N : Nat, g.nons = (N : Int) := ⟨g.nons.toNat, by omega⟩
  have HNN := Lib.hid HN
  have HFIN : Hid (∀ (bt : Nat) (rb : Nat → Nat) (C : Nat → Nat → Bool) W, Grd 51 4 w.heap.size bt N (n + 1) N rb (fun i j => .bool (C i j)) W → (∀ a k, a < N → k ≤ n → (C a k = true ↔ Has g.rules (a : Int) k)) → Below w.heap.size w W → LenPost g n w (.returned (.slice (some ⟨bt, 0, none⟩) N N)) W) := by
    intro bt rb C W h1 h2 h3
    have e : g.nons.toNat = N := by rw [HN]; simp
    refine ⟨bt, rb, C, by rw [e], by rw [e]; exact h1, by rw [e]; exact h2, h3⟩
  have hN1 : 1 ≤ N := by omega
  have hN10 : N ≤ 10 := by omega
  have hgr := gridB N (n + 1) w0 ⟨by omega, by omega⟩ ⟨by omega, by omega⟩
  rw [show ((n + 1 : Nat) : Int) = (n : Int) + 1 by omega] at hgr
  have HGR := Lib.hid hgr
  have hmk : ∀ W : World, (Instr.makeMap 117 none).run Try.prog W = .ok (.map (some W.heap.size)) (W.alloc (.map #[] 0)) := fun W => by
    simp [Instr.makeMap, run_underlying Try.underlying117]; try rfl
  obtain ⟨gt, HGT⟩ := nameIt g.terms
  obtain ⟨gs, HGS⟩ := nameIt g.start
  obtain ⟨K, HK⟩ := nameIt g.rules
  rw [HGT.out, HN, HGS.out, HK.out] at X1 HW0
  rw [HK.out] at HR hc1 hg7 HRU HFIN
  rw [HGT.out, HN, HGS.out, HK.out]
  obtain ⟨x0, x1, x2, x3⟩ := bx_cells4 X1.out
  have n0 := bx_cells1 N1.out
  clear hr HN hg1 hg2 hg3 hg4 hg5 hg6 hg8 hgr
  go_enter Try.func45, Try.ntmps45
  go_upto_region 1 with fail
  rw [HW0.out]
  go_wp2_with fail
  refine HGR.out.mono ?_
  rintro e w2 ⟨bt, rb, rfl, hgrd, hb2⟩
  clear x0 x1 x2 x3 n0
  have HGD := Lib.hid hgrd
  have HB2 := Lib.hid hb2
  clear hgrd hb2
  obtain ⟨s, HS⟩ := nameIt w2.heap.size
  obtain ⟨w3, HW3⟩ := nameIt ((((w2.alloc (.map #[] 0)).alloc (.cells #[.map (some s)] 117)).alloc (.cells #[.slice none 0 0] 118)).alloc (.cells #[.slice none 0 0] 118))
  obtain ⟨G, HG⟩ : ∃ G : Array Value, Hid (G = #[.int .i64 gt, .int .i64 N, .int .i64 gs, .slice ar K.length cr]) := ⟨_, rfl⟩
  have HB3 : Hid (Below w2.heap.size w2 w3) := by rw [← HW3.out]; exact ((((Below.refl _ _).alloc (Nat.le_refl _) _).alloc (by simp) _).alloc (by simp; omega) _).alloc (by simp; omega) _
  have HM0 : Hid (MI w s n N G bt rb (fun _ => False) [] 0 [] 0 0 (fun _ _ => false) w3) := by
    have hz := HZ0.out
    have h1 := HGD.out
    rw [hz] at h1
    refine ⟨AI.start HS.out.symm (bx_keep N1.out HB2.out) HW3.out, h1.keep HB3.out, ⟨by rw [← HS.out]; exact h1.lt, fun i hi => by rw [← HS.out]; exact h1.rlt hi hi⟩, ?_, ?_⟩
    · rw [HG.out]; exact bx_keep (bx_keep X1.out HB2.out) HB3.out
    · have h2 : Below w.heap.size w w2 := HB0.out.trans (HB2.out.mono HB0.out.size)
      exact h2.trans (HB3.out.mono h2.size)
  have HGR0 : Hid (Grow K n [] []) := ⟨List.prefix_refl _, List.nodup_nil, by simp⟩
  have HRT4 : Hid (∀ i, (rt K i).length ≤ 4) := by
    intro i
    by_cases h : i < K.length
    · rw [rt_eq h]; exact (HRU.out _ (List.getElem_mem h)).2.2.1
    · simp [rt, List.getElem?_eq_none (Nat.le_of_not_lt h)]
  have hbx := HM0.out.gbox
  rw [HG.out] at hbx
  obtain ⟨x0, x1, x2, x3⟩ := bx_cells4 hbx
  clear hbx
  go_upto_region 5 with fail
  rw [HS.out, HW3.out]
  go_wp2_with fail
  clear x0 x1 x2 x3 hmk
  go_loopg [29] K.length (fun gg v29 wr => ∃ (j : Nat) (L : List (Nat × Nat × Nat)), j ≤ K.length ∧ K.length - j ≤ gg ∧ v29 = .int .i64 j ∧ Hid (MI w s n N G bt rb (fun _ => False) L 0 [] 0 0 (fun _ _ => false) wr) ∧ Hid (Grow K n [] L) ∧ Hid (∀ i, i < j → (i, 0, 0) ∈ L))
  case atStart => exact ⟨0, [], by omega, by omega, rfl, HM0, HGR0, fun i h => by omega⟩
  case round =>
    clear HM0 HGR0
    obtain ⟨j, L, hj, hgj, rfl, HM, HGW, HIN⟩ := hrel
    by_cases hjK : j < K.length
    · have hjK' : (j : Int) < (K.length : Int) := by omega
      have hcall : Calls Try.prog 70 #[.agg #[.int .i64 (j : Int), .int .i64 0, .int .i64 0], .pointer (some ⟨w.heap.size + 1, 0, none⟩), .pointer (some ⟨s + 1, 0, none⟩), .pointer (some ⟨s + 2, 0, none⟩), .pointer (some ⟨s + 3, 0, none⟩)] wr _ :=
        addE wr (w.heap.size + 1) s n (fun _ => False) L 0 [] 0 0 j 0 0 wr HM.out.ai ⟨by show j ≤ 1000; omega, by show 0 ≤ 1000; omega, by show 0 ≤ 1000; omega⟩ hn (by have := HGW.out.len hg7 HRT4.out hn; omega)
      have HC := Lib.hid hcall
      clear hcall
      go_wp2_with fail
      (with_reducible refine HC.out.mono ?_)
      rintro e w4 ⟨rfl, hai⟩
      have HM1 := Lib.hid (HM.out.call hai)
      have HG1 := Lib.hid (HGW.out.add (x := (j, 0, 0)) (.start hjK))
      have HI1 : Hid (∀ i, i < j + 1 → (i, 0, 0) ∈ addL n L (j, 0, 0)) := by
        intro i hi
        by_cases e : i = j
        · subst e; exact mem_addL (Nat.zero_le _)
        · exact mem_addL_old (HIN.out i (by omega))
      clear hai
      go_wp2_with fail
      go_roundg (K.length - (j + 1))
      case measure => omega
      case rel => exact ⟨j + 1, _, by omega, by omega, by go_num, HM1, HG1, HI1⟩
    · have hjK' : ¬ (j : Int) < (K.length : Int) := by omega
      have HIT0 : Hid (Items K n L 0 (fun _ _ => false)) := Items.start' HGW.out (fun i hi => HIN.out i (by omega))
      clear HIN HGW
      obtain ⟨wl, rfl⟩ : ∃ wl : World, wl = wr := ⟨_, rfl⟩
      go_wp2_with fail
      go_loopg [] 64161 (fun gg wr => ∃ (p : Nat) (L : List (Nat × Nat × Nat)) (C : Nat → Nat → Bool), p ≤ L.length ∧ 64160 - p ≤ gg ∧ Hid (MI w s n N G bt rb (fun _ => False) L p [] 0 0 C wr) ∧ Hid (Items K n L p C))
      case atStart => exact ⟨0, L, _, by omega, by omega, HM, HIT0⟩
      case round =>
        clear HM HIT0 L
        obtain ⟨wo, rfl⟩ : ∃ wo : World, wo = wr := ⟨_, rfl⟩
        obtain ⟨p, L, C, hp, hgp, HM, HIT⟩ := hrel
        have hLlen : L.length ≤ 64160 := (Grow.refl HIT.out.nodup HIT.out.sound).len hg7 HRT4.out hn
        by_cases hpl : p < L.length
        · obtain ⟨⟨i, d, l⟩, HXX⟩ := nameIt (L[p]'hpl)
          have hit := HIT.out.sound _ (List.getElem_mem hpl)
          rw [HXX.out] at hit
          obtain ⟨hit1, hit2⟩ := hit
          simp only at hit1 hit2
          have HITX := Lib.hid hit1
          have hiK : i < K.length := hit1.lt
          have hdR : d ≤ (rt K i).length := hit1.dot
          clear hit1
          obtain ⟨ib, HIB⟩ := nameIt wo.heap.size
          obtain ⟨g, off, cap, hq3, hq4, hq5, hgs, hgw, e0, e1, e2, hpop⟩ := HM.out.ai.first (X' := fun k => k = ib) hpl HXX.out
          simp only at e0 e1 e2
          obtain ⟨nq, HNQ⟩ := nameIt (L.length - p)
          have hnq : 1 ≤ nq := by have := HNQ.out; omega
          have hnq' : (0 : Int) < (nq : Int) := by omega
          rw [HNQ.out] at hq3 hq4 hpop
          unfold maxLen at hq5
          obtain ⟨w4, HW4⟩ := nameIt (wo.alloc (.cells #[.int .i64 i, .int .i64 d, .int .i64 l] 120))
          have hb4 : Below wo.heap.size wo w4 := by rw [← HW4.out]; exact (Below.refl _ _).alloc (Nat.le_refl _) _
          have I4 : Hid (w4.heap[ib]? = some (.cells #[.int .i64 i, .int .i64 d, .int .i64 l] 120 (0, 0))) := by rw [← HW4.out]; exact bx_new _ _ _ HIB.out.symm
          have hs4 : w4.heap.size = wo.heap.size + 1 := by rw [← HW4.out]; simp
          have hpop4 := hpop w4 hb4 (fun k hk => .inr (by have := HIB.out; omega))
          obtain ⟨v5, HV5⟩ := nameIt (Value.slice (if cap = 1 then some (⟨g, off, none⟩ : Addr) else some ⟨g, off + 3, none⟩) (nq - 1) (cap - 1))
          rw [HV5.out] at hpop4
          have HMP0 := Lib.hid (HM.out.pop hb4 hpop4)
          have hz4 : s + 4 ≤ wo.heap.size := HM.out.ai.le
          have HIBS : Hid (s + 4 ≤ ib) := by have := HIB.out; exact Lib.hid (by omega)
          have c3 := bx_cells1 hq3
          have c4 := bx_cells1 (bx_keep hq3 hb4)
          have f4 := bx_free1 (bx_keep hq3 hb4)
          clear hpop hpop4 hs4
          go_upto_region 12 with fail
          rw [HW4.out]
          go_cut [] (fun wx => wx = w4.setCell ⟨s + 3, 0, none⟩ v5)
          case first =>
            by_cases hc1 : cap = 1
            · have HV6 := HV5.out
              rw [if_pos hc1] at HV6
              subst hc1
              rw [show nq - 1 = 0 by omega] at HV6
              have HV7 := Lib.hid HV6
              clear HV6
              go_wp2_with fail
              go_meet
              rw [← HV7.out]
            · have HV6 := HV5.out
              rw [if_neg hc1] at HV6
              have HV7 := Lib.hid HV6
              clear HV6
              go_wp2_with fail
              go_meet
              rw [← HV7.out]
          case rest =>
            have I5 : Hid (wc.heap[ib]? = some (.cells #[.int .i64 i, .int .i64 d, .int .i64 l] 120 (0, 0))) := by
              show _ = _
              rw [hcut]
              exact bx_other I4.out (by have := HIBS.out; omega) _ _
            have HMP : Hid (MI w s n N G bt rb (fun k => k = ib) L (p + 1) [] 0 0 C wc) := by rw [hcut]; exact HMP0.out
            obtain ⟨w5, rfl⟩ : ∃ ww : World, ww = wc := ⟨_, rfl⟩
            clear hcut HMP0 I4 HV5 hb4 HW4 e0 e1 e2 c3 c4 f4 hq3 hq4
            obtain ⟨b, ro, vr, hae, -, hbl0, d0, d1, hkr⟩ := HR.out.rule_at hiK
            have c0 := (HMP.out.bel.cell (p := ⟨b, ro + i * 2, none⟩) (lt_of_cell d0)).trans d0
            have c1 := (HMP.out.bel.cell (p := ⟨b, ro + i * 2 + 1, none⟩) (lt_of_cell d1)).trans d1
            obtain ⟨av, cv, rfl, -, hcv⟩ := hkr.form
            rw [List.length_map] at c1 hkr
            obtain ⟨hl0, hl1, hl2, hl3⟩ := HRU.out K[i] (List.getElem_mem hiK)
            have HRTX := Lib.hid (rt_eq hiK)
            have HLTX := Lib.hid (lft_eq hiK)
            obtain ⟨r, HRn⟩ := nameIt (K[i]'hiK)
            rw [HRn.out] at c0 c1 hkr hl0 hl1 hl2 hl3 HRTX HLTX
            obtain ⟨lf0, HLF⟩ := nameIt r.left
            obtain ⟨R, HRR⟩ := nameIt r.right
            rw [HLF.out] at c0 hl0 hl1 HLTX
            rw [HRR.out] at c1 hkr hl2 hl3 HRTX
            rw [HNN.out] at hl1
            rw [HRTX.out] at hdR
            have HL3 := Lib.hid hl3
            obtain ⟨lf, hlf⟩ : ∃ n : Nat, lf0 = (n : Int) := ⟨lf0.toNat, by omega⟩
            subst hlf
            have hlfN : lf < N := by omega
            have HKR := Lib.hid (hkr.below HMP.out.bel)
            obtain ⟨rx, HRX⟩ := nameIt w5.heap.size
            have HRXS : Hid (s + 4 ≤ rx ∧ ib < rx) := by
              have h1 := HMP.out.ai.le
              have h2 := (Array.getElem?_eq_some_iff.1 I5.out).1
              rw [HRX.out] at h1 h2
              exact ⟨h1, h2⟩
            obtain ⟨w6, HW6⟩ := nameIt (w5.alloc (.cells #[.int .i64 lf, .slice av R.length cv] 48))
            have hb6 : Below w5.heap.size w5 w6 := by rw [← HW6.out]; exact (Below.refl _ _).alloc (Nat.le_refl _) _
            have hs6 : w6.heap.size = w5.heap.size + 1 := by rw [← HW6.out]; simp
            have R6 : Hid (w6.heap[rx]? = some (.cells #[.int .i64 lf, .slice av R.length cv] 48 (0, 0))) := by rw [← HW6.out]; exact bx_new _ _ _ HRX.out.symm
            have I6 := Lib.hid (bx_keep I5.out hb6)
            have HM6 : Hid (MI w s n N G bt rb (fun k => k = ib ∨ k = rx) L (p + 1) [] 0 0 C w6) := HMP.out.keep hb6 (fun k hk => hk.imp id (fun e => by have := HRX.out; omega))
            have hbx := HMP.out.gbox
            rw [HG.out] at hbx
            obtain ⟨x0, x1, x2, x3⟩ := bx_cells4 hbx
            obtain ⟨y0, y1, y2⟩ := bx_cells3 I5.out
            have hiK' : (i : Int) < (K.length : Int) := by omega
            have hi0 : (0 : Int) ≤ (i : Int) := by omega
            rw [HIB.out]
            subst hae
            clear hbx hb6 hs6 d0 d1 hkr hl3
            go_upto_region 14 with fail
            rw [HW6.out, HRX.out]
            clear c0 c1 x0 x1 x2 x3 y0 y1 y2
            obtain ⟨y0, y1, y2⟩ := bx_cells3 I6.out
            obtain ⟨z0, z1⟩ := bx_cells2 R6.out
            by_cases hdl : d = R.length
            · have hdl' : ((d : Int) == (R.length : Int)) = true := by simp; omega
              have h0 := HM6.out.can.hdr hlfN hlfN
              have h1 := HM6.out.can.cell hlfN hlfN (j := l) (by omega)
              obtain ⟨rl, HRL⟩ := nameIt (rb lf)
              rw [HRL.out] at h0 h1
              obtain ⟨cb, HCB⟩ := nameIt (C lf l)
              rw [HCB.out] at h1
              have hlf0 : (0 : Int) ≤ (lf : Int) := by omega
              have hlf1 : (lf : Int) < (N : Int) := by omega
              have hll0 : (0 : Int) ≤ (l : Int) := by omega
              have hll1 : (l : Int) < (n : Int) + 1 := by omega
              go_wp2_with fail
              go_quiet (fail)
              cases cb with
              | true =>
                have HITN : Hid (Items K n L (p + 1) C) := HIT.out.full_old hpl HXX.out (by rw [HRTX.out]; exact hdl) (by rw [HLTX.out]; simpa using HCB.out)
                have HMN : Hid (MI w s n N G bt rb (fun _ => False) L (p + 1) [] 0 0 C (w6.drewN nq)) := HM6.out.keep (below_drewN _ _) (fun k hk => hk.elim)
                go_wp2_with fail
                go_roundg (64160 - (p + 1))
                case measure => omega
                case rel => exact ⟨p + 1, L, C, hpl, by omega, HMN, HITN⟩
              | false =>
                go_upto_region 16 with fail
                obtain ⟨w7, HW7⟩ := nameIt (w6.drewN nq)
                have hb7 : Below w6.heap.size w6 w7 := by rw [← HW7.out]; exact below_drewN _ _
                rw [HW7.out]
                have HM7 := Lib.hid (HM6.out.keep (X' := fun k => k = ib ∨ k = rx) hb7 (fun k hk => .inl hk))
                have I7 := Lib.hid (bx_keep I6.out hb7)
                have R7 := Lib.hid (bx_keep R6.out hb7)
                clear h0 h1 y0 y1 y2 z0 z1
                obtain ⟨y0, y1, y2⟩ := bx_cells3 I7.out
                obtain ⟨z0, z1⟩ := bx_cells2 R7.out
                have h0 := HM7.out.can.hdr hlfN hlfN
                have h1 := HM7.out.can.cell hlfN hlfN (j := l) (by omega)
                have f1 := HM7.out.can.free hlfN hlfN l
                rw [HRL.out] at h0 h1 f1
                obtain ⟨C', HC'⟩ : ∃ C' : Nat → Nat → Bool, Hid (∀ a b, C' a b = if a = lf ∧ b = l then true else C a b) := ⟨fun a b => if a = lf ∧ b = l then true else C a b, fun _ _ => rfl⟩
                have hdr7 : ∀ W : World, Below W.heap.size W W.drew := fun W => (Below.refl _ _).drew
                have HM8 : Hid (MI w s n N G bt rb (fun k => k = ib ∨ k = rx) L (p + 1) [] 0 0 C' (w7.setCell ⟨rl, l, none⟩ (.bool true)).drew) := by
                  have h := (HM7.out.set hlfN (j := l) (by omega) (fun a b _ _ => HC'.out a b)).keep (X' := fun k => k = ib ∨ k = rx) (hdr7 _) (fun k hk => .inl hk)
                  rw [HRL.out] at h
                  exact h
                have hrls : rl < s := by rw [← HRL.out]; exact HM7.out.lim.2 lf hlfN
                have I8 : Hid ((w7.setCell ⟨rl, l, none⟩ (.bool true)).drew.heap[ib]? = some (.cells #[.int .i64 i, .int .i64 d, .int .i64 l] 120 (0, 0))) := bx_keep (bx_other I7.out (by have := HIBS.out; omega) _ _) (hdr7 _)
                have R8 : Hid ((w7.setCell ⟨rl, l, none⟩ (.bool true)).drew.heap[rx]? = some (.cells #[.int .i64 lf, .slice av R.length cv] 48 (0, 0))) := bx_keep (bx_other R7.out (by have := HRXS.out; omega) _ _) (hdr7 _)
                obtain ⟨w8, HW8⟩ := nameIt (w7.setCell ⟨rl, l, none⟩ (.bool true)).drew
                rw [HW8.out] at HM8 I8 R8
                obtain ⟨ga, oa, ca, hall, hca1, hca2, hsn⟩ := HM8.out.snap (by omega)
                unfold maxLen at hca2
                have HM9 := Lib.hid hsn
                have k2 := bx_cells1 hall
                have HLF : Hid (lft K i = (lf : Int)) := HLTX
                have HPOS : Hid (∀ i, i < K.length → ∀ s ∈ rt K i, s.term = false → 0 ≤ s.n) := by
                  intro i hi s hs ht
                  rw [rt_eq hi] at hs
                  have h := (HRU.out K[i] (List.getElem_mem hi)).2.2.2 s hs
                  unfold hasS at h
                  simp at h; exact h.1
                have HG0 : Hid (Grow K n L L) := Grow.refl HIT.out.nodup HIT.out.sound
                have HIN0 : Hid (∀ y ∈ L.take 0, ∀ s, (rt K y.1)[y.2.1]? = some s → s.term = false → s.n = (lf : Int) → y.2.2 + l ≤ n → (y.1, y.2.1 + 1, y.2.2 + l) ∈ L) := fun y hy => by simp at hy
                clear hall hsn hb7
                refine wp_region_still_tail 8 (by kernel_rfl) (by kernel_rfl) ?_
                simp only [List.take_succ_cons, List.take_zero, List.drop_succ_cons, List.drop_zero]
                change wpStill _ _ (World.drew _) _ _ _
                repeat still_step
                refine wpStill_nil ?_
                change wpList _ _ _ _ _ (World.drew _)
                go_upto_region 17 with fail
                rw [HW8.out]
                clear h0 h1 f1 y0 y1 y2 z0 z1 hdr7
                go_wp2_with fail
                go_loopg [77] L.length (fun gg v77 wr => ∃ (q : Nat) (L' : List (Nat × Nat × Nat)), q ≤ L.length ∧ L.length - q ≤ gg ∧ v77 = .int .i64 q ∧ Hid (MI w s n N G bt rb (fun k => k = ib ∨ k = rx) L' (p + 1) L ga oa C' wr) ∧ Hid (Grow K n L L') ∧ Hid (∀ y ∈ L.take q, ∀ s, (rt K y.1)[y.2.1]? = some s → s.term = false → s.n = (lf : Int) → y.2.2 + l ≤ n → (y.1, y.2.1 + 1, y.2.2 + l) ∈ L') ∧ Hid (wr.heap[ib]? = some (.cells #[.int .i64 i, .int .i64 d, .int .i64 l] 120 (0, 0))) ∧ Hid (wr.heap[rx]? = some (.cells #[.int .i64 lf, .slice av R.length cv] 48 (0, 0))))
                case atStart => exact ⟨0, L, by omega, by omega, rfl, HM9, HG0, HIN0, I8, R8⟩
                case round =>
                  clear HM9 HG0 HIN0 I8 R8 HM8
                  obtain ⟨wi, rfl⟩ : ∃ wi : World, wi = wr := ⟨_, rfl⟩
                  obtain ⟨q, L', hq, hgq, rfl, HMI, HGI, HIN, II, RI⟩ := hrel
                  by_cases hqL : q < L.length
                  · have hqL' : (q : Int) < (L.length : Int) := by omega
                    have hq0 : (0 : Int) ≤ (q : Int) := by omega
                    obtain ⟨⟨yi, yd, yl⟩, HYY⟩ := nameIt (L[q]'hqL)
                    obtain ⟨e0, e1, e2⟩ := HMI.out.read hqL HYY.out
                    have hyt := HIT.out.sound _ (List.getElem_mem hqL)
                    rw [HYY.out] at hyt
                    obtain ⟨hyt1, hyt2⟩ := hyt
                    simp only at hyt1 hyt2 e0 e1 e2
                    have HYT := Lib.hid hyt1
                    have hyK : yi < K.length := hyt1.lt
                    have hydR : yd ≤ (rt K yi).length := hyt1.dot
                    have HTKQ : Hid (∀ y ∈ L.take (q + 1), y ∈ L.take q ∨ y = (yi, yd, yl)) := by
                      intro y hy
                      rw [List.take_succ_eq_append_getElem hqL, HYY.out] at hy
                      simpa using hy
                    clear hyt1
                    obtain ⟨bq, rq, vrq, haq, -, hblq, g0, g1, hkq⟩ := HR.out.rule_at hyK
                    cases haq
                    have g2 := (HMI.out.bel.cell (p := ⟨b, ro + yi * 2 + 1, none⟩) (lt_of_cell g1)).trans g1
                    obtain ⟨aq, cq, rfl, -, hcq⟩ := hkq.form
                    rw [List.length_map] at g2 hkq
                    have hsq := (HRU.out K[yi] (List.getElem_mem hyK)).2.2.2
                    have hq4 := (HRU.out K[yi] (List.getElem_mem hyK)).2.2.1
                    have HRTY := Lib.hid (rt_eq hyK)
                    obtain ⟨Rq, HRQ⟩ := nameIt (K[yi]'hyK).right
                    rw [HRQ.out] at g2 hkq hsq hq4 HRTY
                    rw [HRTY.out] at hydR
                    have HSQ := Lib.hid hsq
                    obtain ⟨yb, HYB⟩ := nameIt wi.heap.size
                    obtain ⟨w9, HW9⟩ := nameIt (wi.alloc (.cells #[.int .i64 yi, .int .i64 yd, .int .i64 yl] 120))
                    have hb9 : Below wi.heap.size wi w9 := by rw [← HW9.out]; exact (Below.refl _ _).alloc (Nat.le_refl _) _
                    have Y9 : Hid (w9.heap[yb]? = some (.cells #[.int .i64 yi, .int .i64 yd, .int .i64 yl] 120 (0, 0))) := by rw [← HW9.out]; exact bx_new _ _ _ HYB.out.symm
                    have HM9 := Lib.hid (HMI.out.keep (X' := fun k => k = ib ∨ k = rx) hb9 (fun k hk => .inl hk))
                    have I9 := Lib.hid (bx_keep II.out hb9)
                    have R9 := Lib.hid (bx_keep RI.out hb9)
                    have HKQ := Lib.hid (hkq.below HM9.out.bel)
                    have g3 := (hb9.cell (p := ⟨b, ro + yi * 2 + 1, none⟩) (lt_of_cell g2)).trans g2
                    have hbx := HM9.out.gbox
                    rw [HG.out] at hbx
                    obtain ⟨x0, x1, x2, x3⟩ := bx_cells4 hbx
                    obtain ⟨y0, y1, y2⟩ := bx_cells3 Y9.out
                    obtain ⟨z0, z1⟩ := bx_cells2 R9.out
                    obtain ⟨i0, i1, i2⟩ := bx_cells3 I9.out
                    have hyK' : (yi : Int) < (K.length : Int) := by omega
                    have hy0 : (0 : Int) ≤ (yi : Int) := by omega
                    have HNXT : Hid (∀ (L2 : List (Nat × Nat × Nat)), (∀ x ∈ L', x ∈ L2) → ((∀ s, Rq[yd]? = some s → s.term = false → s.n = (lf : Int) → yl + l ≤ n → (yi, yd + 1, yl + l) ∈ L2)) → ∀ y ∈ L.take (q + 1), ∀ s, (rt K y.1)[y.2.1]? = some s → s.term = false → s.n = (lf : Int) → y.2.2 + l ≤ n → (y.1, y.2.1 + 1, y.2.2 + l) ∈ L2) := by
                      intro L2 h1 h2 y hy s hs ht hn hl
                      rcases HTKQ.out y hy with hy | rfl
                      · exact h1 _ (HIN.out y hy s hs ht hn hl)
                      · rw [show rt K (yi, yd, yl).1 = Rq from HRTY.out] at hs
                        exact h2 s hs ht hn hl
                    clear hb9 g0 g1 g2 hkq hsq hbx
                    go_upto_region 20 with fail
                    rw [HW9.out, HYB.out]
                    clear e0 e1 e2
                    go_upto_region 21 with fail
                    clear x0 x1 x2 x3 g3
                    by_cases hyl : yd < Rq.length
                    · have hyl' : decide (yd < Rq.length) = true := by simpa using hyl
                      have hyl2 : (yd : Int) < (Rq.length : Int) := by omega
                      have hyd0 : (0 : Int) ≤ (yd : Int) := by omega
                      obtain ⟨b', off', hae', -, hbl', d0, d1⟩ := HKQ.out.sym_at hyl
                      have HSD : Hid (Rq[yd]? = some (Rq[yd]'hyl)) := List.getElem?_eq_getElem hyl
                      have hsb := HSQ.out Rq[yd] (List.getElem_mem hyl)
                      obtain ⟨sy, HSY⟩ := nameIt (Rq[yd]'hyl)
                      rw [HSY.out] at d0 d1 HSD hsb
                      obtain ⟨st, HST⟩ := nameIt sy.term
                      obtain ⟨sn, HSN⟩ := nameIt sy.n
                      rw [HST.out] at d0
                      rw [HSN.out] at d1
                      subst hae'
                      by_cases hok : st = false ∧ sn = (lf : Int)
                      · obtain ⟨rfl, rfl⟩ := hok
                        have hlb : ((lf : Int) == (lf : Int)) = true := by simp
                        have hbd1 : (yd : Int) ≤ 4 := by omega
                        have hbd2 : (yl : Int) ≤ 400 := by omega
                        have hbd3 : (l : Int) ≤ 400 := by omega
                        have hbd4 : (0 : Int) ≤ (yl : Int) := by omega
                        have hbd5 : (0 : Int) ≤ (l : Int) := by omega
                        have hsw1 : IntKind.i64.wrap ((yd : Int) + 1) = (yd : Int) + 1 := IntWalk.i64_in _ (by omega)
                        have hsw2 : IntKind.i64.wrap ((yl : Int) + (l : Int)) = (yl : Int) + (l : Int) := IntWalk.i64_in _ (by omega)
                        have HSW1 := Lib.hid hsw1
                        have HSW2 := Lib.hid hsw2
                        clear hsw1 hsw2
                        go_quiet (fail)
                        obtain ⟨wz, HWZ⟩ := nameIt (w9.drewN nq)
                        rw [HWZ.out]
                        have hbz : Below w9.heap.size w9 wz := by rw [← HWZ.out]; exact below_drewN _ _
                        have HMZ := Lib.hid (HM9.out.keep (X' := fun k => k = ib ∨ k = rx) hbz (fun k hk => .inl hk))
                        have IZ := Lib.hid (bx_keep I9.out hbz)
                        have RZ := Lib.hid (bx_keep R9.out hbz)
                        have YZ := Lib.hid (bx_keep Y9.out hbz)
                        have hcall := addMI HMZ.out (i := yi) (d := yd + 1) (l := yl + l) (d' := (yd : Int) + 1) (l' := (yl : Int) + (l : Int)) (by omega) (by omega) (by omega) (by omega) (by omega) hn (by have := HGI.out.len hg7 HRT4.out hn; omega)
                        have HC := Lib.hid hcall
                        clear hcall hbz y0 y1 y2 z0 z1 i0 i1 i2 d0 d1
                        obtain ⟨y0, y1, y2⟩ := bx_cells3 YZ.out
                        obtain ⟨i0, i1, i2⟩ := bx_cells3 IZ.out
                        go_wp2_with fail
                        (with_reducible refine HC.out.mono ?_)
                        rintro e wa ⟨rfl, hai⟩
                        have HMA := Lib.hid (HMZ.out.call hai)
                        have IA : Hid (wa.heap[ib]? = some (.cells #[.int .i64 i, .int .i64 d, .int .i64 l] 120 (0, 0))) := (hai.px ib (.inl rfl)).2.trans IZ.out
                        have RA : Hid (wa.heap[rx]? = some (.cells #[.int .i64 lf, .slice av R.length cv] 48 (0, 0))) := (hai.px rx (.inr rfl)).2.trans RZ.out
                        have HGA := Lib.hid (HGI.out.add (x := (yi, yd + 1, yl + l)) (.non HYT.out (by rw [HRTY.out]; exact HSD.out) HST.out (by have h := HITX.out; rw [hdl, ← HRTX.out] at h; exact h) (by rw [HLF.out, HSN.out])))
                        have HIA := Lib.hid (HNXT.out (addL n L' (yi, yd + 1, yl + l)) (fun x hx => mem_addL_old hx) (fun s _ _ _ hl => mem_addL hl))
                        clear hai
                        go_wp2_with fail
                        go_roundg (L.length - (q + 1))
                        case measure => omega
                        case rel => exact ⟨q + 1, _, by omega, by omega, by go_num, HMA, HGA, HIA, IA, RA⟩
                      · have HIA : Hid (∀ y ∈ L.take (q + 1), ∀ s, (rt K y.1)[y.2.1]? = some s → s.term = false → s.n = (lf : Int) → y.2.2 + l ≤ n → (y.1, y.2.1 + 1, y.2.2 + l) ∈ L') := HNXT.out L' (fun x hx => hx) (fun s hs ht hn' _ => absurd ⟨by rw [← HST.out, ← ht]; rw [HSD.out] at hs; cases hs; rfl, by rw [← HSN.out, ← hn']; rw [HSD.out] at hs; cases hs; rfl⟩ hok)
                        cases st with
                        | true =>
                          clear hok
                          go_quiet (fail)
                          have HMA := Lib.hid (HM9.out.keep (X' := fun k => k = ib ∨ k = rx) (below_drewN w9 nq) (fun k hk => .inl hk))
                          have IA := Lib.hid (bx_keep I9.out (below_drewN w9 nq))
                          have RA := Lib.hid (bx_keep R9.out (below_drewN w9 nq))
                          go_wp2_with fail
                          go_roundg (L.length - (q + 1))
                          case measure => omega
                          case rel => exact ⟨q + 1, L', by omega, by omega, by go_num, HMA, HGI, HIA, IA, RA⟩
                        | false =>
                          have hlb : (sn == (lf : Int)) = false := by simpa using hok
                          clear hok
                          go_quiet (fail)
                          have HMA := Lib.hid (HM9.out.keep (X' := fun k => k = ib ∨ k = rx) (below_drewN w9 nq) (fun k hk => .inl hk))
                          have IA := Lib.hid (bx_keep I9.out (below_drewN w9 nq))
                          have RA := Lib.hid (bx_keep R9.out (below_drewN w9 nq))
                          go_wp2_with fail
                          go_roundg (L.length - (q + 1))
                          case measure => omega
                          case rel => exact ⟨q + 1, L', by omega, by omega, by go_num, HMA, HGI, HIA, IA, RA⟩
                    · have hyl' : decide (yd < Rq.length) = false := by simpa using hyl
                      have HIA : Hid (∀ y ∈ L.take (q + 1), ∀ s, (rt K y.1)[y.2.1]? = some s → s.term = false → s.n = (lf : Int) → y.2.2 + l ≤ n → (y.1, y.2.1 + 1, y.2.2 + l) ∈ L') := HNXT.out L' (fun x hx => hx) (fun s hs _ _ _ => absurd (List.getElem?_eq_some_iff.1 hs).1 hyl)
                      go_quiet (fail)
                      have HMA := Lib.hid (HM9.out.keep (X' := fun k => k = ib ∨ k = rx) (below_drewN w9 nq) (fun k hk => .inl hk))
                      have IA := Lib.hid (bx_keep I9.out (below_drewN w9 nq))
                      have RA := Lib.hid (bx_keep R9.out (below_drewN w9 nq))
                      go_wp2_with fail
                      go_roundg (L.length - (q + 1))
                      case measure => omega
                      case rel => exact ⟨q + 1, L', by omega, by omega, by go_num, HMA, HGI, HIA, IA, RA⟩
                  · have hqL' : ¬ (q : Int) < (L.length : Int) := by omega
                    have HITN : Hid (Items K n L' (p + 1) C') := HIT.out.full_new hpl HXX.out (by rw [HRTX.out]; exact hdl) (by rw [HLF.out]; omega) HPOS.out HGI.out (fun y hy s h1 h2 h3 h4 => HIN.out y (by rw [List.take_of_length_le (by omega)]; exact hy) s h1 h2 (by rw [h3, HLF.out]) h4) (fun a b => by rw [HC'.out, HLF.out]; simp)
                    have HMN := Lib.hid (HMI.out.unsnap.drop (X' := fun _ => False) (fun k hk => hk.elim))
                    have hll : p + 1 ≤ L'.length := by have := HGI.out.pre.length_le; omega
                    go_wp2_with fail
                    go_roundg (64160 - (p + 1))
                    case measure => omega
                    case rel => exact ⟨p + 1, L', C', hll, by omega, HMN, HITN⟩
            · have hdl' : ((d : Int) == (R.length : Int)) = false := by simp; omega
              have hdR2 : d < R.length := by omega
              have hdR3 : (d : Int) < (R.length : Int) := by omega
              have hd0 : (0 : Int) ≤ (d : Int) := by omega
              obtain ⟨b', off', hae', -, hbl', d0, d1⟩ := (HKR.out.below (show Below w5.heap.size w5 w6 by rw [← HW6.out]; exact (Below.refl _ _).alloc (Nat.le_refl _) _)).sym_at hdR2
              have HSD : Hid ((rt K i)[d]? = some (R[d]'hdR2)) := by
                show _ = _
                rw [HRTX.out]; exact List.getElem?_eq_getElem hdR2
              have hsb := HL3.out R[d] (List.getElem_mem hdR2)
              obtain ⟨sy, HSY⟩ := nameIt (R[d]'hdR2)
              rw [HSY.out] at d0 d1 HSD hsb
              unfold hasS at hsb
              rw [HNN.out, HGT.out] at hsb
              obtain ⟨st, HST⟩ := nameIt sy.term
              obtain ⟨sn, HSN⟩ := nameIt sy.n
              rw [HST.out] at d0 hsb
              rw [HSN.out] at d1 hsb
              obtain ⟨w7, HW7⟩ := nameIt (w6.alloc (.cells #[.bool st, .int .i64 sn] 65))
              obtain ⟨sx, HSX⟩ := nameIt w6.heap.size
              have hb7 : Below w6.heap.size w6 w7 := by rw [← HW7.out]; exact (Below.refl _ _).alloc (Nat.le_refl _) _
              have hs7 : w7.heap.size = w6.heap.size + 1 := by rw [← HW7.out]; simp
              have S7 : Hid (w7.heap[sx]? = some (.cells #[.bool st, .int .i64 sn] 65 (0, 0))) := by rw [← HW7.out]; exact bx_new _ _ _ HSX.out.symm
              have HM7 : Hid (MI w s n N G bt rb (fun k => k = ib ∨ k = rx ∨ k = sx) L (p + 1) [] 0 0 C w7) := HM6.out.keep hb7 (fun k hk => by
                rcases hk with e | e | e
                · exact .inl (.inl e)
                · exact .inl (.inr e)
                · exact .inr (by have := HSX.out; omega))
              have I7 := Lib.hid (bx_keep I6.out hb7)
              have R7 := Lib.hid (bx_keep R6.out hb7)
              subst hae'
              clear hb7 hs7
              go_upto_region 25 with fail
              rw [HW7.out, HSX.out]
              clear y0 y1 y2 z0 z1 d0 d1
              obtain ⟨y0, y1, y2⟩ := bx_cells3 I7.out
              obtain ⟨s0, s1⟩ := bx_cells2 S7.out
              have HG0 : Hid (Grow K n L L) := Grow.refl HIT.out.nodup HIT.out.sound
              cases st with
              | true =>
                have hbd1 : (d : Int) ≤ 4 := by omega
                have hbd2 : (l : Int) ≤ 400 := by omega
                have hbd3 : (0 : Int) ≤ (l : Int) := by omega
                have hcall := addMI HM7.out (i := i) (d := d + 1) (l := l + 1) (d' := (d : Int) + 1) (l' := (l : Int) + 1) (by omega) (by omega) (by omega) (by omega) (by omega) hn (by omega)
                have HC := Lib.hid hcall
                have HITN : Hid (Items K n (addL n L (i, d + 1, l + 1)) (p + 1) C) := HIT.out.termN hpl HXX.out HSD.out HST.out
                have hll : p + 1 ≤ (addL n L (i, d + 1, l + 1)).length := by
                  have := (HG0.out.add (x := (i, d + 1, l + 1)) (.term HITX.out HSD.out HST.out)).pre.length_le; omega
                clear hcall
                go_wp2_with fail
                (with_reducible refine HC.out.mono ?_)
                rintro e wa ⟨rfl, hai⟩
                have HMN := Lib.hid ((HM7.out.call hai).drop (X' := fun _ => False) (fun k hk => hk.elim))
                obtain ⟨L2, HL2⟩ := nameIt (addL n L (i, d + 1, l + 1))
                rw [HL2.out] at HMN HITN hll
                clear hai
                go_wp2_with fail
                go_roundg (64160 - (p + 1))
                case measure => omega
                case rel => exact ⟨p + 1, L2, C, hll, by omega, HMN, HITN⟩
              | false =>
                simp at hsb
                obtain ⟨hsb0, hsb1⟩ := hsb
                obtain ⟨an, han⟩ : ∃ a : Nat, sn = (a : Int) := ⟨sn.toNat, by omega⟩
                subst han
                have hanN : an < N := by omega
                have han0 : (0 : Int) ≤ (an : Int) := by omega
                have han1 : (an : Int) < (N : Int) := by omega
                have h0 := HM7.out.can.hdr hanN hanN
                obtain ⟨ra, HRA⟩ := nameIt (rb an)
                rw [HRA.out] at h0
                have HIN0 : Hid (∀ k, k < 0 → C an k = true → l + k ≤ n → (i, d + 1, l + k) ∈ L) := fun k hk => by omega
                go_wp2_with fail
                clear y0 y1 y2 s0 s1 h0
                go_loopg [152] (n + 1) (fun gg v152 wr => ∃ (q : Nat) (L' : List (Nat × Nat × Nat)), q ≤ n + 1 ∧ n + 1 - q ≤ gg ∧ v152 = .int .i64 q ∧ Hid (MI w s n N G bt rb (fun k => k = ib ∨ k = rx ∨ k = sx) L' (p + 1) [] 0 0 C wr) ∧ Hid (Grow K n L L') ∧ Hid (∀ k, k < q → C an k = true → l + k ≤ n → (i, d + 1, l + k) ∈ L') ∧ Hid (wr.heap[ib]? = some (.cells #[.int .i64 i, .int .i64 d, .int .i64 l] 120 (0, 0))))
                case atStart => exact ⟨0, L, by omega, by omega, rfl, HM7, HG0, HIN0, I7⟩
                case round =>
                  clear HM7 HG0 HIN0 I7 R7 S7
                  obtain ⟨wi, rfl⟩ : ∃ wi : World, wi = wr := ⟨_, rfl⟩
                  obtain ⟨q, L', hq, hgq, rfl, HMI, HGI, HIN, II⟩ := hrel
                  by_cases hqn : q < n + 1
                  · have hqn' : (q : Int) < (n : Int) + 1 := by omega
                    have hq0 : (0 : Int) ≤ (q : Int) := by omega
                    have h1 := HMI.out.can.cell hanN hanN (j := q) hqn
                    rw [HRA.out] at h1
                    obtain ⟨cb, HCB⟩ := nameIt (C an q)
                    rw [HCB.out] at h1
                    obtain ⟨y0, y1, y2⟩ := bx_cells3 II.out
                    cases cb with
                    | true =>
                      have hbd1 : (d : Int) ≤ 4 := by omega
                      have hbd2 : (l : Int) ≤ 400 := by omega
                      have hbd3 : (0 : Int) ≤ (l : Int) := by omega
                      have hbd4 : (q : Int) ≤ 400 := by omega
                      have hcall := addMI HMI.out (i := i) (d := d + 1) (l := l + q) (d' := (d : Int) + 1) (l' := (l : Int) + (q : Int)) (by omega) (by omega) (by omega) (by omega) (by omega) hn (by have := HGI.out.len hg7 HRT4.out hn; omega)
                      have HC := Lib.hid hcall
                      have HGA := Lib.hid (HGI.out.add (x := (i, d + 1, l + q)) (HIT.out.nonIt HITX.out HSD.out HST.out (by rw [HSN.out]; exact han0) (by rw [HSN.out]; simpa using HCB.out)))
                      have HIA : Hid (∀ k, k < q + 1 → C an k = true → l + k ≤ n → (i, d + 1, l + k) ∈ addL n L' (i, d + 1, l + q)) := by
                        intro k hk hc hl
                        by_cases e : k = q
                        · subst e; exact mem_addL hl
                        · exact mem_addL_old (HIN.out k (by omega) hc hl)
                      obtain ⟨L2, HL2⟩ := nameIt (addL n L' (i, d + 1, l + q))
                      clear hcall
                      go_wp2_with fail
                      (with_reducible refine HC.out.mono ?_)
                      rintro e wa ⟨rfl, hai⟩
                      have HMA := Lib.hid (HMI.out.call hai)
                      have IA : Hid (wa.heap[ib]? = some (.cells #[.int .i64 i, .int .i64 d, .int .i64 l] 120 (0, 0))) := (hai.px ib (.inl rfl)).2.trans II.out
                      rw [HL2.out] at HMA HGA HIA
                      clear hai
                      go_wp2_with fail
                      go_roundg (n + 1 - (q + 1))
                      case measure => omega
                      case rel => exact ⟨q + 1, L2, by omega, by omega, by go_num, HMA, HGA, HIA, IA⟩
                    | false =>
                      have HIA : Hid (∀ k, k < q + 1 → C an k = true → l + k ≤ n → (i, d + 1, l + k) ∈ L') := by
                        intro k hk hc hl
                        by_cases e : k = q
                        · subst e; rw [HCB.out] at hc; cases hc
                        · exact HIN.out k (by omega) hc hl
                      go_wp2_with fail
                      go_roundg (n + 1 - (q + 1))
                      case measure => omega
                      case rel => exact ⟨q + 1, L', by omega, by omega, by go_num, HMI, HGI, HIA, II⟩
                  · have hqn' : ¬ (q : Int) < (n : Int) + 1 := by omega
                    have HITN : Hid (Items K n L' (p + 1) C) := HIT.out.nonN hpl HXX.out HSD.out HST.out HGI.out (fun k hk hc hl => HIN.out k (by omega) (by rw [HSN.out] at hc; simpa using hc) hl)
                    have HMN := Lib.hid (HMI.out.drop (X' := fun _ => False) (fun k hk => hk.elim))
                    have hll : p + 1 ≤ L'.length := by have := HGI.out.pre.length_le; omega
                    go_wp2_with fail
                    go_roundg (64160 - (p + 1))
                    case measure => omega
                    case rel => exact ⟨p + 1, L', C, hll, by omega, HMN, HITN⟩
        · obtain ⟨va, vq, r1, r2, r3⟩ := HM.out.ai.rows
          have hq0 : (L.drop p).length = 0 := by rw [List.length_drop]; omega
          obtain ⟨aq, cq, hvq, hq1, hq2⟩ := r3.row.form
          rw [hq0] at hvq
          subst hvq
          have c3 := bx_cells1 r2
          have HE : Hid (∀ a k, a < N → k ≤ n → (C a k = true ↔ Has K (a : Int) k)) := fun a k _ hk => items_right HIT.out (by omega) hk
          clear r1 r2 r3 hq0 hq1 hq2
          go_wp2_with fail
          go_ret
          exact HFIN.out bt rb C wo (Grd.base HM.out.can (by omega)) HE.out HM.out.bel
end Ln
end Go.Proofs.Ytbnpemgmdnghgaa
namespace Go.Proofs.Ytbnpemgmdnghgaa
open Go.RowKit
namespace Cs

theorem fold_still {α β : Type} {f : β × Bool → α → β × Bool} (hf : ∀ st a, (f st a).2 = false → f st a = st) : ∀ (l : List α) (st : β × Bool), (l.foldl f st).2 = false → l.foldl f st = st ∧ ∀ a ∈ l, f st a = st
  | [], st, _ => ⟨rfl, fun a h => by cases h⟩
  | a :: l, st, h => by
    rw [List.foldl_cons] at h
    obtain ⟨h1, h2⟩ := fold_still hf l _ h
    rw [h1] at h
    have h3 := hf st a h
    rw [h3] at h1 h2
    refine ⟨by rw [List.foldl_cons, h3]; exact h1, fun b hb => ?_⟩
    rcases List.mem_cons.1 hb with rfl | hb
    · exact h3
    · exact h2 b hb
theorem p1_still {r : Rule} (st : (Nat → Nat → Bool) × Bool) (k : Nat) (h : (p1 r st k).2 = false) : p1 r st k = st := by
  unfold p1 at h ⊢
  split
  · rename_i hc; rw [if_pos hc] at h; cases h
  · rfl
theorem p3_closed {n : Nat} {l : List Rule} {S : Nat → Nat → Bool} (h : (p3 n l S).2 = false) {r : Rule} (hr : r ∈ l) {k : Nat} (hk : k ≤ n) (hc : canK S r.right k = true) : S r.left.toNat k = true := by
  have h2 := (fold_still (f := p2 n) (fun st r hf => (fold_still (f := p1 r) p1_still _ st hf).1) l (S, false) h).2 r hr
  have h3 := (fold_still (f := p1 r) p1_still (List.range (n + 1)) (S, false) (by show (p2 n (S, false) r).2 = false; rw [h2])).2 k (List.mem_range.2 (by omega))
  cases hS : S r.left.toNat k with
  | true => rfl
  | false =>
    unfold p1 at h3
    simp only at h3
    rw [if_pos (by rw [hS, hc]; rfl)] at h3
    have := congrArg Prod.snd h3
    cases this
theorem itP_sound {g : Gram} {N n : Nat} (hok : OkC g N) : ∀ q, Ln.Sound g.rules (itP n g.rules q (fun _ _ => false)) := by
  have hp : ∀ i, i < g.rules.length → ∀ s ∈ Ln.rt g.rules i, s.term = false → 0 ≤ s.n := by
    intro i hi s hs ht
    rw [Ln.rt_eq hi] at hs
    exact (hok.r _ (List.getElem_mem hi) s hs ht).1
  intro q
  induction q with
  | zero => intro a k h; cases h
  | succ q ih =>
    rw [itP_snoc]
    have key : Ln.Sound g.rules (p3 n g.rules (itP n g.rules q (fun _ _ => false))).1 := by
      unfold p3
      refine fold_inv (P := fun st : (Nat → Nat → Bool) × Bool => Ln.Sound g.rules st.1) g.rules _ (fun r hr st h => ?_) ih
      unfold p2
      refine fold_inv (P := fun st : (Nat → Nat → Bool) × Bool => Ln.Sound g.rules st.1) _ _ (fun k hk st h => ?_) h
      have hkn : k ≤ n := by have := List.mem_range.1 hk; omega
      unfold p1
      split
      · rename_i hc
        rw [Bool.and_eq_true] at hc
        intro a j hj
        have hj' : updB st.1 r.left.toNat k a j = true := hj
        unfold updB at hj'
        by_cases e : a = r.left.toNat ∧ j = k
        · obtain ⟨rfl, rfl⟩ := e
          obtain ⟨i, hi, rfl⟩ := List.getElem_of_mem hr
          have h1 : Ln.atR st.1 n ((Ln.rt g.rules i).take (Ln.rt g.rules i).length) j = true := by
            rw [atR_canK st.1 n _ _ (Nat.le_refl _) j hkn, List.take_length, Ln.rt_eq hi]; exact hc.2
          have h2 := Ln.at_sound h hp hi _ j (Nat.le_refl _) h1
          exact ⟨i, h2, by rw [Ln.lft_eq hi]; have := (hok.l _ hr).1; omega⟩
        · rw [if_neg e] at hj'
          exact h a j hj'
      · exact h
    exact key
theorem done_has {g : Gram} {N n : Nat} {S : Nat → Nat → Bool} (hok : OkC g N) (h : DoneC g n S) {a k : Nat} (hk : k ≤ n) : S a k = true ↔ Ln.Has g.rules (a : Int) k := by
  obtain ⟨⟨q, hq⟩, hp⟩ := h
  have hs : Ln.Sound g.rules S := by rw [hq]; exact itP_sound hok q
  refine Ln.set_right hs (fun i hi m hm ha => ?_) (fun i hi => by rw [Ln.lft_eq hi]; exact (hok.l _ (List.getElem_mem hi)).1) hk
  have h1 : canK S (Ln.rt g.rules i) m = true := by
    have := atR_canK S n (Ln.rt g.rules i) (Ln.rt g.rules i).length (Nat.le_refl _) m hm
    rw [List.take_length] at this
    rw [← this]; exact ha
  rw [Ln.rt_eq hi] at h1
  rw [Ln.lft_eq hi]
  exact p3_closed hp (List.getElem_mem hi) hm h1
theorem okC_len4 {g : Gram} (h : checkG g = 0) : ∀ r ∈ g.rules, r.right.length ≤ 1000 := by
  unfold checkG at h
  by_cases hb : badHead g = true
  · rw [if_pos hb] at h; cases h
  · rw [if_neg hb] at h
    by_cases hl : 32 < g.rules.length
    · rw [if_pos hl] at h; cases h
    · rw [if_neg hl] at h
      intro r hr
      have := (faultsFrom_zero h r hr).2.2.1
      omega
theorem treesAll {g : Gram} {ra : Option Addr} {rcap N n : Nat} {lb most bt : Nat} {rb : Nat → Nat} {H : Nat → Nat → Bool} {w1 : World} (h : LE g ra rcap N n lb most bt rb H w1) (hn : n ≤ 400) (hm1 : 1 ≤ most) (hm2 : most ≤ 1000) (hok : ∀ r ∈ g.rules, ∀ s ∈ r.right, okS N s) (h4 : ∀ r ∈ g.rules, r.right.length ≤ 1000) :
    ∀ d, d ≤ 1000 → TsP g N n lb most H w1 d
  | 0, hd => treesL h hn hm1 hm2 hok h4 trivial 0 hd fun d0 e => by omega
  | d + 1, hd => treesL h hn hm1 hm2 hok h4 trivial (d + 1) hd fun d0 e => by
    obtain rfl : d = d0 := by omega
    exact rowsL h hn hm1 hm2 d (treesAll h hn hm1 hm2 hok h4 d (by omega))
end Cs
end Go.Proofs.Ytbnpemgmdnghgaa
namespace Go.Proofs.Ytbnpemgmdnghgaa
open Go.RowKit
namespace Cs

set_option maxHeartbeats 8000000 in
set_option maxRecDepth 100000 in
theorem listedE (g : Gram) (ra : Option Addr) (rcap N n most deep : Nat) (S : Nat → Nat → Bool) (hok : OkC g N) (hck : checkG g = 0) (hn : n ≤ 24) (hS : DoneC g n S) (hm1 : 1 ≤ most) (hm2 : most ≤ 1000) (hd : deep ≤ 1000) (w : World) (hr : Rd AnyB w (.sl (g.rules.map Rule.d)) [.slice ra g.rules.length rcap]) :
    Calls Try.prog 24 #[.agg #[.int .i64 g.terms, .int .i64 g.nons, .int .i64 g.start, .slice ra g.rules.length rcap], .int .i64 (n : Int), .int .i64 (most : Int), .int .i64 (deep : Int)] w (LsPost (lsT S most g.rules deep ⟨false, g.start⟩ n) w) := by
  obtain ⟨w0, HW0⟩ := nameIt (w.alloc (.cells #[.int .i64 g.terms, .int .i64 g.nons, .int .i64 g.start, .slice ra g.rules.length rcap] 24))
  have hb0 : Below w.heap.size w w0 := by rw [← HW0.out]; exact (Below.refl _ _).alloc (Nat.le_refl _) _
  have X0 : Hid (w0.heap[w.heap.size]? = some (.cells #[.int .i64 g.terms, .int .i64 g.nons, .int .i64 g.start, .slice ra g.rules.length rcap] 24 (0, 0))) := by rw [← HW0.out]; exact bx_new _ _ _ rfl
  obtain ⟨PST, HP⟩ := nameIt (LsPost (lsT S most g.rules deep ⟨false, g.start⟩ n) w)
  rw [HP.out]
  have hnN : g.nons.toNat = N := by rw [hok.nons]; rfl
  have HLN : Hid (∀ W, Below w0.heap.size w0 W → Calls Try.prog 45 #[.agg #[.int .i64 g.terms, .int .i64 g.nons, .int .i64 g.start, .slice ra g.rules.length rcap], .int .i64 (n : Int)] W (Ln.LenPost g n W)) :=
    fun W hb => Ln.lengthsE g hck n (by omega) ra rcap W ((hr.below hb0).below hb)
  have HTR : Hid (∀ (w3 : World) (lb bt B : Nat) (rb : Nat → Nat) (C : Nat → Nat → Bool) (w2 : World), Below w0.heap.size w0 w2 → Below w2.heap.size w2 w3 → Grd 51 4 B bt N (n + 1) N rb (fun i j => .bool (C i j)) w2 → (∀ a k, a < N → k ≤ n → (C a k = true ↔ Ln.Has g.rules (a : Int) k)) →
      w3.heap[lb]? = some (.cells #[.int .i64 g.terms, .int .i64 g.nons, .int .i64 g.start, .slice ra g.rules.length rcap, .slice (some ⟨bt, 0, none⟩) N N, .int .i64 (most : Int)] 93 (0, 0)) →
      Calls Try.prog 46 #[.pointer (some ⟨lb, 0, none⟩), .agg #[.bool false, .int .i64 g.start], .int .i64 (n : Int), .int .i64 (deep : Int)] w3 (LsPost (lsT S most g.rules deep ⟨false, g.start⟩ n) w3)) := by
    intro w3 lb bt B rb C w2 hb2 hb23 ht hC hx
    have hle : LE g ra rcap N n lb most bt rb S w3 := by
      refine ⟨hx, ?_, ((hr.below hb0).below hb2).below hb23⟩
      refine Ln.Grd.base (B := B) ?_ (Nat.zero_le _)
      refine (ht.keep hb23).eq fun a k ha _ hk => ?_
      have h1 := hC a k ha (by omega)
      have h2 := done_has hok hS (a := a) (k := k) (by omega)
      cases hc : C a k with
      | true => rw [h2.2 (h1.1 hc)]
      | false =>
        cases hs : S a k with
        | false => rfl
        | true => rw [h1.2 (h2.1 hs)] at hc; cases hc
    exact treesAll hle (by omega) hm1 hm2 hok.r (okC_len4 hck) deep hd ⟨false, g.start⟩ (fun _ => ⟨hok.s0, by have := hok.s1; have := hok.s0; simp; omega⟩) n (Nat.le_refl _) w3 (Below.refl _ _)
  have HFIN : Hid (∀ w3 e w', Below w0.heap.size w0 w3 → LsPost (lsT S most g.rules deep ⟨false, g.start⟩ n) w3 e w' → ∃ a m c b, e = .returned (.tuple #[.slice a m c, .bool b]) ∧ PST e w') := by
    rintro w3 e w' hb ⟨a, m, c, rfl, h1, h2⟩
    refine ⟨a, m, c, _, rfl, ?_⟩
    rw [← HP.out]
    have hb3 := hb0.trans (hb.mono hb0.size)
    exact ⟨a, m, c, rfl, hb3.trans (h1.mono hb3.size), fun L hL => (h2 L hL).mono fun b hb _ => by have : w3.heap.size ≤ b := hb; have := hb3.size; omega⟩
  rw [hnN.symm] at HTR
  rw [hok.nons] at X0 HW0 HLN HTR ⊢
  rw [Int.toNat_natCast] at HTR
  obtain ⟨SP, HSP⟩ := nameIt (LsPost (lsT S most g.rules deep ⟨false, g.start⟩ n))
  simp only [HSP.out] at HTR HFIN
  have HLP : Hid (∀ W e w', Ln.LenPost g n W e w' → ∃ (bt : Nat) (rb : Nat → Nat) (C : Nat → Nat → Bool), e = .returned (.slice (some ⟨bt, 0, none⟩) N N) ∧ Grd 51 4 W.heap.size bt N (n + 1) N rb (fun i j => .bool (C i j)) w' ∧ (∀ a k, a < N → k ≤ n → (C a k = true ↔ Ln.Has g.rules (a : Int) k)) ∧ Below W.heap.size W w') := by
    intro W e w' h
    unfold Ln.LenPost at h
    rw [hnN] at h
    exact h
  replace HLN : Hid (∀ W, Below w0.heap.size w0 W → Calls Try.prog 45 #[.agg #[.int .i64 g.terms, .int .i64 (N : Int), .int .i64 g.start, .slice ra g.rules.length rcap], .int .i64 (n : Int)] W (fun e w' => ∃ (bt : Nat) (rb : Nat → Nat) (C : Nat → Nat → Bool), e = .returned (.slice (some ⟨bt, 0, none⟩) N N) ∧ Grd 51 4 W.heap.size bt N (n + 1) N rb (fun i j => .bool (C i j)) w' ∧ (∀ a k, a < N → k ≤ n → (C a k = true ↔ Ln.Has g.rules (a : Int) k)) ∧ Below W.heap.size W w')) :=
    fun W hb => (HLN.out W hb).mono fun e w' h => HLP.out W e w' h
  obtain ⟨gt, HGT⟩ := nameIt g.terms
  obtain ⟨gs, HGS⟩ := nameIt g.start
  obtain ⟨rl, HRL⟩ := nameIt g.rules.length
  rw [HGT.out, HGS.out, HRL.out] at HW0 X0 HLN
  simp only [HGT.out, HGS.out, HRL.out] at HTR
  rw [HGT.out, HGS.out, HRL.out]
  obtain ⟨gb, HGBN⟩ := nameIt w.heap.size
  rw [HGBN.out] at X0
  have HGB : Hid (∀ W', Below w0.heap.size w0 W' → W'.cell? ⟨gb, 0, none⟩ = some (.int .i64 gt) ∧ W'.cell? ⟨gb, 0 + 1, none⟩ = some (.int .i64 (N : Int)) ∧ W'.cell? ⟨gb, 0 + 2, none⟩ = some (.int .i64 gs) ∧ W'.cell? ⟨gb, 0 + 3, none⟩ = some (.slice ra rl rcap)) := fun W' h => bx_cells4 (bx_keep X0.out h)
  clear hr hb0 HP X0 hok hck hS hnN hm1 hm2 hd HLP
  go_enter Try.func24, Try.ntmps24
  go_upto_region 1 with fail
  rw [HW0.out, HGBN.out]
  have HS : Hid (∀ W', Below w0.heap.size w0 W' → (fun w' => w'.cell? ⟨gb, 0, none⟩ = some (.int .i64 gt) ∧ w'.cell? ⟨gb, 0 + 1, none⟩ = some (.int .i64 (N : Int)) ∧ w'.cell? ⟨gb, 0 + 2, none⟩ = some (.int .i64 gs) ∧ w'.cell? ⟨gb, 0 + 3, none⟩ = some (.slice ra rl rcap)) W') := HGB
  have HBD : Hid (Below w0.heap.size w0 w0.drew) := (Below.refl _ _).drew
  have HLND := Lib.hid (HLN.out _ HBD.out)
  obtain ⟨wd, HWD⟩ := nameIt w0.drew
  rw [HWD.out] at HBD HLND
  refine wp_region_U (S := (fun w' => w'.cell? ⟨gb, 0, none⟩ = some (.int .i64 gt) ∧ w'.cell? ⟨gb, 0 + 1, none⟩ = some (.int .i64 (N : Int)) ∧ w'.cell? ⟨gb, 0 + 2, none⟩ = some (.int .i64 gs) ∧ w'.cell? ⟨gb, 0 + 3, none⟩ = some (.slice ra rl rcap))) 7 (by kernel_rfl) (fun inv => ?_)
  rw [HWD.out]
  refine wpU_take (i := 0) (v := .agg #[.int .i64 gt, .int .i64 (N : Int), .int .i64 gs, .slice ra rl rcap]) rfl inv (by kernel_rfl) (by kernel_rfl) (by decide) (by decide) (by kernel_rfl) (by kernel_rfl) (by kernel_rfl) (fun _ _ _ h => h) (Or.inl ⟨by rfl, fun w' hw' => ?_⟩) (HS.out _ HBD.out) (fun inv => ?_)
  · obtain ⟨h0, h1, h2, h3⟩ := hw'
    go_simp
  try simp only [Act.put, List.setIfInBounds_toArray, List.set_cons_zero, List.set_cons_succ]
  refine wpU_take (i := 1) (v := .agg #[.int .i64 gt, .int .i64 (N : Int), .int .i64 gs, .slice ra rl rcap]) rfl inv (by kernel_rfl) (by kernel_rfl) (by decide) (by decide) (by kernel_rfl) (by kernel_rfl) (by kernel_rfl) (fun _ _ _ h => h) (Or.inl ⟨by rfl, fun w' hw' => ?_⟩) (HS.out _ HBD.out) (fun inv => ?_)
  · obtain ⟨h0, h1, h2, h3⟩ := hw'
    go_simp
  try simp only [Act.put, List.setIfInBounds_toArray, List.set_cons_zero, List.set_cons_succ]
  refine wpU_take (i := 2) (v := .int .i64 (n : Int)) rfl inv (by kernel_rfl) (by kernel_rfl) (by decide) (by decide) (by kernel_rfl) (by kernel_rfl) (by kernel_rfl) (fun _ _ _ h => h) (Or.inl ⟨by rfl, fun w' hw' => ?_⟩) (HS.out _ HBD.out) (fun inv => ?_)
  · obtain ⟨h0, h1, h2, h3⟩ := hw'
    go_simp
  try simp only [Act.put, List.setIfInBounds_toArray, List.set_cons_zero, List.set_cons_succ]
  refine wpU_take (i := 4) (v := .int .i64 (most : Int)) rfl inv (by kernel_rfl) (by kernel_rfl) (by decide) (by decide) (by kernel_rfl) (by kernel_rfl) (by kernel_rfl) (fun _ _ _ h => h) (Or.inl ⟨by rfl, fun w' hw' => ?_⟩) (HS.out _ HBD.out) (fun inv => ?_)
  · obtain ⟨h0, h1, h2, h3⟩ := hw'
    go_simp
  try simp only [Act.put, List.setIfInBounds_toArray, List.set_cons_zero, List.set_cons_succ]
  refine wpU_one (i := 3) (by kernel_rfl) rfl (fun K hK => ?_)
  replace inv := inv_setc (i := 3) inv (by kernel_rfl) (by decide)
  go_simp
  with_reducible refine HLND.out.mono ?_
  rintro e w2 ⟨bt, rb, C, rfl, htab, hC, hb2⟩
  have HTAB := Lib.hid htab
  have HCC := Lib.hid hC
  have HB2 := Lib.hid (HBD.out.trans (hb2.mono HBD.out.size))
  clear htab hC hb2
  refine hK.out _ _ (fun _ => HS.out _ HB2.out) ?_
  clear hK K
  try simp only [Act.put, List.setIfInBounds_toArray, List.set_cons_zero, List.set_cons_succ]
  refine wpU_one (i := 5) (by kernel_rfl) rfl (fun K hK => ?_)
  replace inv := inv_setc (i := 5) inv (by kernel_rfl) (by decide)
  go_simp
  refine hK.out _ _ (fun _ => HS.out _ HB2.out) ?_
  clear hK K
  try simp only [Act.put, List.setIfInBounds_toArray, List.set_cons_zero, List.set_cons_succ]
  refine wpU_one (i := 6) (by kernel_rfl) rfl (fun K hK => ?_)
  replace inv := inv_setc (i := 6) inv (by kernel_rfl) (by decide)
  go_simp
  obtain ⟨w3, HW3⟩ := nameIt (w2.alloc (.cells #[.int .i64 gt, .int .i64 (N : Int), .int .i64 gs, .slice ra rl rcap, .slice (some ⟨bt, 0, none⟩) N N, .int .i64 (most : Int)] 93))
  rw [HW3.out]
  have HB23 : Hid (Below w2.heap.size w2 w3) := by rw [← HW3.out]; exact (Below.refl _ _).alloc (Nat.le_refl _) _
  have X3 : Hid (w3.heap[w2.heap.size]? = some (.cells #[.int .i64 gt, .int .i64 (N : Int), .int .i64 gs, .slice ra rl rcap, .slice (some ⟨bt, 0, none⟩) N N, .int .i64 (most : Int)] 93 (0, 0))) := by rw [← HW3.out]; exact bx_new _ _ _ rfl
  have HB3 := Lib.hid (HB2.out.trans (HB23.out.mono HB2.out.size))
  clear HW3
  refine hK.out _ _ (fun _ => HS.out _ HB3.out) ?_
  clear hK K
  try simp only [Act.put, List.setIfInBounds_toArray, List.set_cons_zero, List.set_cons_succ]
  refine wpU_one (i := 7) (by kernel_rfl) rfl (fun K hK => ?_)
  go_simp
  refine hK.out _ _ (fun h => absurd (show true = false from h) (by decide)) ?_
  clear hK K
  try simp only [Act.put, List.setIfInBounds_toArray, List.set_cons_zero, List.set_cons_succ]
  refine wpU_done (by kernel_rfl) ?_ _
  have HTRW := Lib.hid (HTR.out w3 w2.heap.size bt _ rb C w2 HB2.out HB23.out HTAB.out HCC.out X3.out)
  obtain ⟨x0, x1, x2, x3⟩ := HGB.out w3 HB3.out
  go_wp2_with fail
  with_reducible refine HTRW.out.mono ?_
  intro e w4 hpo
  obtain ⟨a4, m4, c4, b4, rfl, hpst⟩ := HFIN.out w3 _ _ HB3.out hpo
  have HE := Lib.hid hpst
  clear hpo hpst x0 x1 x2 x3
  go_wp2_with fail
  first | exact HE.out | (refine bodyPost_ret (results_tmp2 Try.results24 _ _ _) rfl ?_; exact HE.out)
end Cs
end Go.Proofs.Ytbnpemgmdnghgaa
namespace Go.Proofs.Ytbnpemgmdnghgaa
open Go.RowKit

end Go.Proofs.Ytbnpemgmdnghgaa
namespace Go.Proofs.Ytbnpemgmdnghgaa
open Go.RowKit

mutual
theorem nodes_size : ∀ t : Tree, (nodes t).length ≤ t.size
  | .node r tm ks => by
    have := nodesL_size ks
    rw [nodes, Tree.size]
    by_cases h : r = -1 <;> simp [h] <;> omega
theorem nodesL_size : ∀ ks : List Tree, (nodesL ks).length ≤ sizeL ks
  | [] => by simp [nodesL, sizeL]
  | k :: ks => by
    have := nodes_size k
    have := nodesL_size ks
    simp [nodesL, sizeL]; omega
end

end Go.Proofs.Ytbnpemgmdnghgaa
namespace Go.Proofs.Ytbnpemgmdnghgaa
open Go.RowKit

end Go.Proofs.Ytbnpemgmdnghgaa
namespace Go.Proofs.Ytbnpemgmdnghgaa
open Go.RowKit

structure GathRel (f : List Tree → List Int) (w w1 : World) (l : List Tree) (i : Nat) (v : Value) (wr : World) : Prop where
  own : wr.ownsRow w.heap.size 3 1 v (f (l.take i)).length (ints (f (l.take i)))
  bel : Below w.heap.size w wr
  belo : Below w1.heap.size w1 wr
  apart : ∀ k, v.ownBlock = some k → w1.heap.size ≤ k

end Go.Proofs.Ytbnpemgmdnghgaa
namespace Go.Proofs.Ytbnpemgmdnghgaa
open Go.RowKit

set_option maxHeartbeats 400000 in
theorem rulesF (w0 : World) (nb N : Nat) (hN : N * 8 ≤ 140737488355328) : NodeFn 73 #[.pointer (some ⟨nb, 0, none⟩)] w0 (fun _ => true) N (GatherI rulesOf w0 nb) where
  below := fun h => h.1
  own := gather_own
  keep := gather_keep
  call := by
    intro s S W t v h hv hs
    obtain ⟨a, n, cap, rfl⟩ := treeBox hv
    have HI := Lib.hid h
    obtain ⟨h1, h2, u, h3, h4, h5, h6⟩ := h
    have H1 := Lib.hid h1
    have H3 := Lib.hid h3
    have H4 := Lib.hid h4
    have H5 := Lib.hid h5
    have H6 := Lib.hid h6
    have c0 := bx_cells1 h3
    have f0 := bx_free1 h3
    have hlt := (Array.getElem?_eq_some_iff.1 h3).1
    have hlen : (rulesOf s).length ≤ s.length := by simp [rulesOf]
    obtain ⟨au, cu, rfl, hu1, hu2⟩ := own_len h4
    unfold maxLen at hu2
    clear h1 h3 h4 h5 h6 hv
    have hb := (Below.refl W.heap.size W).alloc (Nat.le_refl _) (.cells #[.int .i64 t.rule, .int .i64 t.term, .slice a n cap] 42)
    have HB := Lib.hid hb
    clear hb
    obtain ⟨r, HR⟩ := nameIt t.rule
    obtain ⟨tm, HT⟩ := nameIt t.term
    rw [HR.out, HT.out] at HB
    rw [HR.out, HT.out]
    have HE : Hid (rulesOf (s ++ [t]) = rulesOf s ++ [r]) := by show _ = _; simp [rulesOf, HR.out]
    go_enter Try.func73, Try.ntmps73
    go_wp2_with (at_builtin; refine wp_app1at elInt rfl _ _ rfl (own_keep H4.out HB.out) rfl rfl (by simp) rfl rfl (by omega) (by unfold maxLen; omega) (by have := H1.out.size; simp; omega) ?_)
    intro v' w' ho hg hat
    obtain ⟨a', c', rfl, -, -⟩ := own_len ho
    have HST := Lib.hid (gather_step HE.out H1.out h2 H3.out H4.out H5.out H6.out HB.out ho hg (by simpa using hat))
    have hnb' : nb < w'.heap.size := by have := hg.size; simp at this; omega
    have h3 : w'.heap[nb]? = some (.cells #[.slice au (rulesOf s).length cu] 33 (0, 0)) := by
      rw [hg.block nb (by simp; omega) (fun e => H5.out e.symm)]; exact bx_keep H3.out HB.out
    have f1 := bx_free1 h3
    have f2 := bx_cells1 h3
    clear ho hg hat h3
    go_wp2
    go_ret
    obtain ⟨S', i1, i2, i3⟩ := HST.out
    exact ⟨S', rfl, i1, i2, i3⟩

set_option maxHeartbeats 400000 in
theorem rulesT (t : Tree) (v : Value) (w : World) (hv : Rd AnyB w (.sl (t.kids.map Tree.d)) [v]) (hN : (nodes t).length * 8 ≤ 140737488355328) :
    Calls Try.prog 47 #[.agg #[.int .i64 t.rule, .int .i64 t.term, v]] w (IntsPost (rulesOf (nodes t)) w) := by
  obtain ⟨a, n, cap, rfl⟩ := treeBox hv
  have hI : GatherI rulesOf w (w.heap.size + 1) [] (fun k => k = w.heap.size + 1 ∨ (Value.slice none 0 0).ownBlock = some k) ((w.alloc (.cells #[.int .i64 t.rule, .int .i64 t.term, .slice a n cap] 42)).alloc (.cells #[.slice none 0 0] 33)) :=
    ⟨((Below.refl _ _).alloc (Nat.le_refl _) _).alloc (by simp) _, by omega, _, bx_new _ _ _ (by simp), World.ownsRow_nil _ _ _ _, by simp [Value.ownBlock], fun _ => Iff.rfl⟩
  have hw := walkE 73 #[.pointer (some ⟨w.heap.size + 1, 0, none⟩)] w (fun _ => true) (nodes t).length _ (fun _ _ => by kernel_rfl) (rulesF w (w.heap.size + 1) (nodes t).length hN) (nodes t).length t _ [] _ _ (Nat.le_refl _) hI hv (by simp)
  have HW := Lib.hid hw
  clear hw hI hv hN
  go_enter Try.func47, Try.ntmps47
  go_wp2_with fail
  refine HW.out.mono ?_
  rintro e w1 ⟨S', rfl, ⟨h1, h2, u, h3, h4, h7, h8⟩, h5, h6⟩
  rw [upTo_all (by simp)] at h4
  simp only [List.nil_append] at h4
  have c0 := bx_cells1 h3
  have HB := Lib.hid h1
  have HS := Lib.hid (sl_of_own h4)
  obtain ⟨a', c', rfl, -, -⟩ := own_len h4
  clear h1 h2 h3 h4 h5 h6 h7 h8
  go_wp2
  go_ret
  exact ⟨_, rfl, HS.out, HB.out⟩
end Go.Proofs.Ytbnpemgmdnghgaa
namespace Go.Proofs.Ytbnpemgmdnghgaa
open Go.RowKit

end Go.Proofs.Ytbnpemgmdnghgaa
namespace Go.Proofs.Ytbnpemgmdnghgaa
open Go.RowKit
namespace TreeOrder

def treeCmp (a b : Tree) : Int := orL [cmp3 (rulesOf (nodes a)).length (rulesOf (nodes b)).length, cmpL (rulesOf (nodes a)) (rulesOf (nodes b)), cmpL (leavesOf (nodes a)) (leavesOf (nodes b))]

theorem cells6 {W w' : World} (hb : Below W.heap.size W w') {b1 b2 : Nat} {T : TypeId} {a0 a1 a2 c0 c1 c2 : Value} (h1 : W.heap[b1]? = some (.cells #[a0, a1, a2] T (0, 0))) (h2 : W.heap[b2]? = some (.cells #[c0, c1, c2] T (0, 0))) :
    w'.cell? ⟨b1, 0, none⟩ = some a0 ∧ w'.cell? ⟨b1, 0 + 1, none⟩ = some a1 ∧ w'.cell? ⟨b1, 0 + 2, none⟩ = some a2 ∧ w'.cell? ⟨b2, 0, none⟩ = some c0 ∧ w'.cell? ⟨b2, 0 + 1, none⟩ = some c1 ∧ w'.cell? ⟨b2, 0 + 2, none⟩ = some c2 := by
  obtain ⟨x1, x2, x3⟩ := bx_cells3 (bx_keep h1 hb)
  obtain ⟨x4, x5, x6⟩ := bx_cells3 (bx_keep h2 hb)
  exact ⟨x1, x2, x3, x4, x5, x6⟩

def RulesMid (w0 : World) (a b : Tree) (x y : Value) (wx : World) : Prop :=
  Sl wx x (ints (rulesOf (nodes a))) ∧ Sl wx y (ints (rulesOf (nodes b))) ∧ Below w0.heap.size w0 wx

set_option maxHeartbeats 2000000 in
set_option maxRecDepth 100000 in
theorem compareT (t : Tree) (v : Value) (s : Tree) (u : Value) (w : World) (hv : Rd AnyB w (.sl (t.kids.map Tree.d)) [v]) (hu : Rd AnyB w (.sl (s.kids.map Tree.d)) [u]) (hN : (nodes t).length ≤ 1099511627776) (hM : (nodes s).length ≤ 1099511627776) :
    Calls Try.prog 25 #[.agg #[.int .i64 t.rule, .int .i64 t.term, v], .agg #[.int .i64 s.rule, .int .i64 s.term, u]] w fun e w' => e = .returned (.int .i64 (treeCmp t s)) ∧ Below w.heap.size w w' := by
  obtain ⟨a, n, cap, rfl⟩ := treeBox hv
  obtain ⟨au, nu, capu, rfl⟩ := treeBox hu
  obtain ⟨w0, HW0⟩ := nameIt ((w.alloc (.cells #[.int .i64 t.rule, .int .i64 t.term, .slice a n cap] 42)).alloc (.cells #[.int .i64 s.rule, .int .i64 s.term, .slice au nu capu] 42))
  have HB : Hid (Below w.heap.size w w0) := by rw [← HW0.out]; exact ((Below.refl _ _).alloc (Nat.le_refl _) _).alloc (by simp) _
  have X1 : Hid (w0.heap[w.heap.size]? = some (.cells #[.int .i64 t.rule, .int .i64 t.term, .slice a n cap] 42 (0, 0))) := by
    rw [← HW0.out]; exact bx_keep (bx_new _ _ _ rfl) ((Below.refl _ _).alloc (Nat.le_refl _) _)
  have X2 : Hid (w0.heap[w.heap.size + 1]? = some (.cells #[.int .i64 s.rule, .int .i64 s.term, .slice au nu capu] 42 (0, 0))) := by
    rw [← HW0.out]; exact bx_new _ _ _ (by simp)
  have R1 := Lib.hid (fun W (hb : Below w0.heap.size w0 W) => rulesT t _ W ((hv.below HB.out).below hb) (by omega))
  have R2 := Lib.hid (fun W (hb : Below w0.heap.size w0 W) => rulesT s _ W ((hu.below HB.out).below hb) (by omega))
  have T1 := Lib.hid (fun W (hb : Below w0.heap.size w0 W) => wordT t _ W ((hv.below HB.out).below hb) (by omega))
  have T2 := Lib.hid (fun W (hb : Below w0.heap.size w0 W) => wordT s _ W ((hu.below HB.out).below hb) (by omega))
  obtain ⟨x0, x1, x2⟩ := bx_cells3 X1.out
  obtain ⟨y0, y1, y2⟩ := bx_cells3 X2.out
  clear hv hu
  go_enter Try.func25, Try.ntmps25
  go_wp2_with fail
  rw [HW0.out]
  go_upto_region 1 with fail
  go_cut [5, 6] (fun x y wx => Hid (RulesMid w0 t s x y wx))
  case first =>
    go_region_held3 (fun w' => w'.cell? ⟨w.heap.size, 0, none⟩ = some (.int .i64 t.rule) ∧ w'.cell? ⟨w.heap.size, 0 + 1, none⟩ = some (.int .i64 t.term) ∧ w'.cell? ⟨w.heap.size, 0 + 2, none⟩ = some (.slice a n cap) ∧ w'.cell? ⟨w.heap.size + 1, 0, none⟩ = some (.int .i64 s.rule) ∧ w'.cell? ⟨w.heap.size + 1, 0 + 1, none⟩ = some (.int .i64 s.term) ∧ w'.cell? ⟨w.heap.size + 1, 0 + 2, none⟩ = some (.slice au nu capu))
      (first | exact cells6 (Below.refl _ _).drew X1.out X2.out | exact cells6 HB2.out X1.out X2.out | exact cells6 HB1.out X1.out X2.out | fail)
      (first
        | (go_at_call 47; (with_reducible refine (R1.out _ (Below.refl _ _).drew).mono ?_); rintro e w1 ⟨v1, rfl, hr1, hb1⟩; have HR1 := Lib.hid hr1; have HB1 : Hid (Below w0.heap.size w0 w1) := (Below.refl _ _).drew.trans hb1; clear hr1 hb1)
        | (go_at_call 47; (with_reducible refine (R2.out _ HB1.out).mono ?_); rintro e w2 ⟨v2, rfl, hr2, hb2⟩; have HR2 := Lib.hid hr2; have HB2 : Hid (Below w0.heap.size w0 w2) := HB1.out.trans (hb2.mono HB1.out.size); have HR1' := Lib.hid (HR1.out.keep hb2); clear hr2 hb2)
        | fail)
    go_wp2_with fail
    go_meet
    exact ⟨HR1'.out, HR2.out, HB2.out⟩
  case rest =>
    clear x0 x1 x2 y0 y1 y2 R1 R2
    obtain ⟨hr1, hr2, hb2⟩ := hcut.out
    obtain ⟨a1, c1, rfl⟩ := hr1.form
    obtain ⟨a2, c2, rfl⟩ := hr2.form
    rw [ints_len, ints_len]
    rw [ints_len] at hr1 hr2
    obtain ⟨L1, HL1⟩ := nameIt (rulesOf (nodes t))
    obtain ⟨L2, HL2⟩ := nameIt (rulesOf (nodes s))
    obtain ⟨M1, HM1⟩ := nameIt (leavesOf (nodes t))
    obtain ⟨M2, HM2⟩ := nameIt (leavesOf (nodes s))
    rw [HL1.out] at hr1
    rw [HL2.out] at hr2
    rw [HM1.out] at T1
    rw [HM2.out] at T2
    rw [HL1.out, HL2.out]
    have hl1 := hr1.len.2
    have hl2 := hr2.len.2
    have HR1 := Lib.hid hr1
    have HR2 := Lib.hid hr2
    have HB2 := Lib.hid hb2
    obtain ⟨x0, x1, x2⟩ := bx_cells3 (bx_keep X1.out hb2)
    obtain ⟨y0, y1, y2⟩ := bx_cells3 (bx_keep X2.out hb2)
    unfold maxLen at hl1 hl2
    clear hr1 hr2 hb2 hcut
    obtain ⟨q1, HQ1⟩ := nameIt (cmp3 L1.length L2.length)
    obtain ⟨q2, HQ2⟩ := nameIt (cmpL L1 L2)
    obtain ⟨q3, HQ3⟩ := nameIt (cmpL M1 M2)
    have C1 := Lib.hid (fun W => compareInt L1.length L2.length W)
    have C2 := Lib.hid (fun W (hb : Below wc.heap.size wc W) => compareInts _ _ L1 L2 W (HR1.out.keep hb) (HR2.out.keep hb))
    rw [HQ1.out] at C1
    rw [HQ2.out] at C2
    go_upto_region 2 with fail
    go_region_held3 (fun w' => w'.cell? ⟨w.heap.size, 0, none⟩ = some (.int .i64 t.rule) ∧ w'.cell? ⟨w.heap.size, 0 + 1, none⟩ = some (.int .i64 t.term) ∧ w'.cell? ⟨w.heap.size, 0 + 2, none⟩ = some (.slice a n cap) ∧ w'.cell? ⟨w.heap.size + 1, 0, none⟩ = some (.int .i64 s.rule) ∧ w'.cell? ⟨w.heap.size + 1, 0 + 1, none⟩ = some (.int .i64 s.term) ∧ w'.cell? ⟨w.heap.size + 1, 0 + 2, none⟩ = some (.slice au nu capu))
      (first | exact cells6 HB2.out.drew X1.out X2.out | exact cells6 (HB4.out.alloc HB4.out.size _) X1.out X2.out | exact cells6 HB4.out X1.out X2.out | exact cells6 HB3.out X1.out X2.out | fail)
      (first
        | (go_at_call 49; (with_reducible refine (C1.out _).mono ?_); rintro e w' ⟨rfl, rfl⟩)
        | (go_at_call 50; (with_reducible refine (C2.out _ (Below.refl _ _).drew).mono ?_); rintro e w' ⟨rfl, rfl⟩)
        | (go_at_call 20; (with_reducible refine (T1.out _ HB2.out.drew).mono ?_); rintro e w3 ⟨v3, rfl, hs3, hb3⟩; have HB3 : Hid (Below w0.heap.size w0 w3) := HB2.out.drew.trans (hb3.mono HB2.out.size); have HS3 := Lib.hid hs3; clear hs3 hb3)
        | (go_at_call 20; (with_reducible refine (T2.out _ HB3.out).mono ?_); rintro e w4 ⟨v4, rfl, hs4, hb4⟩; have HB4 : Hid (Below w0.heap.size w0 w4) := HB3.out.trans (hb4.mono HB3.out.size); have HS4 := Lib.hid hs4; have HS3' := Lib.hid (HS3.out.keep hb4); clear hs4 hb4)
        | (go_at_call 50; (with_reducible refine (compareInts _ _ M1 M2 _ HS3'.out HS4.out).mono ?_); rintro e w' ⟨rfl, rfl⟩; rw [HQ3.out])
        | (go_at_call 48; (with_reducible refine (orInt _ [q1, q2, q3] _ (sl_lit (v := #[.int .i64 q1, .int .i64 q2, .int .i64 q3]) rfl (of_decide_eq_true rfl))).mono ?_); rintro e w' ⟨rfl, rfl⟩)
        | fail)
    go_wp2_with fail
    go_ret
    have hq : treeCmp t s = orL [q1, q2, q3] := by unfold treeCmp; rw [HL1.out, HL2.out, HM1.out, HM2.out, HQ1.out, HQ2.out, HQ3.out]
    have hB4 := HB.out.trans (HB4.out.mono HB.out.size)
    exact ⟨by rw [hq]; rfl, hB4.alloc hB4.size _⟩

theorem cmp_eq {t s : Tree} (h : (rulesOf (nodes t)).length = (rulesOf (nodes s)).length) : treeCmp t s = if cmpL (rulesOf (nodes t)) (rulesOf (nodes s)) = 0 then cmpL (leavesOf (nodes t)) (leavesOf (nodes s)) else cmpL (rulesOf (nodes t)) (rulesOf (nodes s)) := by
  unfold treeCmp
  rw [h, cmp3_self]
  simp only [orL]
  by_cases h1 : cmpL (rulesOf (nodes t)) (rulesOf (nodes s)) = 0
  · by_cases h2 : cmpL (leavesOf (nodes t)) (leavesOf (nodes s)) = 0 <;> simp [h1, h2]
  · simp [h1]

end TreeOrder
end Go.Proofs.Ytbnpemgmdnghgaa
namespace Go.Proofs.Ytbnpemgmdnghgaa
open Go.RowKit
namespace Cs

/-- what is listed is all there is -/
theorem listed_SE {g : Gram} {N n : Nat} {S : Nat → Nat → Bool} (hok : OkC g N) (hM : MK g.rules S N n g.start.toNat n = false) (hS : hasK S ⟨false, g.start⟩ n = true) {most deep : Nat} {L : List Tree} (h : lsT S most g.rules deep ⟨false, g.start⟩ n = some L) : L = SE g S N n ⟨false, g.start⟩ n := by
  have h1 := lsT_le (Nat.le_max_left deep (sizeK N n + 2)) h
  have h2 := lsT_en (fun r hr s hs ht => (hok.r r hr s hs ht).1) _ _ _ _ (fun _ => hok.s0) hS h1
  have hA : g.start.toNat < N := by have := hok.s0; have := hok.s1; omega
  have h3 := EN_all (ends_MM (rules := g.rules) (S := S) (N := N) (n := n) hok.r) hA (Nat.le_refl n) hM (max deep (sizeK N n + 2)) (Nat.le_max_right _ _)
  have he : ∀ e : Nat → Nat → List Tree, symE S e ⟨false, g.start⟩ n = e g.start.toNat n := by
    intro e
    unfold symE
    rw [if_neg (by rw [hS]; decide)]
    rfl
  rw [h2]
  unfold SE
  rw [he, he]
  exact h3
theorem start_has {g : Gram} {N n : Nat} {S : Nat → Nat → Bool} (h : 0 < (SE g S N n ⟨false, g.start⟩ n).length) : hasK S ⟨false, g.start⟩ n = true := by
  cases hh : hasK S ⟨false, g.start⟩ n with
  | true => rfl
  | false =>
    unfold SE symE at h
    rw [if_pos hh] at h
    simp at h
theorem okC_l4 {g : Gram} (h : checkG g = 0) : ∀ r ∈ g.rules, r.right.length ≤ 4 := by
  unfold checkG at h
  by_cases hb : badHead g = true
  · rw [if_pos hb] at h; cases h
  · rw [if_neg hb] at h
    by_cases hl : 32 < g.rules.length
    · rw [if_pos hl] at h; cases h
    · rw [if_neg hl] at h
      intro r hr
      exact (faultsFrom_zero h r hr).2.2.1
theorem se_nodes {g : Gram} {N n : Nat} {S : Nat → Nat → Bool} (hok : OkC g N) (hck : checkG g = 0) (hn : n ≤ 24) (hM : MK g.rules S N n g.start.toNat n = false) {t : Tree} (ht : t ∈ SE g S N n ⟨false, g.start⟩ n) : (nodes t).length ≤ 1099511627776 := by
  unfold SE symE at ht
  by_cases hh : hasK S ⟨false, g.start⟩ n = false
  · rw [if_pos hh] at ht; cases ht
  · rw [if_neg hh] at ht
    simp only [Bool.false_eq_true, if_false] at ht
    exact nodes_bound hok.n2 hok.r (okC_l4 hck) hn (by have := hok.s0; have := hok.s1; omega) (Nat.le_refl n) hM ht
theorem cmpL_refl : ∀ l : List Int, cmpL l l = 0
  | [] => by simp [cmpL]
  | x :: l => by simp [cmpL, cmp3_self, cmpL_refl l]
theorem treeCmp_refl (t : Tree) : TreeOrder.treeCmp t t = 0 := by rw [TreeOrder.cmp_eq rfl, cmpL_refl, if_pos rfl, cmpL_refl]
end Cs
end Go.Proofs.Ytbnpemgmdnghgaa
