/- The walk of lengthsOf. census.Total. rank.count and rank.Count. The contract of tree.Word. What rank.numberer.of meets: valid trees, the counter between calls. -/
import Derived.Test.YtbnpemgmdnghgaaJCensusTellsRow7
import Derived.IntWalk
import Derived.Deep.DeepCutAuto
import Derived.Deep.CutBlock
import Derived.Test.YtbnpemgmdnghgaaJCensusTellsRow12
import Derived.Test.YtbnpemgmdnghgaaJCensusTellsRow3
namespace Go.Proofs.Ytbnpemgmdnghgaa
open Go.RowKit
namespace Ln

def LenPost (g : Gram) (n : Nat) (w : World) (e : Ending) (w' : World) : Prop :=
  ∃ (bt : Nat) (rb : Nat → Nat) (C : Nat → Nat → Bool), e = .returned (.slice (some ⟨bt, 0, none⟩) g.nons.toNat g.nons.toNat) ∧ Grd 51 4 w.heap.size bt g.nons.toNat (n + 1) g.nons.toNat rb (fun i j => .bool (C i j)) w' ∧ (∀ a k, a < g.nons.toNat → k ≤ n → (C a k = true ↔ Has g.rules (a : Int) k)) ∧ Below w.heap.size w w'

set_option maxHeartbeats 8000000 in
set_option maxRecDepth 100000 in
theorem lengthsE (g : Gram) (hg : checkG g = 0) (n : Nat) (hn : n ≤ 400) (ar : Option Addr) (cr : Nat) (w : World) (hr : Rd AnyB w (.sl (g.rules.map Rule.d)) [.slice ar g.rules.length cr]) :
    Calls Try.prog 45 #[.agg #[.int .i64 g.terms, .int .i64 g.nons, .int .i64 g.start, .slice ar g.rules.length cr], .int .i64 n] w (LenPost g n w) := by
  obtain ⟨⟨hg1, hg2, hg3, hg4, hg5, hg6⟩, hg7, hg8⟩ := checkG_zero hg
  have HRU := Lib.hid hg8
  have hbs := hr.bounds.2
  unfold maxLen at hbs
  obtain ⟨hc1, hc2⟩ := hbs
  obtain ⟨w0, HW0⟩ := nameIt ((w.alloc (.cells #[.int .i64 g.terms, .int .i64 g.nons, .int .i64 g.start, .slice ar g.rules.length cr] 24)).alloc (.cells #[.int .i64 n] 3))
  have HB0 : Hid (Below w.heap.size w w0) := by rw [← HW0.out]; exact ((Below.refl _ _).alloc (Nat.le_refl _) _).alloc (by simp) _
  have X1 : Hid (w0.heap[w.heap.size]? = some (.cells #[.int .i64 g.terms, .int .i64 g.nons, .int .i64 g.start, .slice ar g.rules.length cr] 24 (0, 0))) := by rw [← HW0.out]; exact bx_keep (bx_new _ _ _ rfl) ((Below.refl _ _).alloc (Nat.le_refl _) _)
  have N1 : Hid (w0.heap[w.heap.size + 1]? = some (.cells #[.int .i64 n] 3 (0, 0))) := by rw [← HW0.out]; exact bx_new _ _ _ (by simp)
  have HZ0 : Hid (w0.heap.size = w.heap.size + 2) := by rw [← HW0.out]; exact Lib.hid (by simp)
  have HR := Lib.hid hr
  obtain ⟨N, HN⟩ : ∃ N : Nat, g.nons = (N : Int) := ⟨g.nons.toNat, by omega⟩
  have HNN := Lib.hid HN
  have HFIN : Hid (∀ (bt : Nat) (rb : Nat → Nat) (C : Nat → Nat → Bool) W, Grd 51 4 w.heap.size bt N (n + 1) N rb (fun i j => .bool (C i j)) W → (∀ a k, a < N → k ≤ n → (C a k = true ↔ Has g.rules (a : Int) k)) → Below w.heap.size w W → LenPost g n w (.returned (.slice (some ⟨bt, 0, none⟩) N N)) W) := by
    intro bt rb C W h1 h2 h3
    have e : g.nons.toNat = N := by rw [HN]; simp
    refine ⟨bt, rb, C, by rw [e], by rw [e]; exact h1, by rw [e]; exact h2, h3⟩
  have hN1 : 1 ≤ N := by omega
  have hN10 : N ≤ 10 := by omega
  have hgr := gridB N (n + 1) w0 ⟨by omega, by omega⟩ ⟨by omega, by omega⟩
  rw [show ((n + 1 : Nat) : Int) = (n : Int) + 1 by omega] at hgr
  have HGR := Lib.hid hgr
  have hmk : ∀ W : World, (Instr.makeMap 117 none).run Try.prog W = .ok (.map (some W.heap.size)) (W.alloc (.map #[] 0)) := fun W => by
    simp [Instr.makeMap, run_underlying Try.underlying117]; try rfl
  obtain ⟨gt, HGT⟩ := nameIt g.terms
  obtain ⟨gs, HGS⟩ := nameIt g.start
  obtain ⟨K, HK⟩ := nameIt g.rules
  rw [HGT.out, HN, HGS.out, HK.out] at X1 HW0
  rw [HK.out] at HR hc1 hg7 HRU HFIN
  rw [HGT.out, HN, HGS.out, HK.out]
  obtain ⟨x0, x1, x2, x3⟩ := bx_cells4 X1.out
  have n0 := bx_cells1 N1.out
  clear hr HN hg1 hg2 hg3 hg4 hg5 hg6 hg8 hgr
  go_enter Try.func45, Try.ntmps45
  go_upto_region 1 with fail
  rw [HW0.out]
  go_wp2_with fail
  refine HGR.out.mono ?_
  rintro e w2 ⟨bt, rb, rfl, hgrd, hb2⟩
  clear x0 x1 x2 x3 n0
  have HGD := Lib.hid hgrd
  have HB2 := Lib.hid hb2
  clear hgrd hb2
  obtain ⟨s, HS⟩ := nameIt w2.heap.size
  obtain ⟨w3, HW3⟩ := nameIt ((((w2.alloc (.map #[] 0)).alloc (.cells #[.map (some s)] 117)).alloc (.cells #[.slice none 0 0] 118)).alloc (.cells #[.slice none 0 0] 118))
  obtain ⟨G, HG⟩ : ∃ G : Array Value, Hid (G = #[.int .i64 gt, .int .i64 N, .int .i64 gs, .slice ar K.length cr]) := ⟨_, rfl⟩
  have HB3 : Hid (Below w2.heap.size w2 w3) := by rw [← HW3.out]; exact ((((Below.refl _ _).alloc (Nat.le_refl _) _).alloc (by simp) _).alloc (by simp; omega) _).alloc (by simp; omega) _
  have HM0 : Hid (MI w s n N G bt rb (fun _ => False) [] 0 [] 0 0 (fun _ _ => false) w3) := by
    have hz := HZ0.out
    have h1 := HGD.out
    rw [hz] at h1
    refine ⟨AI.start HS.out.symm (bx_keep N1.out HB2.out) HW3.out, h1.keep HB3.out, ⟨by rw [← HS.out]; exact h1.lt, fun i hi => by rw [← HS.out]; exact h1.rlt hi hi⟩, ?_, ?_⟩
    · rw [HG.out]; exact bx_keep (bx_keep X1.out HB2.out) HB3.out
    · have h2 : Below w.heap.size w w2 := HB0.out.trans (HB2.out.mono HB0.out.size)
      exact h2.trans (HB3.out.mono h2.size)
  have HGR0 : Hid (Grow K n [] []) := ⟨List.prefix_refl _, List.nodup_nil, by simp⟩
  have HRT4 : Hid (∀ i, (rt K i).length ≤ 4) := by
    intro i
    by_cases h : i < K.length
    · rw [rt_eq h]; exact (HRU.out _ (List.getElem_mem h)).2.2.1
    · simp [rt, List.getElem?_eq_none (Nat.le_of_not_lt h)]
  have hbx := HM0.out.gbox
  rw [HG.out] at hbx
  obtain ⟨x0, x1, x2, x3⟩ := bx_cells4 hbx
  clear hbx
  go_upto_region 5 with fail
  rw [HS.out, HW3.out]
  go_wp2_with fail
  clear x0 x1 x2 x3 hmk
  go_loopg [29] K.length (fun gg v29 wr => ∃ (j : Nat) (L : List (Nat × Nat × Nat)), j ≤ K.length ∧ K.length - j ≤ gg ∧ v29 = .int .i64 j ∧ Hid (MI w s n N G bt rb (fun _ => False) L 0 [] 0 0 (fun _ _ => false) wr) ∧ Hid (Grow K n [] L) ∧ Hid (∀ i, i < j → (i, 0, 0) ∈ L))
  case atStart => exact ⟨0, [], by omega, by omega, rfl, HM0, HGR0, fun i h => by omega⟩
  case round =>
    clear HM0 HGR0
    obtain ⟨j, L, hj, hgj, rfl, HM, HGW, HIN⟩ := hrel
    by_cases hjK : j < K.length
    · have hjK' : (j : Int) < (K.length : Int) := by omega
      have hcall : Calls Try.prog 70 #[.agg #[.int .i64 (j : Int), .int .i64 0, .int .i64 0], .pointer (some ⟨w.heap.size + 1, 0, none⟩), .pointer (some ⟨s + 1, 0, none⟩), .pointer (some ⟨s + 2, 0, none⟩), .pointer (some ⟨s + 3, 0, none⟩)] wr _ :=
        addE wr (w.heap.size + 1) s n (fun _ => False) L 0 [] 0 0 j 0 0 wr HM.out.ai ⟨by show j ≤ 1000; omega, by show 0 ≤ 1000; omega, by show 0 ≤ 1000; omega⟩ hn (by have := HGW.out.len hg7 HRT4.out hn; omega)
      have HC := Lib.hid hcall
      clear hcall
      go_wp2_with fail
      (with_reducible refine HC.out.mono ?_)
      rintro e w4 ⟨rfl, hai⟩
      have HM1 := Lib.hid (HM.out.call hai)
      have HG1 := Lib.hid (HGW.out.add (x := (j, 0, 0)) (.start hjK))
      have HI1 : Hid (∀ i, i < j + 1 → (i, 0, 0) ∈ addL n L (j, 0, 0)) := by
        intro i hi
        by_cases e : i = j
        · subst e; exact mem_addL (Nat.zero_le _)
        · exact mem_addL_old (HIN.out i (by omega))
      clear hai
      go_wp2_with fail
      go_roundg (K.length - (j + 1))
      case measure => omega
      case rel => exact ⟨j + 1, _, by omega, by omega, by go_num, HM1, HG1, HI1⟩
    · have hjK' : ¬ (j : Int) < (K.length : Int) := by omega
      have HIT0 : Hid (Items K n L 0 (fun _ _ => false)) := Items.start' HGW.out (fun i hi => HIN.out i (by omega))
      clear HIN HGW
      obtain ⟨wl, rfl⟩ : ∃ wl : World, wl = wr := ⟨_, rfl⟩
      go_wp2_with fail
      go_loopg [] 64161 (fun gg wr => ∃ (p : Nat) (L : List (Nat × Nat × Nat)) (C : Nat → Nat → Bool), p ≤ L.length ∧ 64160 - p ≤ gg ∧ Hid (MI w s n N G bt rb (fun _ => False) L p [] 0 0 C wr) ∧ Hid (Items K n L p C))
      case atStart => exact ⟨0, L, _, by omega, by omega, HM, HIT0⟩
      case round =>
        clear HM HIT0 L
        obtain ⟨wo, rfl⟩ : ∃ wo : World, wo = wr := ⟨_, rfl⟩
        obtain ⟨p, L, C, hp, hgp, HM, HIT⟩ := hrel
        have hLlen : L.length ≤ 64160 := (Grow.refl HIT.out.nodup HIT.out.sound).len hg7 HRT4.out hn
        by_cases hpl : p < L.length
        · obtain ⟨⟨i, d, l⟩, HXX⟩ := nameIt (L[p]'hpl)
          have hit := HIT.out.sound _ (List.getElem_mem hpl)
          rw [HXX.out] at hit
          obtain ⟨hit1, hit2⟩ := hit
          simp only at hit1 hit2
          have HITX := Lib.hid hit1
          have hiK : i < K.length := hit1.lt
          have hdR : d ≤ (rt K i).length := hit1.dot
          clear hit1
          obtain ⟨ib, HIB⟩ := nameIt wo.heap.size
          obtain ⟨g, off, cap, hq3, hq4, hq5, hgs, hgw, e0, e1, e2, hpop⟩ := HM.out.ai.first (X' := fun k => k = ib) hpl HXX.out
          simp only at e0 e1 e2
          obtain ⟨nq, HNQ⟩ := nameIt (L.length - p)
          have hnq : 1 ≤ nq := by have := HNQ.out; omega
          have hnq' : (0 : Int) < (nq : Int) := by omega
          rw [HNQ.out] at hq3 hq4 hpop
          unfold maxLen at hq5
          obtain ⟨w4, HW4⟩ := nameIt (wo.alloc (.cells #[.int .i64 i, .int .i64 d, .int .i64 l] 120))
          have hb4 : Below wo.heap.size wo w4 := by rw [← HW4.out]; exact (Below.refl _ _).alloc (Nat.le_refl _) _
          have I4 : Hid (w4.heap[ib]? = some (.cells #[.int .i64 i, .int .i64 d, .int .i64 l] 120 (0, 0))) := by rw [← HW4.out]; exact bx_new _ _ _ HIB.out.symm
          have hs4 : w4.heap.size = wo.heap.size + 1 := by rw [← HW4.out]; simp
          have hpop4 := hpop w4 hb4 (fun k hk => .inr (by have := HIB.out; omega))
          obtain ⟨v5, HV5⟩ := nameIt (Value.slice (if cap = 1 then some (⟨g, off, none⟩ : Addr) else some ⟨g, off + 3, none⟩) (nq - 1) (cap - 1))
          rw [HV5.out] at hpop4
          have HMP0 := Lib.hid (HM.out.pop hb4 hpop4)
          have hz4 : s + 4 ≤ wo.heap.size := HM.out.ai.le
          have HIBS : Hid (s + 4 ≤ ib) := by have := HIB.out; exact Lib.hid (by omega)
          have c3 := bx_cells1 hq3
          have c4 := bx_cells1 (bx_keep hq3 hb4)
          have f4 := bx_free1 (bx_keep hq3 hb4)
          clear hpop hpop4 hs4
          go_upto_region 12 with fail
          rw [HW4.out]
          go_cut [] (fun wx => wx = w4.setCell ⟨s + 3, 0, none⟩ v5)
          case first =>
            by_cases hc1 : cap = 1
            · have HV6 := HV5.out
              rw [if_pos hc1] at HV6
              subst hc1
              rw [show nq - 1 = 0 by omega] at HV6
              have HV7 := Lib.hid HV6
              clear HV6
              go_wp2_with fail
              go_meet
              rw [← HV7.out]
            · have HV6 := HV5.out
              rw [if_neg hc1] at HV6
              have HV7 := Lib.hid HV6
              clear HV6
              go_wp2_with fail
              go_meet
              rw [← HV7.out]
          case rest =>
            have I5 : Hid (wc.heap[ib]? = some (.cells #[.int .i64 i, .int .i64 d, .int .i64 l] 120 (0, 0))) := by
              show _ = _
              rw [hcut]
              exact bx_other I4.out (by have := HIBS.out; omega) _ _
            have HMP : Hid (MI w s n N G bt rb (fun k => k = ib) L (p + 1) [] 0 0 C wc) := by rw [hcut]; exact HMP0.out
            obtain ⟨w5, rfl⟩ : ∃ ww : World, ww = wc := ⟨_, rfl⟩
            clear hcut HMP0 I4 HV5 hb4 HW4 e0 e1 e2 c3 c4 f4 hq3 hq4
            obtain ⟨b, ro, vr, hae, -, hbl0, d0, d1, hkr⟩ := HR.out.rule_at hiK
            have c0 := (HMP.out.bel.cell (p := ⟨b, ro + i * 2, none⟩) (lt_of_cell d0)).trans d0
            have c1 := (HMP.out.bel.cell (p := ⟨b, ro + i * 2 + 1, none⟩) (lt_of_cell d1)).trans d1
            obtain ⟨av, cv, rfl, -, hcv⟩ := hkr.form
            rw [List.length_map] at c1 hkr
            obtain ⟨hl0, hl1, hl2, hl3⟩ := HRU.out K[i] (List.getElem_mem hiK)
            have HRTX := Lib.hid (rt_eq hiK)
            have HLTX := Lib.hid (lft_eq hiK)
            obtain ⟨r, HRn⟩ := nameIt (K[i]'hiK)
            rw [HRn.out] at c0 c1 hkr hl0 hl1 hl2 hl3 HRTX HLTX
            obtain ⟨lf0, HLF⟩ := nameIt r.left
            obtain ⟨R, HRR⟩ := nameIt r.right
            rw [HLF.out] at c0 hl0 hl1 HLTX
            rw [HRR.out] at c1 hkr hl2 hl3 HRTX
            rw [HNN.out] at hl1
            rw [HRTX.out] at hdR
            have HL3 := Lib.hid hl3
            obtain ⟨lf, hlf⟩ : ∃ n : Nat, lf0 = (n : Int) := ⟨lf0.toNat, by omega⟩
            subst hlf
            have hlfN : lf < N := by omega
            have HKR := Lib.hid (hkr.below HMP.out.bel)
            obtain ⟨rx, HRX⟩ := nameIt w5.heap.size
            have HRXS : Hid (s + 4 ≤ rx ∧ ib < rx) := by
              have h1 := HMP.out.ai.le
              have h2 := (Array.getElem?_eq_some_iff.1 I5.out).1
              rw [HRX.out] at h1 h2
              exact ⟨h1, h2⟩
            obtain ⟨w6, HW6⟩ := nameIt (w5.alloc (.cells #[.int .i64 lf, .slice av R.length cv] 48))
            have hb6 : Below w5.heap.size w5 w6 := by rw [← HW6.out]; exact (Below.refl _ _).alloc (Nat.le_refl _) _
            have hs6 : w6.heap.size = w5.heap.size + 1 := by rw [← HW6.out]; simp
            have R6 : Hid (w6.heap[rx]? = some (.cells #[.int .i64 lf, .slice av R.length cv] 48 (0, 0))) := by rw [← HW6.out]; exact bx_new _ _ _ HRX.out.symm
            have I6 := Lib.hid (bx_keep I5.out hb6)
            have HM6 : Hid (MI w s n N G bt rb (fun k => k = ib ∨ k = rx) L (p + 1) [] 0 0 C w6) := HMP.out.keep hb6 (fun k hk => hk.imp id (fun e => by have := HRX.out; omega))
            have hbx := HMP.out.gbox
            rw [HG.out] at hbx
            obtain ⟨x0, x1, x2, x3⟩ := bx_cells4 hbx
            obtain ⟨y0, y1, y2⟩ := bx_cells3 I5.out
            have hiK' : (i : Int) < (K.length : Int) := by omega
            have hi0 : (0 : Int) ≤ (i : Int) := by omega
            rw [HIB.out]
            subst hae
            clear hbx hb6 hs6 d0 d1 hkr hl3
            go_upto_region 14 with fail
            rw [HW6.out, HRX.out]
            clear c0 c1 x0 x1 x2 x3 y0 y1 y2
            obtain ⟨y0, y1, y2⟩ := bx_cells3 I6.out
            obtain ⟨z0, z1⟩ := bx_cells2 R6.out
            by_cases hdl : d = R.length
            · have hdl' : ((d : Int) == (R.length : Int)) = true := by simp; omega
              have h0 := HM6.out.can.hdr hlfN hlfN
              have h1 := HM6.out.can.cell hlfN hlfN (j := l) (by omega)
              obtain ⟨rl, HRL⟩ := nameIt (rb lf)
              rw [HRL.out] at h0 h1
              obtain ⟨cb, HCB⟩ := nameIt (C lf l)
              rw [HCB.out] at h1
              have hlf0 : (0 : Int) ≤ (lf : Int) := by omega
              have hlf1 : (lf : Int) < (N : Int) := by omega
              have hll0 : (0 : Int) ≤ (l : Int) := by omega
              have hll1 : (l : Int) < (n : Int) + 1 := by omega
              go_wp2_with fail
              go_quiet (fail)
              cases cb with
              | true =>
                have HITN : Hid (Items K n L (p + 1) C) := HIT.out.full_old hpl HXX.out (by rw [HRTX.out]; exact hdl) (by rw [HLTX.out]; simpa using HCB.out)
                have HMN : Hid (MI w s n N G bt rb (fun _ => False) L (p + 1) [] 0 0 C (w6.drewN nq)) := HM6.out.keep (below_drewN _ _) (fun k hk => hk.elim)
                go_wp2_with fail
                go_roundg (64160 - (p + 1))
                case measure => omega
                case rel => exact ⟨p + 1, L, C, hpl, by omega, HMN, HITN⟩
              | false =>
                go_upto_region 16 with fail
                obtain ⟨w7, HW7⟩ := nameIt (w6.drewN nq)
                have hb7 : Below w6.heap.size w6 w7 := by rw [← HW7.out]; exact below_drewN _ _
                rw [HW7.out]
                have HM7 := Lib.hid (HM6.out.keep (X' := fun k => k = ib ∨ k = rx) hb7 (fun k hk => .inl hk))
                have I7 := Lib.hid (bx_keep I6.out hb7)
                have R7 := Lib.hid (bx_keep R6.out hb7)
                clear h0 h1 y0 y1 y2 z0 z1
                obtain ⟨y0, y1, y2⟩ := bx_cells3 I7.out
                obtain ⟨z0, z1⟩ := bx_cells2 R7.out
                have h0 := HM7.out.can.hdr hlfN hlfN
                have h1 := HM7.out.can.cell hlfN hlfN (j := l) (by omega)
                have f1 := HM7.out.can.free hlfN hlfN l
                rw [HRL.out] at h0 h1 f1
                obtain ⟨C', HC'⟩ : ∃ C' : Nat → Nat → Bool, Hid (∀ a b, C' a b = if a = lf ∧ b = l then true else C a b) := ⟨fun a b => if a = lf ∧ b = l then true else C a b, fun _ _ => rfl⟩
                have hdr7 : ∀ W : World, Below W.heap.size W W.drew := fun W => (Below.refl _ _).drew
                have HM8 : Hid (MI w s n N G bt rb (fun k => k = ib ∨ k = rx) L (p + 1) [] 0 0 C' (w7.setCell ⟨rl, l, none⟩ (.bool true)).drew) := by
                  have h := (HM7.out.set hlfN (j := l) (by omega) (fun a b _ _ => HC'.out a b)).keep (X' := fun k => k = ib ∨ k = rx) (hdr7 _) (fun k hk => .inl hk)
                  rw [HRL.out] at h
                  exact h
                have hrls : rl < s := by rw [← HRL.out]; exact HM7.out.lim.2 lf hlfN
                have I8 : Hid ((w7.setCell ⟨rl, l, none⟩ (.bool true)).drew.heap[ib]? = some (.cells #[.int .i64 i, .int .i64 d, .int .i64 l] 120 (0, 0))) := bx_keep (bx_other I7.out (by have := HIBS.out; omega) _ _) (hdr7 _)
                have R8 : Hid ((w7.setCell ⟨rl, l, none⟩ (.bool true)).drew.heap[rx]? = some (.cells #[.int .i64 lf, .slice av R.length cv] 48 (0, 0))) := bx_keep (bx_other R7.out (by have := HRXS.out; omega) _ _) (hdr7 _)
                obtain ⟨w8, HW8⟩ := nameIt (w7.setCell ⟨rl, l, none⟩ (.bool true)).drew
                rw [HW8.out] at HM8 I8 R8
                obtain ⟨ga, oa, ca, hall, hca1, hca2, hsn⟩ := HM8.out.snap (by omega)
                unfold maxLen at hca2
                have HM9 := Lib.hid hsn
                have k2 := bx_cells1 hall
                have HLF : Hid (lft K i = (lf : Int)) := HLTX
                have HPOS : Hid (∀ i, i < K.length → ∀ s ∈ rt K i, s.term = false → 0 ≤ s.n) := by
                  intro i hi s hs ht
                  rw [rt_eq hi] at hs
                  have h := (HRU.out K[i] (List.getElem_mem hi)).2.2.2 s hs
                  unfold hasS at h
                  simp at h; exact h.1
                have HG0 : Hid (Grow K n L L) := Grow.refl HIT.out.nodup HIT.out.sound
                have HIN0 : Hid (∀ y ∈ L.take 0, ∀ s, (rt K y.1)[y.2.1]? = some s → s.term = false → s.n = (lf : Int) → y.2.2 + l ≤ n → (y.1, y.2.1 + 1, y.2.2 + l) ∈ L) := fun y hy => by simp at hy
                clear hall hsn hb7
                refine wp_region_still_tail 8 (by kernel_rfl) (by kernel_rfl) ?_
                simp only [List.take_succ_cons, List.take_zero, List.drop_succ_cons, List.drop_zero]
                change wpStill _ _ (World.drew _) _ _ _
                repeat still_step
                refine wpStill_nil ?_
                change wpList _ _ _ _ _ (World.drew _)
                go_upto_region 17 with fail
                rw [HW8.out]
                clear h0 h1 f1 y0 y1 y2 z0 z1 hdr7
                go_wp2_with fail
                go_loopg [77] L.length (fun gg v77 wr => ∃ (q : Nat) (L' : List (Nat × Nat × Nat)), q ≤ L.length ∧ L.length - q ≤ gg ∧ v77 = .int .i64 q ∧ Hid (MI w s n N G bt rb (fun k => k = ib ∨ k = rx) L' (p + 1) L ga oa C' wr) ∧ Hid (Grow K n L L') ∧ Hid (∀ y ∈ L.take q, ∀ s, (rt K y.1)[y.2.1]? = some s → s.term = false → s.n = (lf : Int) → y.2.2 + l ≤ n → (y.1, y.2.1 + 1, y.2.2 + l) ∈ L') ∧ Hid (wr.heap[ib]? = some (.cells #[.int .i64 i, .int .i64 d, .int .i64 l] 120 (0, 0))) ∧ Hid (wr.heap[rx]? = some (.cells #[.int .i64 lf, .slice av R.length cv] 48 (0, 0))))
                case atStart => exact ⟨0, L, by omega, by omega, rfl, HM9, HG0, HIN0, I8, R8⟩
                case round =>
                  clear HM9 HG0 HIN0 I8 R8 HM8
                  obtain ⟨wi, rfl⟩ : ∃ wi : World, wi = wr := ⟨_, rfl⟩
                  obtain ⟨q, L', hq, hgq, rfl, HMI, HGI, HIN, II, RI⟩ := hrel
                  by_cases hqL : q < L.length
                  · have hqL' : (q : Int) < (L.length : Int) := by omega
                    have hq0 : (0 : Int) ≤ (q : Int) := by omega
                    obtain ⟨⟨yi, yd, yl⟩, HYY⟩ := nameIt (L[q]'hqL)
                    obtain ⟨e0, e1, e2⟩ := HMI.out.read hqL HYY.out
                    have hyt := HIT.out.sound _ (List.getElem_mem hqL)
                    rw [HYY.out] at hyt
                    obtain ⟨hyt1, hyt2⟩ := hyt
                    simp only at hyt1 hyt2 e0 e1 e2
                    have HYT := Lib.hid hyt1
                    have hyK : yi < K.length := hyt1.lt
                    have hydR : yd ≤ (rt K yi).length := hyt1.dot
                    have HTKQ : Hid (∀ y ∈ L.take (q + 1), y ∈ L.take q ∨ y = (yi, yd, yl)) := by
                      intro y hy
                      rw [List.take_succ_eq_append_getElem hqL, HYY.out] at hy
                      simpa using hy
                    clear hyt1
                    obtain ⟨bq, rq, vrq, haq, -, hblq, g0, g1, hkq⟩ := HR.out.rule_at hyK
                    cases haq
                    have g2 := (HMI.out.bel.cell (p := ⟨b, ro + yi * 2 + 1, none⟩) (lt_of_cell g1)).trans g1
                    obtain ⟨aq, cq, rfl, -, hcq⟩ := hkq.form
                    rw [List.length_map] at g2 hkq
                    have hsq := (HRU.out K[yi] (List.getElem_mem hyK)).2.2.2
                    have hq4 := (HRU.out K[yi] (List.getElem_mem hyK)).2.2.1
                    have HRTY := Lib.hid (rt_eq hyK)
                    obtain ⟨Rq, HRQ⟩ := nameIt (K[yi]'hyK).right
                    rw [HRQ.out] at g2 hkq hsq hq4 HRTY
                    rw [HRTY.out] at hydR
                    have HSQ := Lib.hid hsq
                    obtain ⟨yb, HYB⟩ := nameIt wi.heap.size
                    obtain ⟨w9, HW9⟩ := nameIt (wi.alloc (.cells #[.int .i64 yi, .int .i64 yd, .int .i64 yl] 120))
                    have hb9 : Below wi.heap.size wi w9 := by rw [← HW9.out]; exact (Below.refl _ _).alloc (Nat.le_refl _) _
                    have Y9 : Hid (w9.heap[yb]? = some (.cells #[.int .i64 yi, .int .i64 yd, .int .i64 yl] 120 (0, 0))) := by rw [← HW9.out]; exact bx_new _ _ _ HYB.out.symm
                    have HM9 := Lib.hid (HMI.out.keep (X' := fun k => k = ib ∨ k = rx) hb9 (fun k hk => .inl hk))
                    have I9 := Lib.hid (bx_keep II.out hb9)
                    have R9 := Lib.hid (bx_keep RI.out hb9)
                    have HKQ := Lib.hid (hkq.below HM9.out.bel)
                    have g3 := (hb9.cell (p := ⟨b, ro + yi * 2 + 1, none⟩) (lt_of_cell g2)).trans g2
                    have hbx := HM9.out.gbox
                    rw [HG.out] at hbx
                    obtain ⟨x0, x1, x2, x3⟩ := bx_cells4 hbx
                    obtain ⟨y0, y1, y2⟩ := bx_cells3 Y9.out
                    obtain ⟨z0, z1⟩ := bx_cells2 R9.out
                    obtain ⟨i0, i1, i2⟩ := bx_cells3 I9.out
                    have hyK' : (yi : Int) < (K.length : Int) := by omega
                    have hy0 : (0 : Int) ≤ (yi : Int) := by omega
                    have HNXT : Hid (∀ (L2 : List (Nat × Nat × Nat)), (∀ x ∈ L', x ∈ L2) → ((∀ s, Rq[yd]? = some s → s.term = false → s.n = (lf : Int) → yl + l ≤ n → (yi, yd + 1, yl + l) ∈ L2)) → ∀ y ∈ L.take (q + 1), ∀ s, (rt K y.1)[y.2.1]? = some s → s.term = false → s.n = (lf : Int) → y.2.2 + l ≤ n → (y.1, y.2.1 + 1, y.2.2 + l) ∈ L2) := by
                      intro L2 h1 h2 y hy s hs ht hn hl
                      rcases HTKQ.out y hy with hy | rfl
                      · exact h1 _ (HIN.out y hy s hs ht hn hl)
                      · rw [show rt K (yi, yd, yl).1 = Rq from HRTY.out] at hs
                        exact h2 s hs ht hn hl
                    clear hb9 g0 g1 g2 hkq hsq hbx
                    go_upto_region 20 with fail
                    rw [HW9.out, HYB.out]
                    clear e0 e1 e2
                    go_upto_region 21 with fail
                    clear x0 x1 x2 x3 g3
                    by_cases hyl : yd < Rq.length
                    · have hyl' : decide (yd < Rq.length) = true := by simpa using hyl
                      have hyl2 : (yd : Int) < (Rq.length : Int) := by omega
                      have hyd0 : (0 : Int) ≤ (yd : Int) := by omega
                      obtain ⟨b', off', hae', -, hbl', d0, d1⟩ := HKQ.out.sym_at hyl
                      have HSD : Hid (Rq[yd]? = some (Rq[yd]'hyl)) := List.getElem?_eq_getElem hyl
                      have hsb := HSQ.out Rq[yd] (List.getElem_mem hyl)
                      obtain ⟨sy, HSY⟩ := nameIt (Rq[yd]'hyl)
                      rw [HSY.out] at d0 d1 HSD hsb
                      obtain ⟨st, HST⟩ := nameIt sy.term
                      obtain ⟨sn, HSN⟩ := nameIt sy.n
                      rw [HST.out] at d0
                      rw [HSN.out] at d1
                      subst hae'
                      by_cases hok : st = false ∧ sn = (lf : Int)
                      · obtain ⟨rfl, rfl⟩ := hok
                        have hlb : ((lf : Int) == (lf : Int)) = true := by simp
                        have hbd1 : (yd : Int) ≤ 4 := by omega
                        have hbd2 : (yl : Int) ≤ 400 := by omega
                        have hbd3 : (l : Int) ≤ 400 := by omega
                        have hbd4 : (0 : Int) ≤ (yl : Int) := by omega
                        have hbd5 : (0 : Int) ≤ (l : Int) := by omega
                        have hsw1 : IntKind.i64.wrap ((yd : Int) + 1) = (yd : Int) + 1 := IntWalk.i64_in _ (by omega)
                        have hsw2 : IntKind.i64.wrap ((yl : Int) + (l : Int)) = (yl : Int) + (l : Int) := IntWalk.i64_in _ (by omega)
                        have HSW1 := Lib.hid hsw1
                        have HSW2 := Lib.hid hsw2
                        clear hsw1 hsw2
                        go_quiet (fail)
                        obtain ⟨wz, HWZ⟩ := nameIt (w9.drewN nq)
                        rw [HWZ.out]
                        have hbz : Below w9.heap.size w9 wz := by rw [← HWZ.out]; exact below_drewN _ _
                        have HMZ := Lib.hid (HM9.out.keep (X' := fun k => k = ib ∨ k = rx) hbz (fun k hk => .inl hk))
                        have IZ := Lib.hid (bx_keep I9.out hbz)
                        have RZ := Lib.hid (bx_keep R9.out hbz)
                        have YZ := Lib.hid (bx_keep Y9.out hbz)
                        have hcall := addMI HMZ.out (i := yi) (d := yd + 1) (l := yl + l) (d' := (yd : Int) + 1) (l' := (yl : Int) + (l : Int)) (by omega) (by omega) (by omega) (by omega) (by omega) hn (by have := HGI.out.len hg7 HRT4.out hn; omega)
                        have HC := Lib.hid hcall
                        clear hcall hbz y0 y1 y2 z0 z1 i0 i1 i2 d0 d1
                        obtain ⟨y0, y1, y2⟩ := bx_cells3 YZ.out
                        obtain ⟨i0, i1, i2⟩ := bx_cells3 IZ.out
                        go_wp2_with fail
                        (with_reducible refine HC.out.mono ?_)
                        rintro e wa ⟨rfl, hai⟩
                        have HMA := Lib.hid (HMZ.out.call hai)
                        have IA : Hid (wa.heap[ib]? = some (.cells #[.int .i64 i, .int .i64 d, .int .i64 l] 120 (0, 0))) := (hai.px ib (.inl rfl)).2.trans IZ.out
                        have RA : Hid (wa.heap[rx]? = some (.cells #[.int .i64 lf, .slice av R.length cv] 48 (0, 0))) := (hai.px rx (.inr rfl)).2.trans RZ.out
                        have HGA := Lib.hid (HGI.out.add (x := (yi, yd + 1, yl + l)) (.non HYT.out (by rw [HRTY.out]; exact HSD.out) HST.out (by have h := HITX.out; rw [hdl, ← HRTX.out] at h; exact h) (by rw [HLF.out, HSN.out])))
                        have HIA := Lib.hid (HNXT.out (addL n L' (yi, yd + 1, yl + l)) (fun x hx => mem_addL_old hx) (fun s _ _ _ hl => mem_addL hl))
                        clear hai
                        go_wp2_with fail
                        go_roundg (L.length - (q + 1))
                        case measure => omega
                        case rel => exact ⟨q + 1, _, by omega, by omega, by go_num, HMA, HGA, HIA, IA, RA⟩
                      · have HIA : Hid (∀ y ∈ L.take (q + 1), ∀ s, (rt K y.1)[y.2.1]? = some s → s.term = false → s.n = (lf : Int) → y.2.2 + l ≤ n → (y.1, y.2.1 + 1, y.2.2 + l) ∈ L') := HNXT.out L' (fun x hx => hx) (fun s hs ht hn' _ => absurd ⟨by rw [← HST.out, ← ht]; rw [HSD.out] at hs; cases hs; rfl, by rw [← HSN.out, ← hn']; rw [HSD.out] at hs; cases hs; rfl⟩ hok)
                        cases st with
                        | true =>
                          clear hok
                          go_quiet (fail)
                          have HMA := Lib.hid (HM9.out.keep (X' := fun k => k = ib ∨ k = rx) (below_drewN w9 nq) (fun k hk => .inl hk))
                          have IA := Lib.hid (bx_keep I9.out (below_drewN w9 nq))
                          have RA := Lib.hid (bx_keep R9.out (below_drewN w9 nq))
                          go_wp2_with fail
                          go_roundg (L.length - (q + 1))
                          case measure => omega
                          case rel => exact ⟨q + 1, L', by omega, by omega, by go_num, HMA, HGI, HIA, IA, RA⟩
                        | false =>
                          have hlb : (sn == (lf : Int)) = false := by simpa using hok
                          clear hok
                          go_quiet (fail)
                          have HMA := Lib.hid (HM9.out.keep (X' := fun k => k = ib ∨ k = rx) (below_drewN w9 nq) (fun k hk => .inl hk))
                          have IA := Lib.hid (bx_keep I9.out (below_drewN w9 nq))
                          have RA := Lib.hid (bx_keep R9.out (below_drewN w9 nq))
                          go_wp2_with fail
                          go_roundg (L.length - (q + 1))
                          case measure => omega
                          case rel => exact ⟨q + 1, L', by omega, by omega, by go_num, HMA, HGI, HIA, IA, RA⟩
                    · have hyl' : decide (yd < Rq.length) = false := by simpa using hyl
                      have HIA : Hid (∀ y ∈ L.take (q + 1), ∀ s, (rt K y.1)[y.2.1]? = some s → s.term = false → s.n = (lf : Int) → y.2.2 + l ≤ n → (y.1, y.2.1 + 1, y.2.2 + l) ∈ L') := HNXT.out L' (fun x hx => hx) (fun s hs _ _ _ => absurd (List.getElem?_eq_some_iff.1 hs).1 hyl)
                      go_quiet (fail)
                      have HMA := Lib.hid (HM9.out.keep (X' := fun k => k = ib ∨ k = rx) (below_drewN w9 nq) (fun k hk => .inl hk))
                      have IA := Lib.hid (bx_keep I9.out (below_drewN w9 nq))
                      have RA := Lib.hid (bx_keep R9.out (below_drewN w9 nq))
                      go_wp2_with fail
                      go_roundg (L.length - (q + 1))
                      case measure => omega
                      case rel => exact ⟨q + 1, L', by omega, by omega, by go_num, HMA, HGI, HIA, IA, RA⟩
                  · have hqL' : ¬ (q : Int) < (L.length : Int) := by omega
                    have HITN : Hid (Items K n L' (p + 1) C') := HIT.out.full_new hpl HXX.out (by rw [HRTX.out]; exact hdl) (by rw [HLF.out]; omega) HPOS.out HGI.out (fun y hy s h1 h2 h3 h4 => HIN.out y (by rw [List.take_of_length_le (by omega)]; exact hy) s h1 h2 (by rw [h3, HLF.out]) h4) (fun a b => by rw [HC'.out, HLF.out]; simp)
                    have HMN := Lib.hid (HMI.out.unsnap.drop (X' := fun _ => False) (fun k hk => hk.elim))
                    have hll : p + 1 ≤ L'.length := by have := HGI.out.pre.length_le; omega
                    go_wp2_with fail
                    go_roundg (64160 - (p + 1))
                    case measure => omega
                    case rel => exact ⟨p + 1, L', C', hll, by omega, HMN, HITN⟩
            · have hdl' : ((d : Int) == (R.length : Int)) = false := by simp; omega
              have hdR2 : d < R.length := by omega
              have hdR3 : (d : Int) < (R.length : Int) := by omega
              have hd0 : (0 : Int) ≤ (d : Int) := by omega
              obtain ⟨b', off', hae', -, hbl', d0, d1⟩ := (HKR.out.below (show Below w5.heap.size w5 w6 by rw [← HW6.out]; exact (Below.refl _ _).alloc (Nat.le_refl _) _)).sym_at hdR2
              have HSD : Hid ((rt K i)[d]? = some (R[d]'hdR2)) := by
                show _ = _
                rw [HRTX.out]; exact List.getElem?_eq_getElem hdR2
              have hsb := HL3.out R[d] (List.getElem_mem hdR2)
              obtain ⟨sy, HSY⟩ := nameIt (R[d]'hdR2)
              rw [HSY.out] at d0 d1 HSD hsb
              unfold hasS at hsb
              rw [HNN.out, HGT.out] at hsb
              obtain ⟨st, HST⟩ := nameIt sy.term
              obtain ⟨sn, HSN⟩ := nameIt sy.n
              rw [HST.out] at d0 hsb
              rw [HSN.out] at d1 hsb
              obtain ⟨w7, HW7⟩ := nameIt (w6.alloc (.cells #[.bool st, .int .i64 sn] 65))
              obtain ⟨sx, HSX⟩ := nameIt w6.heap.size
              have hb7 : Below w6.heap.size w6 w7 := by rw [← HW7.out]; exact (Below.refl _ _).alloc (Nat.le_refl _) _
              have hs7 : w7.heap.size = w6.heap.size + 1 := by rw [← HW7.out]; simp
              have S7 : Hid (w7.heap[sx]? = some (.cells #[.bool st, .int .i64 sn] 65 (0, 0))) := by rw [← HW7.out]; exact bx_new _ _ _ HSX.out.symm
              have HM7 : Hid (MI w s n N G bt rb (fun k => k = ib ∨ k = rx ∨ k = sx) L (p + 1) [] 0 0 C w7) := HM6.out.keep hb7 (fun k hk => by
                rcases hk with e | e | e
                · exact .inl (.inl e)
                · exact .inl (.inr e)
                · exact .inr (by have := HSX.out; omega))
              have I7 := Lib.hid (bx_keep I6.out hb7)
              have R7 := Lib.hid (bx_keep R6.out hb7)
              subst hae'
              clear hb7 hs7
              go_upto_region 25 with fail
              rw [HW7.out, HSX.out]
              clear y0 y1 y2 z0 z1 d0 d1
              obtain ⟨y0, y1, y2⟩ := bx_cells3 I7.out
              obtain ⟨s0, s1⟩ := bx_cells2 S7.out
              have HG0 : Hid (Grow K n L L) := Grow.refl HIT.out.nodup HIT.out.sound
              cases st with
              | true =>
                have hbd1 : (d : Int) ≤ 4 := by omega
                have hbd2 : (l : Int) ≤ 400 := by omega
                have hbd3 : (0 : Int) ≤ (l : Int) := by omega
                have hcall := addMI HM7.out (i := i) (d := d + 1) (l := l + 1) (d' := (d : Int) + 1) (l' := (l : Int) + 1) (by omega) (by omega) (by omega) (by omega) (by omega) hn (by omega)
                have HC := Lib.hid hcall
                have HITN : Hid (Items K n (addL n L (i, d + 1, l + 1)) (p + 1) C) := HIT.out.termN hpl HXX.out HSD.out HST.out
                have hll : p + 1 ≤ (addL n L (i, d + 1, l + 1)).length := by
                  have := (HG0.out.add (x := (i, d + 1, l + 1)) (.term HITX.out HSD.out HST.out)).pre.length_le; omega
                clear hcall
                go_wp2_with fail
                (with_reducible refine HC.out.mono ?_)
                rintro e wa ⟨rfl, hai⟩
                have HMN := Lib.hid ((HM7.out.call hai).drop (X' := fun _ => False) (fun k hk => hk.elim))
                obtain ⟨L2, HL2⟩ := nameIt (addL n L (i, d + 1, l + 1))
                rw [HL2.out] at HMN HITN hll
                clear hai
                go_wp2_with fail
                go_roundg (64160 - (p + 1))
                case measure => omega
                case rel => exact ⟨p + 1, L2, C, hll, by omega, HMN, HITN⟩
              | false =>
                simp at hsb
                obtain ⟨hsb0, hsb1⟩ := hsb
                obtain ⟨an, han⟩ : ∃ a : Nat, sn = (a : Int) := ⟨sn.toNat, by omega⟩
                subst han
                have hanN : an < N := by omega
                have han0 : (0 : Int) ≤ (an : Int) := by omega
                have han1 : (an : Int) < (N : Int) := by omega
                have h0 := HM7.out.can.hdr hanN hanN
                obtain ⟨ra, HRA⟩ := nameIt (rb an)
                rw [HRA.out] at h0
                have HIN0 : Hid (∀ k, k < 0 → C an k = true → l + k ≤ n → (i, d + 1, l + k) ∈ L) := fun k hk => by omega
                go_wp2_with fail
                clear y0 y1 y2 s0 s1 h0
                go_loopg [152] (n + 1) (fun gg v152 wr => ∃ (q : Nat) (L' : List (Nat × Nat × Nat)), q ≤ n + 1 ∧ n + 1 - q ≤ gg ∧ v152 = .int .i64 q ∧ Hid (MI w s n N G bt rb (fun k => k = ib ∨ k = rx ∨ k = sx) L' (p + 1) [] 0 0 C wr) ∧ Hid (Grow K n L L') ∧ Hid (∀ k, k < q → C an k = true → l + k ≤ n → (i, d + 1, l + k) ∈ L') ∧ Hid (wr.heap[ib]? = some (.cells #[.int .i64 i, .int .i64 d, .int .i64 l] 120 (0, 0))))
                case atStart => exact ⟨0, L, by omega, by omega, rfl, HM7, HG0, HIN0, I7⟩
                case round =>
                  clear HM7 HG0 HIN0 I7 R7 S7
                  obtain ⟨wi, rfl⟩ : ∃ wi : World, wi = wr := ⟨_, rfl⟩
                  obtain ⟨q, L', hq, hgq, rfl, HMI, HGI, HIN, II⟩ := hrel
                  by_cases hqn : q < n + 1
                  · have hqn' : (q : Int) < (n : Int) + 1 := by omega
                    have hq0 : (0 : Int) ≤ (q : Int) := by omega
                    have h1 := HMI.out.can.cell hanN hanN (j := q) hqn
                    rw [HRA.out] at h1
                    obtain ⟨cb, HCB⟩ := nameIt (C an q)
                    rw [HCB.out] at h1
                    obtain ⟨y0, y1, y2⟩ := bx_cells3 II.out
                    cases cb with
                    | true =>
                      have hbd1 : (d : Int) ≤ 4 := by omega
                      have hbd2 : (l : Int) ≤ 400 := by omega
                      have hbd3 : (0 : Int) ≤ (l : Int) := by omega
                      have hbd4 : (q : Int) ≤ 400 := by omega
                      have hcall := addMI HMI.out (i := i) (d := d + 1) (l := l + q) (d' := (d : Int) + 1) (l' := (l : Int) + (q : Int)) (by omega) (by omega) (by omega) (by omega) (by omega) hn (by have := HGI.out.len hg7 HRT4.out hn; omega)
                      have HC := Lib.hid hcall
                      have HGA := Lib.hid (HGI.out.add (x := (i, d + 1, l + q)) (HIT.out.nonIt HITX.out HSD.out HST.out (by rw [HSN.out]; exact han0) (by rw [HSN.out]; simpa using HCB.out)))
                      have HIA : Hid (∀ k, k < q + 1 → C an k = true → l + k ≤ n → (i, d + 1, l + k) ∈ addL n L' (i, d + 1, l + q)) := by
                        intro k hk hc hl
                        by_cases e : k = q
                        · subst e; exact mem_addL hl
                        · exact mem_addL_old (HIN.out k (by omega) hc hl)
                      obtain ⟨L2, HL2⟩ := nameIt (addL n L' (i, d + 1, l + q))
                      clear hcall
                      go_wp2_with fail
                      (with_reducible refine HC.out.mono ?_)
                      rintro e wa ⟨rfl, hai⟩
                      have HMA := Lib.hid (HMI.out.call hai)
                      have IA : Hid (wa.heap[ib]? = some (.cells #[.int .i64 i, .int .i64 d, .int .i64 l] 120 (0, 0))) := (hai.px ib (.inl rfl)).2.trans II.out
                      rw [HL2.out] at HMA HGA HIA
                      clear hai
                      go_wp2_with fail
                      go_roundg (n + 1 - (q + 1))
                      case measure => omega
                      case rel => exact ⟨q + 1, L2, by omega, by omega, by go_num, HMA, HGA, HIA, IA⟩
                    | false =>
                      have HIA : Hid (∀ k, k < q + 1 → C an k = true → l + k ≤ n → (i, d + 1, l + k) ∈ L') := by
                        intro k hk hc hl
                        by_cases e : k = q
                        · subst e; rw [HCB.out] at hc; cases hc
                        · exact HIN.out k (by omega) hc hl
                      go_wp2_with fail
                      go_roundg (n + 1 - (q + 1))
                      case measure => omega
                      case rel => exact ⟨q + 1, L', by omega, by omega, by go_num, HMI, HGI, HIA, II⟩
                  · have hqn' : ¬ (q : Int) < (n : Int) + 1 := by omega
                    have HITN : Hid (Items K n L' (p + 1) C) := HIT.out.nonN hpl HXX.out HSD.out HST.out HGI.out (fun k hk hc hl => HIN.out k (by omega) (by rw [HSN.out] at hc; simpa using hc) hl)
                    have HMN := Lib.hid (HMI.out.drop (X' := fun _ => False) (fun k hk => hk.elim))
                    have hll : p + 1 ≤ L'.length := by have := HGI.out.pre.length_le; omega
                    go_wp2_with fail
                    go_roundg (64160 - (p + 1))
                    case measure => omega
                    case rel => exact ⟨p + 1, L', C, hll, by omega, HMN, HITN⟩
        · obtain ⟨va, vq, r1, r2, r3⟩ := HM.out.ai.rows
          have hq0 : (L.drop p).length = 0 := by rw [List.length_drop]; omega
          obtain ⟨aq, cq, hvq, hq1, hq2⟩ := r3.row.form
          rw [hq0] at hvq
          subst hvq
          have c3 := bx_cells1 r2
          have HE : Hid (∀ a k, a < N → k ≤ n → (C a k = true ↔ Has K (a : Int) k)) := fun a k _ hk => items_right HIT.out (by omega) hk
          clear r1 r2 r3 hq0 hq1 hq2
          go_wp2_with fail
          go_ret
          exact HFIN.out bt rb C wo (Grd.base HM.out.can (by omega)) HE.out HM.out.bel
end Ln
end Go.Proofs.Ytbnpemgmdnghgaa
namespace Go.Proofs.Ytbnpemgmdnghgaa
open Go.RowKit
namespace Cs

theorem rowI_at {S : Nat → Prop} {w : World} {l : List (List Int)} {a : Option Addr} {n cap i : Nat} (h : Rd S w (.sl (l.map D.ints)) [.slice a n cap]) (hi : i < l.length) :
    ∃ b off v, a = some ⟨b, off, none⟩ ∧ w.cell? ⟨b, off + i, none⟩ = some v ∧ Sl w v (ints l[i]) := by
  obtain ⟨b, off, cs, ha, hS, hb, hr, hl, hc⟩ := Rd.at (k := 1) h (by intro d hd; rw [List.mem_map] at hd; obtain ⟨x, _, rfl⟩ := hd; rfl) (by omega) (i := i) (by simpa using hi)
  rw [List.getElem_map] at hr
  obtain ⟨v, rfl⟩ : ∃ v, cs = [v] := by
    match cs, hl with
    | [v], _ => exact ⟨v, rfl⟩
  have h0 := hc 0 (by simp)
  exact ⟨b, off, v, ha, by simpa using h0, sl_rd hr⟩


def totV : List Int → Int → Int
  | [], s => s
  | x :: l, s => if x = -1 then -1 else totV l (min (IntKind.i64.wrap (s + x)) MaxC)
theorem totV_at {l : List Int} {i : Nat} (h : i < l.length) (s : Int) : totV (l.drop i) s = if l[i] = -1 then -1 else totV (l.drop (i + 1)) (min (IntKind.i64.wrap (s + l[i])) MaxC) := by
  rw [List.drop_eq_getElem_cons h, totV]
def TotalPost (g : Gram) (n : Int) (w : World) (e : Ending) (w' : World) : Prop :=
  Below w.heap.size w w' ∧ ((errC g n ≠ 0 ∧ e = .returned (.tuple #[.int .i64 0, .int .i64 (errC g n)])) ∨
    (errC g n = 0 ∧ ∃ (N n' : Nat) (S : Nat → Nat → Bool), OkC g N ∧ n = (n' : Int) ∧ n' ≤ 24 ∧ DoneC g n' S ∧ e = .returned (.tuple #[.int .i64 (totV (rowC g S N n' g.start.toNat (n' + 1)) 0), .int .i64 0])))
set_option maxHeartbeats 8000000 in
set_option maxRecDepth 100000 in
theorem totalE (g : Gram) (ra : Option Addr) (rcap : Nat) (n : Int) (w : World) (hr : Rd AnyB w (.sl (g.rules.map Rule.d)) [.slice ra g.rules.length rcap]) :
    Calls Try.prog 7 #[.agg #[.int .i64 g.terms, .int .i64 g.nons, .int .i64 g.start, .slice ra g.rules.length rcap], .int .i64 n] w (TotalPost g n w) := by
  obtain ⟨w0, HW0⟩ := nameIt (w.alloc (.cells #[.int .i64 g.terms, .int .i64 g.nons, .int .i64 g.start, .slice ra g.rules.length rcap] 24))
  have hb0 : Below w.heap.size w w0 := by rw [← HW0.out]; exact (Below.refl _ _).alloc (Nat.le_refl _) _
  have X0 : Hid (w0.heap[w.heap.size]? = some (.cells #[.int .i64 g.terms, .int .i64 g.nons, .int .i64 g.start, .slice ra g.rules.length rcap] 24 (0, 0))) := by rw [← HW0.out]; exact bx_new _ _ _ rfl
  have HTR := Lib.hid (treesE g ra rcap n w0 (hr.below hb0))
  obtain ⟨PST, HP⟩ := nameIt (TotalPost g n w)
  rw [HP.out]
  have HE1 : Hid (errC g n ≠ 0 → ∀ w', Below w0.heap.size w0 w' → PST (.returned (.tuple #[.int .i64 0, .int .i64 (errC g n)])) w') := by
    intro he w' h
    rw [← HP.out]
    exact ⟨hb0.trans (h.mono hb0.size), .inl ⟨he, rfl⟩⟩
  have HE2 : Hid (∀ (N n' : Nat) (S : Nat → Nat → Bool) w', errC g n = 0 → OkC g N → n = (n' : Int) → n' ≤ 24 → DoneC g n' S → Below w0.heap.size w0 w' → PST (.returned (.tuple #[.int .i64 (totV (rowC g S N n' g.start.toNat (n' + 1)) 0), .int .i64 0])) w') := by
    intro N n' S w' h1 h2 h3 h4 h5 h6
    rw [← HP.out]
    exact ⟨hb0.trans (h6.mono hb0.size), .inr ⟨h1, N, n', S, h2, h3, h4, h5, rfl⟩⟩
  obtain ⟨gt, HGT⟩ := nameIt g.terms
  obtain ⟨gn, HGN⟩ := nameIt g.nons
  obtain ⟨rl, HRL⟩ := nameIt g.rules.length
  rw [HGT.out, HGN.out, HRL.out] at HW0 X0 HTR
  rw [HGT.out, HGN.out, HRL.out]
  obtain ⟨x0, x1, x2, x3⟩ := bx_cells4 X0.out
  clear hb0 hr HP
  go_enter Try.func7, Try.ntmps7
  go_upto_region 1 with fail
  rw [HW0.out]
  go_wp2_with fail
  with_reducible refine HTR.out.mono ?_
  clear x0 x1 x2 x3
  rintro e w1 ⟨hb1, ⟨he, rfl⟩ | ⟨he, N, n', S, a, c, hok, hn, hn24, hdn, rfl, hrd⟩⟩
  · have HF := Lib.hid (HE1.out he w1 hb1)
    clear hb1 HE1 HE2
    obtain ⟨c, HC⟩ := nameIt (errC g n)
    rw [HC.out] at HF he
    rw [HC.out]
    have b1 : (c != 0) = true := by simpa using he
    go_wp2_with fail
    first | exact HF.out | (refine bodyPost_ret (results_tmp2 Try.results7 _ _ _) rfl ?_; exact HF.out)
  · have hs0 := hok.s0
    have hs1 := hok.s1
    obtain ⟨st, hst⟩ := Int.eq_ofNat_of_zero_le hs0
    have hstt : g.start.toNat = st := by omega
    have hstN : st < N := by omega
    have HF := Lib.hid (HE2.out N n' S w1 he hok hn hn24 hdn hb1)
    rw [hstt] at HF
    have X1 := Lib.hid (bx_keep X0.out hb1)
    rw [hst] at X1
    obtain ⟨b, off, vr, hae, c0, hsl⟩ := rowI_at hrd (i := st) (by rw [tabC_len]; exact hstN)
    have hrow : (tabC g S N n' N)[st]'(by rw [tabC_len]; exact hstN) = rowC g S N n' st (n' + 1) := by simp [tabC]
    rw [hrow] at hsl
    obtain ⟨L, HL⟩ := nameIt (rowC g S N n' st (n' + 1))
    have hLl : L.length = n' + 1 := by rw [← HL.out, rowC_len]
    rw [HL.out] at hsl HF
    obtain ⟨ar, cr, rfl⟩ := hsl.form
    have hsll := hsl.len
    rw [ints_len] at c0 hsl hsll
    obtain ⟨br, orr, hae2, hcell⟩ := hsl.at (k := 0) (by omega)
    subst hae
    have HCELL : Hid (∀ i, (h : i < L.length) → w1.cell? ⟨br, orr + i, none⟩ = some (.int .i64 L[i])) := fun i h => by
      have := hcell i (by rw [ints_len]; exact h)
      rwa [ints_get] at this
    subst hae2
    obtain ⟨ll, HLL⟩ := nameIt L.length
    rw [HLL.out] at c0 hLl hsll
    have hst1 : (st : Int) < (N : Int) := by omega
    have hst0 : (0 : Int) ≤ (st : Int) := by omega
    obtain ⟨x0, x1, x2, x3⟩ := bx_cells4 X1.out
    obtain ⟨hlc1, hlc2, hlc3⟩ := hsll
    unfold maxLen at hlc3
    have HT0 : Hid (totV L 0 = totV (L.drop 0) 0) := rfl
    clear hsl hcell hrd hb1 hn hdn hok HE1 HE2 hs0 hs1 hst hstt hrow
    go_wp2_with fail
    clear x0 x1 x2 x3 c0
    go_loopg [8, 26] ll (fun gg v8 v26 wr => ∃ (i : Nat) (s : Int), i ≤ ll ∧ ll - i ≤ gg ∧ v8 = .int .i64 s ∧ v26 = .int .i64 i ∧ wr = w1 ∧ Hid (totV L 0 = totV (L.drop i) s))
    case atStart => exact ⟨0, 0, by omega, by omega, rfl, rfl, rfl, HT0⟩
    case round =>
      clear HT0
      obtain ⟨i, s, hi, hg, rfl, rfl, rfl, HT⟩ := hrel
      by_cases hlt : i < ll
      · have hlt' : (i : Int) < (ll : Int) := by omega
        have hi0 : (0 : Int) ≤ (i : Int) := by omega
        have hiL : i < L.length := by rw [HLL.out]; exact hlt
        have q0 := HCELL.out i hiL
        have HT1 : Hid (totV L 0 = if L[i] = -1 then -1 else totV (L.drop (i + 1)) (min (IntKind.i64.wrap (s + L[i])) MaxC)) := HT.out.trans (totV_at hiL s)
        obtain ⟨x, HX⟩ := nameIt (L[i]'hiL)
        rw [HX.out] at q0 HT1
        by_cases hx : x = -1
        · subst hx
          have HT2 : Hid (totV L 0 = -1) := by show _ = _; rw [HT1.out]; rfl
          rw [HT2.out] at HF
          go_wp2_with fail
          first | exact HF.out | (refine bodyPost_ret (results_tmp2 Try.results7 _ _ _) rfl ?_; exact HF.out)
        · have hxb : (x == -1) = false := by simpa using hx
          have HT2 : Hid (totV L 0 = totV (L.drop (i + 1)) (min (IntKind.i64.wrap (s + x)) 1000000000)) := by show _ = _; rw [HT1.out, if_neg hx]; rfl
          obtain ⟨s1, HS1⟩ := nameIt (min (IntKind.i64.wrap (s + x)) 1000000000)
          rw [HS1.out] at HT2
          have hmin : min (IntKind.i64.wrap (s + x)) 1000000000 = s1 := HS1.out
          clear hx
          go_wp2_with fail
          go_roundg (ll - (i + 1))
          case measure => omega
          case rel => exact ⟨i + 1, s1, by omega, by omega, by first | rfl | (rw [← HS1.out, IntKind.wrap_i64]; first | rfl | simp [wrap64]), by go_num, rfl, HT2⟩
      · have hlt' : ¬ (i : Int) < (ll : Int) := by omega
        have HT2 : Hid (totV L 0 = s) := by
          show _ = _; rw [HT.out, List.drop_of_length_le (by rw [HLL.out]; omega)]; rfl
        rw [HT2.out] at HF
        go_wp2_with fail
        first | exact HF.out | (refine bodyPost_ret (results_tmp2 Try.results7 _ _ _) rfl ?_; exact HF.out)
end Cs
end Go.Proofs.Ytbnpemgmdnghgaa
namespace Go.Proofs.Ytbnpemgmdnghgaa
open Go.RowKit
namespace Cs

/-- a counter in memory that may count -/
def CntR (g : Gram) (vr : Value) (N n : Nat) (d : Cid) (S : Nat → Nat → Bool) (w1 : World) (W : World) : Prop :=
  ∃ C, CS g vr N n d S (MK g.rules S N n) (valK g.rules S (MK g.rules S N n) MaxC (-1) (sizeK N n)) w1 C W
/-- the number of trees of the start symbol -/
def startC (g : Gram) (S : Nat → Nat → Bool) (N n : Nat) : Int := tC g S N n g.start.toNat n
def CntPost (g : Gram) (vr : Value) (n : Int) (w : World) (e : Ending) (w' : World) : Prop :=
  Below w.heap.size w w' ∧ ((errC g n ≠ 0 ∧ e = .returned (.tuple #[.pointer none, .int .i64 0, .int .i64 (errC g n)])) ∨
    (errC g n = 0 ∧ ∃ (N n' : Nat) (S : Nat → Nat → Bool), OkC g N ∧ n = (n' : Int) ∧ n' ≤ 24 ∧ DoneC g n' S ∧
      ((startC g S N n' = -1 ∧ e = .returned (.tuple #[.pointer none, .int .i64 0, .int .i64 9])) ∨
       (startC g S N n' ≠ -1 ∧ MaxC ≤ startC g S N n' ∧ e = .returned (.tuple #[.pointer none, .int .i64 0, .int .i64 2])) ∨
       (startC g S N n' ≠ -1 ∧ startC g S N n' < MaxC ∧ ∃ (d : Cid) (w1 : World), e = .returned (.tuple #[.pointer (some ⟨d.cb, 0, none⟩), .int .i64 (startC g S N n'), .int .i64 0]) ∧ Below w.heap.size w w1 ∧ CntR g vr N n' d S w1 w'))))
theorem start_off (g : Gram) (N : Nat) (h : OkC g N) : ∃ A : Nat, g.start = (A : Int) ∧ A < N := ⟨g.start.toNat, by have := h.s0; omega, by have := h.s0; have := h.s1; omega⟩

set_option maxHeartbeats 8000000 in
set_option maxRecDepth 100000 in
theorem countE (g : Gram) (ra : Option Addr) (rcap : Nat) (n : Int) (w : World) (hr : Rd AnyB w (.sl (g.rules.map Rule.d)) [.slice ra g.rules.length rcap]) :
    Calls Try.prog 36 #[.agg #[.int .i64 g.terms, .int .i64 g.nons, .int .i64 g.start, .slice ra g.rules.length rcap], .int .i64 n] w (CntPost g (.slice ra g.rules.length rcap) n w) := by
  obtain ⟨w0, HW0⟩ := nameIt (w.alloc (.cells #[.int .i64 g.terms, .int .i64 g.nons, .int .i64 g.start, .slice ra g.rules.length rcap] 24))
  have hb0 : Below w.heap.size w w0 := by rw [← HW0.out]; exact (Below.refl _ _).alloc (Nat.le_refl _) _
  have X0 : Hid (w0.heap[w.heap.size]? = some (.cells #[.int .i64 g.terms, .int .i64 g.nons, .int .i64 g.start, .slice ra g.rules.length rcap] 24 (0, 0))) := by rw [← HW0.out]; exact bx_new _ _ _ rfl
  have HTR := Lib.hid (totalE g ra rcap n w0 (hr.below hb0))
  have HRD := Lib.hid (hr.below hb0)
  obtain ⟨PST, HP⟩ := nameIt (CntPost g (.slice ra g.rules.length rcap) n w)
  rw [HP.out]
  have HE1 : Hid (errC g n ≠ 0 → ∀ w', Below w0.heap.size w0 w' → PST (.returned (.tuple #[.pointer none, .int .i64 0, .int .i64 (errC g n)])) w') := by
    intro he w' h
    rw [← HP.out]
    exact ⟨hb0.trans (h.mono hb0.size), .inl ⟨he, rfl⟩⟩
  have HE2 : Hid (∀ (N n' : Nat) (S : Nat → Nat → Bool) (d : Cid) w1 w', errC g n = 0 → OkC g N → n = (n' : Int) → n' ≤ 24 → DoneC g n' S → Below w0.heap.size w0 w1 → CntR g (.slice ra g.rules.length rcap) N n' d S w1 w' →
      (startC g S N n' = -1 → PST (.returned (.tuple #[.pointer none, .int .i64 0, .int .i64 9])) w') ∧ (startC g S N n' ≠ -1 → MaxC ≤ startC g S N n' → PST (.returned (.tuple #[.pointer none, .int .i64 0, .int .i64 2])) w') ∧
      (startC g S N n' ≠ -1 → startC g S N n' < MaxC → PST (.returned (.tuple #[.pointer (some ⟨d.cb, 0, none⟩), .int .i64 (startC g S N n'), .int .i64 0])) w')) := by
    intro N n' S d w1 w' h1 h2 h3 h4 h5 h6 h7
    rw [← HP.out]
    have hB1 : Below w.heap.size w w1 := hb0.trans (h6.mono hb0.size)
    have hB2 : Below w.heap.size w w' := by
      obtain ⟨C, hc⟩ := h7
      exact hB1.trans (hc.bel.mono hB1.size)
    exact ⟨fun h => ⟨hB2, .inr ⟨h1, N, n', S, h2, h3, h4, h5, .inl ⟨h, rfl⟩⟩⟩, fun h h' => ⟨hB2, .inr ⟨h1, N, n', S, h2, h3, h4, h5, .inr (.inl ⟨h, h', rfl⟩)⟩⟩, fun h h' => ⟨hB2, .inr ⟨h1, N, n', S, h2, h3, h4, h5, .inr (.inr ⟨h, h', d, w1, rfl, hB1, h7⟩)⟩⟩⟩
  have HMK : Hid (∀ (N n' : Nat) W, OkC g N → n' ≤ 24 → Below w0.heap.size w0 W → Calls Try.prog 28 #[.agg #[.int .i64 g.terms, .int .i64 g.nons, .int .i64 g.start, .slice ra g.rules.length rcap], .int .i64 (n' : Int)] W (MadeC g (.slice ra g.rules.length rcap) N n' W)) :=
    fun N n' W hok hn24 hb => makeE hok.nons hok.n1 hok.n2 hn24 hok.r hok.l W (HRD.out.below hb)
  have HOF : Hid (∀ (N n : Nat) (w1 : World) (d : Cid) (S : Nat → Nat → Bool) (C : Nat → Nat → Int) (A k : Nat) (W : World), OkC g N → n ≤ 24 → Below w0.heap.size w0 w1 → A < N → k ≤ n → CS g (.slice ra g.rules.length rcap) N n d S (MK g.rules S N n) (valK g.rules S (MK g.rules S N n) MaxC (-1) (sizeK N n)) w1 C W →
      Calls Try.prog 29 #[.pointer (some ⟨d.cb, 0, none⟩), .agg #[.bool false, .int .i64 (A : Int)], .int .i64 (k : Int)] W (OfPost g (.slice ra g.rules.length rcap) N n d S (MK g.rules S N n) (valK g.rules S (MK g.rules S N n) MaxC (-1) (sizeK N n)) w1 (tC g S N n A k) W)) := by
    intro N n w1 d S C A k W hok hn24 hb hA hk hc
    have := ofE (d := d) (w0 := w1) (n := n) (by omega) (by have := hok.n2; omega) hok.r (ends_MK (rules := g.rules) (S := S) (N := N) (n := n) hok.r) (HRD.out.below hb) (sizeK N n + 1) ⟨false, (A : Int)⟩ k C W (fun _ => ⟨by simp, by simpa using hA⟩) hk (fun _ => okK_all _ _ _ (Nat.lt_succ_self _)) hc
    exact this
  have HST : Hid (∀ N, OkC g N → ∃ A : Nat, g.start = (A : Int) ∧ A < N) := fun N h => start_off g N h
  have HSC : Hid (∀ (S : Nat → Nat → Bool) N n A, g.start = ((A : Nat) : Int) → startC g S N n = tC g S N n A n) := by
    intro S N n A h; show tC _ _ _ _ _ _ = _; rw [h]; rfl
  obtain ⟨gt, HGT⟩ := nameIt g.terms
  obtain ⟨gn, HGN⟩ := nameIt g.nons
  obtain ⟨gs, HGS⟩ := nameIt g.start
  obtain ⟨rl, HRL⟩ := nameIt g.rules.length
  rw [HGT.out, HGN.out, HGS.out, HRL.out] at HW0 X0 HTR HMK
  rw [HRL.out] at HOF HE2
  rw [HGS.out] at HST HSC
  rw [HGT.out, HGN.out, HGS.out, HRL.out]
  obtain ⟨x0, x1, x2, x3⟩ := bx_cells4 X0.out
  clear hb0 hr HP
  go_enter Try.func36, Try.ntmps36
  go_upto_region 1 with fail
  rw [HW0.out]
  go_wp2_with fail
  with_reducible refine HTR.out.mono ?_
  clear x0 x1 x2 x3
  rintro e w1 ⟨hb1, ⟨he, rfl⟩ | ⟨he, N, n', S0, hok, rfl, hn24, hdn, rfl⟩⟩
  · have HF := Lib.hid (HE1.out he w1 hb1)
    clear hb1 HE1 HE2
    obtain ⟨c, HC⟩ := nameIt (errC g n)
    rw [HC.out] at HF he
    rw [HC.out]
    have b1 : (c != 0) = true := by simpa using he
    go_wp2_with fail
    first | exact HF.out | (refine bodyPost_ret (results_tmp3 Try.results36 _ _ _) rfl ?_; exact HF.out)
  · have HB1 := Lib.hid hb1
    have X1 := Lib.hid (bx_keep X0.out hb1)
    obtain ⟨x0, x1, x2, x3⟩ := bx_cells4 X1.out
    have HMK1 := Lib.hid (HMK.out N n' w1 hok hn24 hb1)
    have HOK := Lib.hid hok
    have HN24 := Lib.hid hn24
    have HER := Lib.hid he
    obtain ⟨tv, HTV⟩ := nameIt (totV (rowC g S0 N n' g.start.toNat (n' + 1)) 0)
    rw [HTV.out]
    clear hb1 hok hn24 he hdn HE1 HTR HTV
    go_wp2_with fail
    with_reducible refine HMK1.out.mono ?_
    clear x0 x1 x2 x3
    rintro e w2 ⟨d, S, rfl, hq, hp3, hci, hb2, hlo⟩
    have HDN : Hid (DoneC g n' S) := ⟨hq, hp3⟩
    obtain ⟨x0, x1, x2, x3⟩ := bx_cells4 (bx_keep X1.out hb2)
    have HCS : Hid (CS g (.slice ra rl rcap) N n' d S (MK g.rules S N n') (valK g.rules S (MK g.rules S N n') MaxC (-1) (sizeK N n')) w1 (fun _ _ => -1) w2) := ⟨by rw [← HRL.out]; rw [← HRL.out] at hci; exact hci, fun _ _ _ _ => .inl rfl, hb2, hlo⟩
    obtain ⟨A, hA, hAN⟩ := HST.out N HOK.out
    have HSC1 := Lib.hid (HSC.out S N n' A hA)
    rw [hA] at x2
    clear hq hp3 hci hb2 hlo
    go_wp2_with fail
    with_reducible refine (gramN _ _).mono ?_
    rintro e w3 ⟨rfl, hb3⟩
    have HCS3 := Lib.hid (HCS.out.keep hb3)
    have HOF3 := Lib.hid (HOF.out N n' w1 d S _ A n' w3 HOK.out HN24.out HB1.out hAN (Nat.le_refl _) HCS3.out)
    clear hb3 x0 x1 x2 x3
    go_wp2_with fail
    with_reducible refine HOF3.out.mono ?_
    rintro e w4 ⟨rfl, hf4, hc4⟩
    obtain ⟨HF1, HF2, HF3⟩ := HE2.out N n' S d w1 w4 HER.out HOK.out rfl HN24.out HDN.out HB1.out hc4
    have G1 := Lib.hid HF1
    have G2 := Lib.hid HF2
    have G3 := Lib.hid HF3
    rw [HSC1.out] at G1 G2 G3
    obtain ⟨k, HK⟩ := nameIt (tC g S N n' A n')
    rw [HK.out] at G1 G2 G3
    rw [HK.out]
    clear HF1 HF2 HF3 hf4 hc4 hA hAN
    by_cases h1 : k = -1
    · subst h1
      have HF := Lib.hid (G1.out rfl)
      clear G1 G2 G3
      go_wp2_with fail
      first | exact HF.out | (refine bodyPost_ret (results_tmp3 Try.results36 _ _ _) rfl ?_; exact HF.out)
    · have b1 : (k == -1) = false := by simpa using h1
      by_cases h2 : MaxC ≤ k
      · have b2 : decide ((1000000000 : Int) ≤ k) = true := by simpa [MaxC] using h2
        have HF := Lib.hid (G2.out h1 h2)
        clear G1 G2 G3 h1 h2
        go_wp2_with fail
        first | exact HF.out | (refine bodyPost_ret (results_tmp3 Try.results36 _ _ _) rfl ?_; exact HF.out)
      · have b2 : decide ((1000000000 : Int) ≤ k) = false := by simpa [MaxC] using h2
        have HF := Lib.hid (G3.out h1 (by omega))
        clear G1 G2 G3 h1 h2
        go_wp2_with fail
        first | exact HF.out | (refine bodyPost_ret (results_tmp3 Try.results36 _ _ _) rfl ?_; exact HF.out)
end Cs
end Go.Proofs.Ytbnpemgmdnghgaa
namespace Go.Proofs.Ytbnpemgmdnghgaa
open Go.RowKit

/-- the word of a list of nodes -/
def leavesOf (l : List Tree) : List Int := l.filterMap fun t => if t.rule = -1 then some t.term else none
def rulesOf (l : List Tree) : List Int := l.map Tree.rule
theorem leavesOf_le (l : List Tree) : (leavesOf l).length ≤ l.length := List.length_filterMap_le _ _

/-- numbers that a function gathers in a captured slice -/
def GatherI (f : List Tree → List Int) (w0 : World) (nb : Nat) (s : List Tree) (S : Nat → Prop) (W : World) : Prop :=
  Below w0.heap.size w0 W ∧ w0.heap.size ≤ nb ∧ ∃ v, W.heap[nb]? = some (.cells #[v] 33 (0, 0)) ∧ W.ownsRow w0.heap.size 3 1 v (f s).length (ints (f s)) ∧ v.ownBlock ≠ some nb ∧ ∀ k, S k ↔ (k = nb ∨ v.ownBlock = some k)

theorem gather_own {f : List Tree → List Int} {w0 : World} {nb : Nat} {s : List Tree} {S : Nat → Prop} {W : World} (h : GatherI f w0 nb s S W) : ∀ k, S k → w0.heap.size ≤ k ∧ k < W.heap.size := by
  intro k hk
  obtain ⟨h1, h2, v, h3, h4, h5, h6⟩ := h
  rw [h6] at hk
  rcases hk with rfl | hk
  · exact ⟨h2, (Array.getElem?_eq_some_iff.1 h3).1⟩
  · exact h4.lt k hk
theorem gather_keep {f : List Tree → List Int} {w0 : World} {nb : Nat} {s : List Tree} {S : Nat → Prop} {W W' : World} (h : GatherI f w0 nb s S W) (hb : Below W.heap.size W W') : GatherI f w0 nb s S W' := by
  obtain ⟨h1, h2, v, h3, h4, h5, h6⟩ := h
  exact ⟨h1.trans (hb.mono h1.size), h2, v, bx_keep h3 hb, own_keep h4 hb, h5, h6⟩

/-- the state behind an append of x: W: before, W1: behind the append, then the store into the captured variable -/
theorem gather_step {f : List Tree → List Int} {w0 : World} {nb : Nat} {s s' : List Tree} {S : Nat → Prop} {W W0 W1 : World} {v v' : Value} {x : Int} (hf : f s' = f s ++ [x])
    (h1 : Below w0.heap.size w0 W) (h2 : w0.heap.size ≤ nb) (h3 : W.heap[nb]? = some (.cells #[v] 33 (0, 0))) (h4 : W.ownsRow w0.heap.size 3 1 v (f s).length (ints (f s))) (h5 : v.ownBlock ≠ some nb) (h6 : ∀ k, S k ↔ (k = nb ∨ v.ownBlock = some k))
    (hb : Below W.heap.size W W0) (ho : W1.ownsRow w0.heap.size 3 1 v' ((f s).length + 1) (ints (f s) ++ [.int .i64 x])) (hg : W0.grownBy W1 v.ownBlock) (hat : v'.ownBlock = v.ownBlock ∨ ∃ k, v'.ownBlock = some k ∧ W0.heap.size ≤ k) :
    ∃ S', GatherI f w0 nb s' S' (W1.setCell ⟨nb, 0, none⟩ v') ∧ Keeps S W (W1.setCell ⟨nb, 0, none⟩ v') ∧ ∀ k, S' k → S k ∨ W.heap.size ≤ k := by
  have hnb := (Array.getElem?_eq_some_iff.1 h3).1
  have h3' := bx_keep h3 hb
  have hnb' := (Array.getElem?_eq_some_iff.1 h3').1
  have hne' : v'.ownBlock ≠ some nb := by
    rcases hat with e | ⟨k, e, hk⟩
    · rw [e]; exact h5
    · rw [e]; intro e; cases e; omega
  have h3'' : W1.heap[nb]? = some (.cells #[v] 33 (0, 0)) := by rw [hg.block nb hnb' (fun e => h5 e.symm)]; exact h3'
  have hbel : Below w0.heap.size w0 W1 := (h1.trans (hb.mono h1.size)).grown hg (Nat.le_trans h1.size hb.size) (fun k e => (h4.lt k e).1)
  refine ⟨fun k => k = nb ∨ v'.ownBlock = some k, ⟨hbel.setCell h2 _, h2, v', ?_, ?_, hne', fun _ => Iff.rfl⟩, ?_, ?_⟩
  · rw [bx_set h3'']; rfl
  · rw [hf]
    have e : ints (f s ++ [x]) = ints (f s) ++ [.int .i64 x] := by simp [ints]
    rw [e, List.length_append]
    exact ho.kept (grown_cell W1 ⟨nb, 0, none⟩ v') (.inr (by exact hne'))
  · refine ⟨hg.os.trans hb.os, hg.tape.trans hb.tape, hg.output.trans hb.output, by simp [World.setCell]; exact Nat.le_trans hb.size hg.size, fun k hk hn => ?_⟩
    rw [h6] at hn
    have k1 : k ≠ nb := fun e => hn (.inl e)
    have k2 : v.ownBlock ≠ some k := fun e => hn (.inr e)
    rw [Below.heap_setCell _ _ _ _ k1, hg.block k (Nat.lt_of_lt_of_le hk hb.size) (fun e => k2 e.symm), hb.block k hk]
  · rintro k (rfl | hk)
    · exact .inl ((h6 k).2 (.inl rfl))
    · rcases hat with e | ⟨j, e, hj⟩
      · exact .inl ((h6 k).2 (.inr (by rw [← e]; exact hk)))
      · rw [e] at hk; cases hk; exact .inr (by have := hb.size; omega)

set_option maxHeartbeats 400000 in
theorem wordF (w0 : World) (nb N : Nat) (hN : N * 8 ≤ 140737488355328) : NodeFn 42 #[.pointer (some ⟨nb, 0, none⟩)] w0 (fun _ => true) N (GatherI leavesOf w0 nb) where
  below := fun h => h.1
  own := gather_own
  keep := gather_keep
  call := by
    intro s S W t v h hv hs
    obtain ⟨a, n, cap, rfl⟩ := treeBox hv
    have HI := Lib.hid h
    obtain ⟨h1, h2, u, h3, h4, h5, h6⟩ := h
    have H1 := Lib.hid h1
    have H3 := Lib.hid h3
    have H4 := Lib.hid h4
    have H5 := Lib.hid h5
    have H6 := Lib.hid h6
    have c0 := bx_cells1 h3
    have f0 := bx_free1 h3
    have hlt := (Array.getElem?_eq_some_iff.1 h3).1
    have hlen := leavesOf_le s
    obtain ⟨au, cu, rfl, hu1, hu2⟩ := own_len h4
    unfold maxLen at hu2
    clear h1 h3 h4 h5 h6 hv
    have hb := (Below.refl W.heap.size W).alloc (Nat.le_refl _) (.cells #[.int .i64 t.rule, .int .i64 t.term, .slice a n cap] 42)
    have HB := Lib.hid hb
    clear hb
    obtain ⟨r, HR⟩ := nameIt t.rule
    obtain ⟨tm, HT⟩ := nameIt t.term
    rw [HR.out, HT.out] at HB
    rw [HR.out, HT.out]
    by_cases hr : r = -1
    · subst hr
      have HE : Hid (leavesOf (s ++ [t]) = leavesOf s ++ [tm]) := by show _ = _; simp [leavesOf, HR.out, HT.out]
      go_enter Try.func42, Try.ntmps42
      go_wp2_with (at_builtin; refine wp_app1at elInt rfl _ _ rfl (own_keep H4.out HB.out) rfl rfl (by simp) rfl rfl (by omega) (by unfold maxLen; omega) (by have := H1.out.size; simp; omega) ?_)
      intro v' w' ho hg hat
      obtain ⟨a', c', rfl, -, -⟩ := own_len ho
      have HST := Lib.hid (gather_step HE.out H1.out h2 H3.out H4.out H5.out H6.out HB.out ho hg (by simpa using hat))
      have hnb' : nb < w'.heap.size := by have := hg.size; simp at this; omega
      have h3 : w'.heap[nb]? = some (.cells #[.slice au (leavesOf s).length cu] 33 (0, 0)) := by
        rw [hg.block nb (by simp; omega) (fun e => H5.out e.symm)]; exact bx_keep H3.out HB.out
      have f1 := bx_free1 h3
      have f2 := bx_cells1 h3
      clear ho hg hat h3
      go_wp2
      go_ret
      obtain ⟨S', i1, i2, i3⟩ := HST.out
      exact ⟨S', rfl, i1, i2, i3⟩
    · have hr' : (r == -1) = false := by simpa using hr
      have HE : Hid (leavesOf (s ++ [t]) = leavesOf s) := by show _ = _; simp [leavesOf, HR.out, hr]
      clear hr
      go_enter Try.func42, Try.ntmps42
      go_wp2
      go_ret
      refine ⟨S, rfl, ?_, Below.keeps HB.out, fun k h => .inl h⟩
      have := gather_keep HI.out HB.out
      unfold GatherI at this ⊢
      rw [HE.out]; exact this

def IntsPost (l : List Int) (w : World) (e : Ending) (w' : World) : Prop := ∃ v, e = .returned v ∧ Sl w' v (ints l) ∧ Below w.heap.size w w'

set_option maxHeartbeats 400000 in
theorem wordT (t : Tree) (v : Value) (w : World) (hv : Rd AnyB w (.sl (t.kids.map Tree.d)) [v]) (hN : (nodes t).length * 8 ≤ 140737488355328) :
    Calls Try.prog 20 #[.agg #[.int .i64 t.rule, .int .i64 t.term, v]] w (IntsPost (leavesOf (nodes t)) w) := by
  obtain ⟨a, n, cap, rfl⟩ := treeBox hv
  have hI : GatherI leavesOf w (w.heap.size + 1) [] (fun k => k = w.heap.size + 1 ∨ (Value.slice none 0 0).ownBlock = some k) ((w.alloc (.cells #[.int .i64 t.rule, .int .i64 t.term, .slice a n cap] 42)).alloc (.cells #[.slice none 0 0] 33)) :=
    ⟨((Below.refl _ _).alloc (Nat.le_refl _) _).alloc (by simp) _, by omega, _, bx_new _ _ _ (by simp), World.ownsRow_nil _ _ _ _, by simp [Value.ownBlock], fun _ => Iff.rfl⟩
  have hw := walkE 42 #[.pointer (some ⟨w.heap.size + 1, 0, none⟩)] w (fun _ => true) (nodes t).length _ (fun _ _ => by kernel_rfl) (wordF w (w.heap.size + 1) (nodes t).length hN) (nodes t).length t _ [] _ _ (Nat.le_refl _) hI hv (by simp)
  have HW := Lib.hid hw
  clear hw hI hv hN
  go_enter Try.func20, Try.ntmps20
  go_wp2_with fail
  refine HW.out.mono ?_
  rintro e w1 ⟨S', rfl, ⟨h1, h2, u, h3, h4, h7, h8⟩, h5, h6⟩
  rw [upTo_all (by simp)] at h4
  simp only [List.nil_append] at h4
  have c0 := bx_cells1 h3
  have HB := Lib.hid h1
  have HS := Lib.hid (sl_of_own h4)
  obtain ⟨a', c', rfl, -, -⟩ := own_len h4
  clear h1 h2 h3 h4 h5 h6 h7 h8
  go_wp2
  go_ret
  exact ⟨_, rfl, HS.out, HB.out⟩

end Go.Proofs.Ytbnpemgmdnghgaa
namespace Go.Proofs.Ytbnpemgmdnghgaa
open Go.RowKit
namespace Cs

/-- how many leaves a tree has -/
def wl (t : Tree) : Nat := (leavesOf (nodes t)).length
def wlp (ks : List Tree) (i : Nat) : Nat := (leavesOf (nodesL (ks.take i))).length
theorem leaves_app (a b : List Tree) : leavesOf (a ++ b) = leavesOf a ++ leavesOf b := by unfold leavesOf; rw [List.filterMap_append]
theorem wlp_zero (ks : List Tree) : wlp ks 0 = 0 := rfl
theorem wlp_next {ks : List Tree} {i : Nat} (h : i < ks.length) : wlp ks (i + 1) = wlp ks i + wl ks[i] := by
  unfold wlp wl
  rw [nodesL_take h, leaves_app, List.length_append]
theorem wlp_le (ks : List Tree) (i : Nat) : wlp ks i ≤ wlp ks ks.length := by
  unfold wlp
  rw [List.take_length]
  conv => rhs; rw [← List.take_append_drop i ks]
  rw [nodesL_append, leaves_app, List.length_append]
  omega
theorem wl_node {t : Tree} (h : t.rule ≠ -1) : wl t = wlp t.kids t.kids.length := by
  unfold wl wlp
  rw [nodes_eq, List.take_length]
  unfold kidsOf
  rw [if_neg h]
  have : leavesOf (t :: nodesL t.kids) = leavesOf (nodesL t.kids) := by
    unfold leavesOf
    rw [List.filterMap_cons, if_neg h]
  rw [this]
theorem wl_leaf {t : Tree} (h : t.rule = -1) : wl t = 1 := by
  unfold wl
  rw [nodes_eq]
  unfold kidsOf
  rw [if_pos h]
  simp [nodesL, leavesOf, h]
/-- every node of a tree is valid -/
def OkT (g : Gram) (t : Tree) : Prop := ∀ x ∈ nodes t, nodeOk g x = true
theorem OkT.kid {g : Gram} {t : Tree} (h : OkT g t) (hr : t.rule ≠ -1) {k : Tree} (hk : k ∈ t.kids) : OkT g k := by
  intro x hx
  refine h x ?_
  rw [nodes_eq]
  refine List.mem_cons_of_mem _ ?_
  unfold kidsOf
  rw [if_neg hr]
  obtain ⟨i, hi, rfl⟩ := List.getElem_of_mem hk
  rw [nodesL_split hi]
  exact List.mem_append_right _ (List.mem_append_left _ hx)
theorem OkT.size {t : Tree} (hr : t.rule ≠ -1) {i : Nat} (hi : i < t.kids.length) : (nodes t.kids[i]).length < (nodes t).length := by
  rw [nodes_eq t]
  unfold kidsOf
  rw [if_neg hr, nodesL_split hi]
  simp
  omega
theorem OkT.cases {g : Gram} {t : Tree} (h : OkT g t) : t.rule = -1 ∨ ∃ (j : Nat) (hj : j < g.rules.length), t.rule = (j : Int) ∧ t.kids.length = g.rules[j].right.length := by
  have h0 := h t (by rw [nodes_eq]; exact List.mem_cons_self)
  unfold nodeOk at h0
  by_cases h1 : t.rule = -1
  · exact .inl h1
  · rw [if_neg h1] at h0
    by_cases h2 : t.rule < 0
    · rw [if_pos h2] at h0; cases h0
    · rw [if_neg h2] at h0
      obtain ⟨j, hj⟩ := Int.eq_ofNat_of_zero_le (show 0 ≤ t.rule by omega)
      rw [hj, Int.toNat_natCast] at h0
      cases hg : g.rules[j]? with
      | none => rw [hg] at h0; cases h0
      | some r =>
        rw [hg] at h0
        obtain ⟨hjl, rfl⟩ := List.getElem?_eq_some_iff.1 hg
        simp only [Bool.and_eq_true, kidsOk, decide_eq_true_eq] at h0
        exact .inr ⟨j, hjl, hj, h0.2.1⟩
theorem bx_cells5c {w : World} {b : Nat} {x0 x1 x2 x3 x4 : Value} {T : TypeId} (h : w.heap[b]? = some (.cells #[x0, x1, x2, x3, x4] T (0, 0))) :
    w.cell? ⟨b, 0, none⟩ = some x0 ∧ w.cell? ⟨b, 0 + 1, none⟩ = some x1 ∧ w.cell? ⟨b, 0 + 2, none⟩ = some x2 ∧ w.cell? ⟨b, 0 + 3, none⟩ = some x3 ∧ w.cell? ⟨b, 0 + 4, none⟩ = some x4 := by
  refine ⟨?_, ?_, ?_, ?_, ?_⟩ <;> simp [World.cell?, h]
/-- the counter between calls; blocks of Wb but the counts stay -/
structure NI (g : Gram) (vr : Value) (N n : Nat) (d : Cid) (S : Nat → Nat → Bool) (w1 Wb W : World) : Prop where
  cs : CntR g vr N n d S w1 W
  fr : Fr N d Wb W
section
variable {g : Gram} {vr : Value} {N n : Nat} {d : Cid} {S : Nat → Nat → Bool} {w1 Wb W W' : World}
theorem CntR.keep (h : CntR g vr N n d S w1 W) (hb : Below W.heap.size W W') : CntR g vr N n d S w1 W' := by
  obtain ⟨C, hc⟩ := h
  exact ⟨C, hc.keep hb⟩
theorem CntR.bel (h : CntR g vr N n d S w1 W) : Below w1.heap.size w1 W := by obtain ⟨C, hc⟩ := h; exact hc.bel
theorem CntR.big (h : CntR g vr N n d S w1 W) {b : Nat} (hb : W.heap.size ≤ b) : ∀ a, a < N → d.rc a ≠ b := by obtain ⟨C, hc⟩ := h; exact hc.big hb
theorem CntR.over (h : CntR g vr N n d S w1 W) {b : Nat} (hb : d.cb < b) : ∀ a, a < N → d.rc a ≠ b := by
  obtain ⟨C, hc⟩ := h
  intro a ha e
  have := (hc.rc a ha).2
  omega
theorem CntR.low (h : CntR g vr N n d S w1 W) {b : Nat} (hb : b < w1.heap.size) : ∀ a, a < N → d.rc a ≠ b := by
  obtain ⟨C, hc⟩ := h
  intro a ha e
  have := (hc.rc a ha).1
  omega
theorem NI.start (h : CntR g vr N n d S w1 W) : NI g vr N n d S w1 W W := ⟨h, Fr.refl _ _ _⟩
theorem NI.keep (h : NI g vr N n d S w1 Wb W) (hb : Below W.heap.size W W') : NI g vr N n d S w1 Wb W' := ⟨h.cs.keep hb, h.fr.trans (Fr.of hb)⟩
theorem NI.of (h : NI g vr N n d S w1 Wb W) (hf : Fr N d W W') (hc : CntR g vr N n d S w1 W') : NI g vr N n d S w1 Wb W' := ⟨hc, h.fr.trans hf⟩
end
/-- what 'of' answers -/
def OfTPost (g : Gram) (vr : Value) (N n : Nat) (d : Cid) (S : Nat → Nat → Bool) (w1 : World) (t : Tree) (W : World) (e : Ending) (W' : World) : Prop :=
  ∃ i : Int, e = .returned (.tuple #[.int .i64 (wl t : Int), .int .i64 i]) ∧ Fr N d W W' ∧ CntR g vr N n d S w1 W'
end Cs
end Go.Proofs.Ytbnpemgmdnghgaa
