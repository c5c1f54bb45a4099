/- The walk of lengthsOf. -/
import Derived.Test.YtjehmleckcmilaaLenI
import Derived.IntWalk
import Derived.Deep.DeepCutAuto
import Derived.Deep.CutBlock
namespace Go.Proofs.Ytjehmleckcmilaa
open Go.RowKit
namespace Ln

def LenPost (g : Gram) (n : Nat) (w : World) (e : Ending) (w' : World) : Prop :=
  ∃ (bt : Nat) (rb : Nat → Nat) (C : Nat → Nat → Bool), e = .returned (.slice (some ⟨bt, 0, none⟩) g.nons.toNat g.nons.toNat) ∧ Grd 78 4 w.heap.size bt g.nons.toNat (n + 1) g.nons.toNat rb (fun i j => .bool (C i j)) w' ∧ (∀ a k, a < g.nons.toNat → k ≤ n → (C a k = true ↔ Has g.rules (a : Int) k)) ∧ Below w.heap.size w w'

set_option maxHeartbeats 8000000 in
set_option maxRecDepth 100000 in
theorem lengthsE (g : Gram) (hg : checkG g = 0) (n : Nat) (hn : n ≤ 400) (ar : Option Addr) (cr : Nat) (w : World) (hr : Rd AnyB w (.sl (g.rules.map Rule.d)) [.slice ar g.rules.length cr]) :
    Calls Try.prog 108 #[.agg #[.int .i64 g.terms, .int .i64 g.nons, .int .i64 g.start, .slice ar g.rules.length cr], .int .i64 n] w (LenPost g n w) := by
  obtain ⟨⟨hg1, hg2, hg3, hg4, hg5, hg6⟩, hg7, hg8⟩ := checkG_zero hg
  have HRU := Lib.hid hg8
  have hbs := hr.bounds.2
  unfold maxLen at hbs
  obtain ⟨hc1, hc2⟩ := hbs
  obtain ⟨w0, HW0⟩ := nameIt ((w.alloc (.cells #[.int .i64 g.terms, .int .i64 g.nons, .int .i64 g.start, .slice ar g.rules.length cr] 77)).alloc (.cells #[.int .i64 n] 3))
  have HB0 : Hid (Below w.heap.size w w0) := by rw [← HW0.out]; exact ((Below.refl _ _).alloc (Nat.le_refl _) _).alloc (by simp) _
  have X1 : Hid (w0.heap[w.heap.size]? = some (.cells #[.int .i64 g.terms, .int .i64 g.nons, .int .i64 g.start, .slice ar g.rules.length cr] 77 (0, 0))) := by rw [← HW0.out]; exact bx_keep (bx_new _ _ _ rfl) ((Below.refl _ _).alloc (Nat.le_refl _) _)
  have N1 : Hid (w0.heap[w.heap.size + 1]? = some (.cells #[.int .i64 n] 3 (0, 0))) := by rw [← HW0.out]; exact bx_new _ _ _ (by simp)
  have HZ0 : Hid (w0.heap.size = w.heap.size + 2) := by rw [← HW0.out]; exact Lib.hid (by simp)
  have HR := Lib.hid hr
  obtain ⟨N, HN⟩ : ∃ N : Nat, g.nons = (N : Int) := ⟨g.nons.toNat, by omega⟩
  have HNN := Lib.hid HN
  have HFIN : Hid (∀ (bt : Nat) (rb : Nat → Nat) (C : Nat → Nat → Bool) W, Grd 78 4 w.heap.size bt N (n + 1) N rb (fun i j => .bool (C i j)) W → (∀ a k, a < N → k ≤ n → (C a k = true ↔ Has g.rules (a : Int) k)) → Below w.heap.size w W → LenPost g n w (.returned (.slice (some ⟨bt, 0, none⟩) N N)) W) := by
    intro bt rb C W h1 h2 h3
    have e : g.nons.toNat = N := by rw [HN]; simp
    refine ⟨bt, rb, C, by rw [e], by rw [e]; exact h1, by rw [e]; exact h2, h3⟩
  have hN1 : 1 ≤ N := by omega
  have hN10 : N ≤ 10 := by omega
  have hgr := gridB N (n + 1) w0 ⟨by omega, by omega⟩ ⟨by omega, by omega⟩
  rw [show ((n + 1 : Nat) : Int) = (n : Int) + 1 by omega] at hgr
  have HGR := Lib.hid hgr
  have hmk : ∀ W : World, (Instr.makeMap 268 none).run Try.prog W = .ok (.map (some W.heap.size)) (W.alloc (.map #[] 0)) := fun W => by
    simp [Instr.makeMap, run_underlying Try.underlying268]; try rfl
  obtain ⟨gt, HGT⟩ := nameIt g.terms
  obtain ⟨gs, HGS⟩ := nameIt g.start
  obtain ⟨K, HK⟩ := nameIt g.rules
  rw [HGT.out, HN, HGS.out, HK.out] at X1 HW0
  rw [HK.out] at HR hc1 hg7 HRU HFIN
  rw [HGT.out, HN, HGS.out, HK.out]
  obtain ⟨x0, x1, x2, x3⟩ := bx_cells4 X1.out
  have n0 := bx_cells1 N1.out
  clear hr HN hg1 hg2 hg3 hg4 hg5 hg6 hg8 hgr
  go_enter Try.func108, Try.ntmps108
  go_upto_region 1 with fail
  rw [HW0.out]
  go_wp2_with fail
  refine HGR.out.mono ?_
  rintro e w2 ⟨bt, rb, rfl, hgrd, hb2⟩
  clear x0 x1 x2 x3 n0
  have HGD := Lib.hid hgrd
  have HB2 := Lib.hid hb2
  clear hgrd hb2
  obtain ⟨s, HS⟩ := nameIt w2.heap.size
  obtain ⟨w3, HW3⟩ := nameIt ((((w2.alloc (.map #[] 0)).alloc (.cells #[.map (some s)] 268)).alloc (.cells #[.slice none 0 0] 269)).alloc (.cells #[.slice none 0 0] 269))
  obtain ⟨G, HG⟩ : ∃ G : Array Value, Hid (G = #[.int .i64 gt, .int .i64 N, .int .i64 gs, .slice ar K.length cr]) := ⟨_, rfl⟩
  have HB3 : Hid (Below w2.heap.size w2 w3) := by rw [← HW3.out]; exact ((((Below.refl _ _).alloc (Nat.le_refl _) _).alloc (by simp) _).alloc (by simp; omega) _).alloc (by simp; omega) _
  have HM0 : Hid (MI w s n N G bt rb (fun _ => False) [] 0 [] 0 0 (fun _ _ => false) w3) := by
    have hz := HZ0.out
    have h1 := HGD.out
    rw [hz] at h1
    refine ⟨AI.start HS.out.symm (bx_keep N1.out HB2.out) HW3.out, h1.keep HB3.out, ⟨by rw [← HS.out]; exact h1.lt, fun i hi => by rw [← HS.out]; exact h1.rlt hi hi⟩, ?_, ?_⟩
    · rw [HG.out]; exact bx_keep (bx_keep X1.out HB2.out) HB3.out
    · have h2 : Below w.heap.size w w2 := HB0.out.trans (HB2.out.mono HB0.out.size)
      exact h2.trans (HB3.out.mono h2.size)
  have HGR0 : Hid (Grow K n [] []) := ⟨List.prefix_refl _, List.nodup_nil, by simp⟩
  have HRT4 : Hid (∀ i, (rt K i).length ≤ 4) := by
    intro i
    by_cases h : i < K.length
    · rw [rt_eq h]; exact (HRU.out _ (List.getElem_mem h)).2.2.1
    · simp [rt, List.getElem?_eq_none (Nat.le_of_not_lt h)]
  have hbx := HM0.out.gbox
  rw [HG.out] at hbx
  obtain ⟨x0, x1, x2, x3⟩ := bx_cells4 hbx
  clear hbx
  go_upto_region 5 with fail
  rw [HS.out, HW3.out]
  go_wp2_with fail
  clear x0 x1 x2 x3 hmk
  go_loopg [29] K.length (fun gg v29 wr => ∃ (j : Nat) (L : List (Nat × Nat × Nat)), j ≤ K.length ∧ K.length - j ≤ gg ∧ v29 = .int .i64 j ∧ Hid (MI w s n N G bt rb (fun _ => False) L 0 [] 0 0 (fun _ _ => false) wr) ∧ Hid (Grow K n [] L) ∧ Hid (∀ i, i < j → (i, 0, 0) ∈ L))
  case atStart => exact ⟨0, [], by omega, by omega, rfl, HM0, HGR0, fun i h => by omega⟩
  case round =>
    clear HM0 HGR0
    obtain ⟨j, L, hj, hgj, rfl, HM, HGW, HIN⟩ := hrel
    by_cases hjK : j < K.length
    · have hjK' : (j : Int) < (K.length : Int) := by omega
      have hcall : Calls Try.prog 178 #[.agg #[.int .i64 (j : Int), .int .i64 0, .int .i64 0], .pointer (some ⟨w.heap.size + 1, 0, none⟩), .pointer (some ⟨s + 1, 0, none⟩), .pointer (some ⟨s + 2, 0, none⟩), .pointer (some ⟨s + 3, 0, none⟩)] wr _ :=
        addE wr (w.heap.size + 1) s n (fun _ => False) L 0 [] 0 0 j 0 0 wr HM.out.ai ⟨by show j ≤ 1000; omega, by show 0 ≤ 1000; omega, by show 0 ≤ 1000; omega⟩ hn (by have := HGW.out.len hg7 HRT4.out hn; omega)
      have HC := Lib.hid hcall
      clear hcall
      go_wp2_with fail
      (with_reducible refine HC.out.mono ?_)
      rintro e w4 ⟨rfl, hai⟩
      have HM1 := Lib.hid (HM.out.call hai)
      have HG1 := Lib.hid (HGW.out.add (x := (j, 0, 0)) (.start hjK))
      have HI1 : Hid (∀ i, i < j + 1 → (i, 0, 0) ∈ addL n L (j, 0, 0)) := by
        intro i hi
        by_cases e : i = j
        · subst e; exact mem_addL (Nat.zero_le _)
        · exact mem_addL_old (HIN.out i (by omega))
      clear hai
      go_wp2_with fail
      go_roundg (K.length - (j + 1))
      case measure => omega
      case rel => exact ⟨j + 1, _, by omega, by omega, by go_num, HM1, HG1, HI1⟩
    · have hjK' : ¬ (j : Int) < (K.length : Int) := by omega
      have HIT0 : Hid (Items K n L 0 (fun _ _ => false)) := Items.start' HGW.out (fun i hi => HIN.out i (by omega))
      clear HIN HGW
      obtain ⟨wl, rfl⟩ : ∃ wl : World, wl = wr := ⟨_, rfl⟩
      go_wp2_with fail
      go_loopg [] 64161 (fun gg wr => ∃ (p : Nat) (L : List (Nat × Nat × Nat)) (C : Nat → Nat → Bool), p ≤ L.length ∧ 64160 - p ≤ gg ∧ Hid (MI w s n N G bt rb (fun _ => False) L p [] 0 0 C wr) ∧ Hid (Items K n L p C))
      case atStart => exact ⟨0, L, _, by omega, by omega, HM, HIT0⟩
      case round =>
        clear HM HIT0 L
        obtain ⟨wo, rfl⟩ : ∃ wo : World, wo = wr := ⟨_, rfl⟩
        obtain ⟨p, L, C, hp, hgp, HM, HIT⟩ := hrel
        have hLlen : L.length ≤ 64160 := (Grow.refl HIT.out.nodup HIT.out.sound).len hg7 HRT4.out hn
        by_cases hpl : p < L.length
        · obtain ⟨⟨i, d, l⟩, HXX⟩ := nameIt (L[p]'hpl)
          have hit := HIT.out.sound _ (List.getElem_mem hpl)
          rw [HXX.out] at hit
          obtain ⟨hit1, hit2⟩ := hit
          simp only at hit1 hit2
          have HITX := Lib.hid hit1
          have hiK : i < K.length := hit1.lt
          have hdR : d ≤ (rt K i).length := hit1.dot
          clear hit1
          obtain ⟨ib, HIB⟩ := nameIt wo.heap.size
          obtain ⟨g, off, cap, hq3, hq4, hq5, hgs, hgw, e0, e1, e2, hpop⟩ := HM.out.ai.first (X' := fun k => k = ib) hpl HXX.out
          simp only at e0 e1 e2
          obtain ⟨nq, HNQ⟩ := nameIt (L.length - p)
          have hnq : 1 ≤ nq := by have := HNQ.out; omega
          have hnq' : (0 : Int) < (nq : Int) := by omega
          rw [HNQ.out] at hq3 hq4 hpop
          unfold maxLen at hq5
          obtain ⟨w4, HW4⟩ := nameIt (wo.alloc (.cells #[.int .i64 i, .int .i64 d, .int .i64 l] 271))
          have hb4 : Below wo.heap.size wo w4 := by rw [← HW4.out]; exact (Below.refl _ _).alloc (Nat.le_refl _) _
          have I4 : Hid (w4.heap[ib]? = some (.cells #[.int .i64 i, .int .i64 d, .int .i64 l] 271 (0, 0))) := by rw [← HW4.out]; exact bx_new _ _ _ HIB.out.symm
          have hs4 : w4.heap.size = wo.heap.size + 1 := by rw [← HW4.out]; simp
          have hpop4 := hpop w4 hb4 (fun k hk => .inr (by have := HIB.out; omega))
          obtain ⟨v5, HV5⟩ := nameIt (Value.slice (if cap = 1 then some (⟨g, off, none⟩ : Addr) else some ⟨g, off + 3, none⟩) (nq - 1) (cap - 1))
          rw [HV5.out] at hpop4
          have HMP0 := Lib.hid (HM.out.pop hb4 hpop4)
          have hz4 : s + 4 ≤ wo.heap.size := HM.out.ai.le
          have HIBS : Hid (s + 4 ≤ ib) := by have := HIB.out; exact Lib.hid (by omega)
          have c3 := bx_cells1 hq3
          have c4 := bx_cells1 (bx_keep hq3 hb4)
          have f4 := bx_free1 (bx_keep hq3 hb4)
          clear hpop hpop4 hs4
          go_upto_region 12 with fail
          rw [HW4.out]
          go_cut [] (fun wx => wx = w4.setCell ⟨s + 3, 0, none⟩ v5)
          case first =>
            by_cases hc1 : cap = 1
            · have HV6 := HV5.out
              rw [if_pos hc1] at HV6
              subst hc1
              rw [show nq - 1 = 0 by omega] at HV6
              have HV7 := Lib.hid HV6
              clear HV6
              go_wp2_with fail
              go_meet
              rw [← HV7.out]
            · have HV6 := HV5.out
              rw [if_neg hc1] at HV6
              have HV7 := Lib.hid HV6
              clear HV6
              go_wp2_with fail
              go_meet
              rw [← HV7.out]
          case rest =>
            have I5 : Hid (wc.heap[ib]? = some (.cells #[.int .i64 i, .int .i64 d, .int .i64 l] 271 (0, 0))) := by
              show _ = _
              rw [hcut]
              exact bx_other I4.out (by have := HIBS.out; omega) _ _
            have HMP : Hid (MI w s n N G bt rb (fun k => k = ib) L (p + 1) [] 0 0 C wc) := by rw [hcut]; exact HMP0.out
            obtain ⟨w5, rfl⟩ : ∃ ww : World, ww = wc := ⟨_, rfl⟩
            clear hcut HMP0 I4 HV5 hb4 HW4 e0 e1 e2 c3 c4 f4 hq3 hq4
            obtain ⟨b, ro, vr, hae, -, hbl0, d0, d1, hkr⟩ := HR.out.rule_at hiK
            have c0 := (HMP.out.bel.cell (p := ⟨b, ro + i * 2, none⟩) (lt_of_cell d0)).trans d0
            have c1 := (HMP.out.bel.cell (p := ⟨b, ro + i * 2 + 1, none⟩) (lt_of_cell d1)).trans d1
            obtain ⟨av, cv, rfl, -, hcv⟩ := hkr.form
            rw [List.length_map] at c1 hkr
            obtain ⟨hl0, hl1, hl2, hl3⟩ := HRU.out K[i] (List.getElem_mem hiK)
            have HRTX := Lib.hid (rt_eq hiK)
            have HLTX := Lib.hid (lft_eq hiK)
            obtain ⟨r, HRn⟩ := nameIt (K[i]'hiK)
            rw [HRn.out] at c0 c1 hkr hl0 hl1 hl2 hl3 HRTX HLTX
            obtain ⟨lf0, HLF⟩ := nameIt r.left
            obtain ⟨R, HRR⟩ := nameIt r.right
            rw [HLF.out] at c0 hl0 hl1 HLTX
            rw [HRR.out] at c1 hkr hl2 hl3 HRTX
            rw [HNN.out] at hl1
            rw [HRTX.out] at hdR
            have HL3 := Lib.hid hl3
            obtain ⟨lf, hlf⟩ : ∃ n : Nat, lf0 = (n : Int) := ⟨lf0.toNat, by omega⟩
            subst hlf
            have hlfN : lf < N := by omega
            have HKR := Lib.hid (hkr.below HMP.out.bel)
            obtain ⟨rx, HRX⟩ := nameIt w5.heap.size
            have HRXS : Hid (s + 4 ≤ rx ∧ ib < rx) := by
              have h1 := HMP.out.ai.le
              have h2 := (Array.getElem?_eq_some_iff.1 I5.out).1
              rw [HRX.out] at h1 h2
              exact ⟨h1, h2⟩
            obtain ⟨w6, HW6⟩ := nameIt (w5.alloc (.cells #[.int .i64 lf, .slice av R.length cv] 189))
            have hb6 : Below w5.heap.size w5 w6 := by rw [← HW6.out]; exact (Below.refl _ _).alloc (Nat.le_refl _) _
            have hs6 : w6.heap.size = w5.heap.size + 1 := by rw [← HW6.out]; simp
            have R6 : Hid (w6.heap[rx]? = some (.cells #[.int .i64 lf, .slice av R.length cv] 189 (0, 0))) := by rw [← HW6.out]; exact bx_new _ _ _ HRX.out.symm
            have I6 := Lib.hid (bx_keep I5.out hb6)
            have HM6 : Hid (MI w s n N G bt rb (fun k => k = ib ∨ k = rx) L (p + 1) [] 0 0 C w6) := HMP.out.keep hb6 (fun k hk => hk.imp id (fun e => by have := HRX.out; omega))
            have hbx := HMP.out.gbox
            rw [HG.out] at hbx
            obtain ⟨x0, x1, x2, x3⟩ := bx_cells4 hbx
            obtain ⟨y0, y1, y2⟩ := bx_cells3 I5.out
            have hiK' : (i : Int) < (K.length : Int) := by omega
            have hi0 : (0 : Int) ≤ (i : Int) := by omega
            rw [HIB.out]
            subst hae
            clear hbx hb6 hs6 d0 d1 hkr hl3
            go_upto_region 14 with fail
            rw [HW6.out, HRX.out]
            clear c0 c1 x0 x1 x2 x3 y0 y1 y2
            obtain ⟨y0, y1, y2⟩ := bx_cells3 I6.out
            obtain ⟨z0, z1⟩ := bx_cells2 R6.out
            by_cases hdl : d = R.length
            · have hdl' : ((d : Int) == (R.length : Int)) = true := by simp; omega
              have h0 := HM6.out.can.hdr hlfN hlfN
              have h1 := HM6.out.can.cell hlfN hlfN (j := l) (by omega)
              obtain ⟨rl, HRL⟩ := nameIt (rb lf)
              rw [HRL.out] at h0 h1
              obtain ⟨cb, HCB⟩ := nameIt (C lf l)
              rw [HCB.out] at h1
              have hlf0 : (0 : Int) ≤ (lf : Int) := by omega
              have hlf1 : (lf : Int) < (N : Int) := by omega
              have hll0 : (0 : Int) ≤ (l : Int) := by omega
              have hll1 : (l : Int) < (n : Int) + 1 := by omega
              go_wp2_with fail
              go_quiet (fail)
              cases cb with
              | true =>
                have HITN : Hid (Items K n L (p + 1) C) := HIT.out.full_old hpl HXX.out (by rw [HRTX.out]; exact hdl) (by rw [HLTX.out]; simpa using HCB.out)
                have HMN : Hid (MI w s n N G bt rb (fun _ => False) L (p + 1) [] 0 0 C (w6.drewN nq)) := HM6.out.keep (below_drewN _ _) (fun k hk => hk.elim)
                go_wp2_with fail
                go_roundg (64160 - (p + 1))
                case measure => omega
                case rel => exact ⟨p + 1, L, C, hpl, by omega, HMN, HITN⟩
              | false =>
                go_upto_region 16 with fail
                obtain ⟨w7, HW7⟩ := nameIt (w6.drewN nq)
                have hb7 : Below w6.heap.size w6 w7 := by rw [← HW7.out]; exact below_drewN _ _
                rw [HW7.out]
                have HM7 := Lib.hid (HM6.out.keep (X' := fun k => k = ib ∨ k = rx) hb7 (fun k hk => .inl hk))
                have I7 := Lib.hid (bx_keep I6.out hb7)
                have R7 := Lib.hid (bx_keep R6.out hb7)
                clear h0 h1 y0 y1 y2 z0 z1
                obtain ⟨y0, y1, y2⟩ := bx_cells3 I7.out
                obtain ⟨z0, z1⟩ := bx_cells2 R7.out
                have h0 := HM7.out.can.hdr hlfN hlfN
                have h1 := HM7.out.can.cell hlfN hlfN (j := l) (by omega)
                have f1 := HM7.out.can.free hlfN hlfN l
                rw [HRL.out] at h0 h1 f1
                obtain ⟨C', HC'⟩ : ∃ C' : Nat → Nat → Bool, Hid (∀ a b, C' a b = if a = lf ∧ b = l then true else C a b) := ⟨fun a b => if a = lf ∧ b = l then true else C a b, fun _ _ => rfl⟩
                have hdr7 : ∀ W : World, Below W.heap.size W W.drew := fun W => (Below.refl _ _).drew
                have HM8 : Hid (MI w s n N G bt rb (fun k => k = ib ∨ k = rx) L (p + 1) [] 0 0 C' (w7.setCell ⟨rl, l, none⟩ (.bool true)).drew) := by
                  have h := (HM7.out.set hlfN (j := l) (by omega) (fun a b _ _ => HC'.out a b)).keep (X' := fun k => k = ib ∨ k = rx) (hdr7 _) (fun k hk => .inl hk)
                  rw [HRL.out] at h
                  exact h
                have hrls : rl < s := by rw [← HRL.out]; exact HM7.out.lim.2 lf hlfN
                have I8 : Hid ((w7.setCell ⟨rl, l, none⟩ (.bool true)).drew.heap[ib]? = some (.cells #[.int .i64 i, .int .i64 d, .int .i64 l] 271 (0, 0))) := bx_keep (bx_other I7.out (by have := HIBS.out; omega) _ _) (hdr7 _)
                have R8 : Hid ((w7.setCell ⟨rl, l, none⟩ (.bool true)).drew.heap[rx]? = some (.cells #[.int .i64 lf, .slice av R.length cv] 189 (0, 0))) := bx_keep (bx_other R7.out (by have := HRXS.out; omega) _ _) (hdr7 _)
                obtain ⟨w8, HW8⟩ := nameIt (w7.setCell ⟨rl, l, none⟩ (.bool true)).drew
                rw [HW8.out] at HM8 I8 R8
                obtain ⟨ga, oa, ca, hall, hca1, hca2, hsn⟩ := HM8.out.snap (by omega)
                unfold maxLen at hca2
                have HM9 := Lib.hid hsn
                have k2 := bx_cells1 hall
                have HLF : Hid (lft K i = (lf : Int)) := HLTX
                have HPOS : Hid (∀ i, i < K.length → ∀ s ∈ rt K i, s.term = false → 0 ≤ s.n) := by
                  intro i hi s hs ht
                  rw [rt_eq hi] at hs
                  have h := (HRU.out K[i] (List.getElem_mem hi)).2.2.2 s hs
                  unfold hasS at h
                  simp at h; exact h.1
                have HG0 : Hid (Grow K n L L) := Grow.refl HIT.out.nodup HIT.out.sound
                have HIN0 : Hid (∀ y ∈ L.take 0, ∀ s, (rt K y.1)[y.2.1]? = some s → s.term = false → s.n = (lf : Int) → y.2.2 + l ≤ n → (y.1, y.2.1 + 1, y.2.2 + l) ∈ L) := fun y hy => by simp at hy
                clear hall hsn hb7
                refine wp_region_still_tail 8 (by kernel_rfl) (by kernel_rfl) ?_
                simp only [List.take_succ_cons, List.take_zero, List.drop_succ_cons, List.drop_zero]
                change wpStill _ _ (World.drew _) _ _ _
                repeat still_step
                refine wpStill_nil ?_
                change wpList _ _ _ _ _ (World.drew _)
                go_upto_region 17 with fail
                rw [HW8.out]
                clear h0 h1 f1 y0 y1 y2 z0 z1 hdr7
                go_wp2_with fail
                go_loopg [77] L.length (fun gg v77 wr => ∃ (q : Nat) (L' : List (Nat × Nat × Nat)), q ≤ L.length ∧ L.length - q ≤ gg ∧ v77 = .int .i64 q ∧ Hid (MI w s n N G bt rb (fun k => k = ib ∨ k = rx) L' (p + 1) L ga oa C' wr) ∧ Hid (Grow K n L L') ∧ Hid (∀ y ∈ L.take q, ∀ s, (rt K y.1)[y.2.1]? = some s → s.term = false → s.n = (lf : Int) → y.2.2 + l ≤ n → (y.1, y.2.1 + 1, y.2.2 + l) ∈ L') ∧ Hid (wr.heap[ib]? = some (.cells #[.int .i64 i, .int .i64 d, .int .i64 l] 271 (0, 0))) ∧ Hid (wr.heap[rx]? = some (.cells #[.int .i64 lf, .slice av R.length cv] 189 (0, 0))))
                case atStart => exact ⟨0, L, by omega, by omega, rfl, HM9, HG0, HIN0, I8, R8⟩
                case round =>
                  clear HM9 HG0 HIN0 I8 R8 HM8
                  obtain ⟨wi, rfl⟩ : ∃ wi : World, wi = wr := ⟨_, rfl⟩
                  obtain ⟨q, L', hq, hgq, rfl, HMI, HGI, HIN, II, RI⟩ := hrel
                  by_cases hqL : q < L.length
                  · have hqL' : (q : Int) < (L.length : Int) := by omega
                    have hq0 : (0 : Int) ≤ (q : Int) := by omega
                    obtain ⟨⟨yi, yd, yl⟩, HYY⟩ := nameIt (L[q]'hqL)
                    obtain ⟨e0, e1, e2⟩ := HMI.out.read hqL HYY.out
                    have hyt := HIT.out.sound _ (List.getElem_mem hqL)
                    rw [HYY.out] at hyt
                    obtain ⟨hyt1, hyt2⟩ := hyt
                    simp only at hyt1 hyt2 e0 e1 e2
                    have HYT := Lib.hid hyt1
                    have hyK : yi < K.length := hyt1.lt
                    have hydR : yd ≤ (rt K yi).length := hyt1.dot
                    have HTKQ : Hid (∀ y ∈ L.take (q + 1), y ∈ L.take q ∨ y = (yi, yd, yl)) := by
                      intro y hy
                      rw [List.take_succ_eq_append_getElem hqL, HYY.out] at hy
                      simpa using hy
                    clear hyt1
                    obtain ⟨bq, rq, vrq, haq, -, hblq, g0, g1, hkq⟩ := HR.out.rule_at hyK
                    cases haq
                    have g2 := (HMI.out.bel.cell (p := ⟨b, ro + yi * 2 + 1, none⟩) (lt_of_cell g1)).trans g1
                    obtain ⟨aq, cq, rfl, -, hcq⟩ := hkq.form
                    rw [List.length_map] at g2 hkq
                    have hsq := (HRU.out K[yi] (List.getElem_mem hyK)).2.2.2
                    have hq4 := (HRU.out K[yi] (List.getElem_mem hyK)).2.2.1
                    have HRTY := Lib.hid (rt_eq hyK)
                    obtain ⟨Rq, HRQ⟩ := nameIt (K[yi]'hyK).right
                    rw [HRQ.out] at g2 hkq hsq hq4 HRTY
                    rw [HRTY.out] at hydR
                    have HSQ := Lib.hid hsq
                    obtain ⟨yb, HYB⟩ := nameIt wi.heap.size
                    obtain ⟨w9, HW9⟩ := nameIt (wi.alloc (.cells #[.int .i64 yi, .int .i64 yd, .int .i64 yl] 271))
                    have hb9 : Below wi.heap.size wi w9 := by rw [← HW9.out]; exact (Below.refl _ _).alloc (Nat.le_refl _) _
                    have Y9 : Hid (w9.heap[yb]? = some (.cells #[.int .i64 yi, .int .i64 yd, .int .i64 yl] 271 (0, 0))) := by rw [← HW9.out]; exact bx_new _ _ _ HYB.out.symm
                    have HM9 := Lib.hid (HMI.out.keep (X' := fun k => k = ib ∨ k = rx) hb9 (fun k hk => .inl hk))
                    have I9 := Lib.hid (bx_keep II.out hb9)
                    have R9 := Lib.hid (bx_keep RI.out hb9)
                    have HKQ := Lib.hid (hkq.below HM9.out.bel)
                    have g3 := (hb9.cell (p := ⟨b, ro + yi * 2 + 1, none⟩) (lt_of_cell g2)).trans g2
                    have hbx := HM9.out.gbox
                    rw [HG.out] at hbx
                    obtain ⟨x0, x1, x2, x3⟩ := bx_cells4 hbx
                    obtain ⟨y0, y1, y2⟩ := bx_cells3 Y9.out
                    obtain ⟨z0, z1⟩ := bx_cells2 R9.out
                    obtain ⟨i0, i1, i2⟩ := bx_cells3 I9.out
                    have hyK' : (yi : Int) < (K.length : Int) := by omega
                    have hy0 : (0 : Int) ≤ (yi : Int) := by omega
                    have HNXT : Hid (∀ (L2 : List (Nat × Nat × Nat)), (∀ x ∈ L', x ∈ L2) → ((∀ s, Rq[yd]? = some s → s.term = false → s.n = (lf : Int) → yl + l ≤ n → (yi, yd + 1, yl + l) ∈ L2)) → ∀ y ∈ L.take (q + 1), ∀ s, (rt K y.1)[y.2.1]? = some s → s.term = false → s.n = (lf : Int) → y.2.2 + l ≤ n → (y.1, y.2.1 + 1, y.2.2 + l) ∈ L2) := by
                      intro L2 h1 h2 y hy s hs ht hn hl
                      rcases HTKQ.out y hy with hy | rfl
                      · exact h1 _ (HIN.out y hy s hs ht hn hl)
                      · rw [show rt K (yi, yd, yl).1 = Rq from HRTY.out] at hs
                        exact h2 s hs ht hn hl
                    clear hb9 g0 g1 g2 hkq hsq hbx
                    go_upto_region 20 with fail
                    rw [HW9.out, HYB.out]
                    clear e0 e1 e2
                    go_upto_region 21 with fail
                    clear x0 x1 x2 x3 g3
                    by_cases hyl : yd < Rq.length
                    · have hyl' : decide (yd < Rq.length) = true := by simpa using hyl
                      have hyl2 : (yd : Int) < (Rq.length : Int) := by omega
                      have hyd0 : (0 : Int) ≤ (yd : Int) := by omega
                      obtain ⟨b', off', hae', -, hbl', d0, d1⟩ := HKQ.out.sym_at hyl
                      have HSD : Hid (Rq[yd]? = some (Rq[yd]'hyl)) := List.getElem?_eq_getElem hyl
                      have hsb := HSQ.out Rq[yd] (List.getElem_mem hyl)
                      obtain ⟨sy, HSY⟩ := nameIt (Rq[yd]'hyl)
                      rw [HSY.out] at d0 d1 HSD hsb
                      obtain ⟨st, HST⟩ := nameIt sy.term
                      obtain ⟨sn, HSN⟩ := nameIt sy.n
                      rw [HST.out] at d0
                      rw [HSN.out] at d1
                      subst hae'
                      by_cases hok : st = false ∧ sn = (lf : Int)
                      · obtain ⟨rfl, rfl⟩ := hok
                        have hlb : ((lf : Int) == (lf : Int)) = true := by simp
                        have hbd1 : (yd : Int) ≤ 4 := by omega
                        have hbd2 : (yl : Int) ≤ 400 := by omega
                        have hbd3 : (l : Int) ≤ 400 := by omega
                        have hbd4 : (0 : Int) ≤ (yl : Int) := by omega
                        have hbd5 : (0 : Int) ≤ (l : Int) := by omega
                        have hsw1 : IntKind.i64.wrap ((yd : Int) + 1) = (yd : Int) + 1 := IntWalk.i64_in _ (by omega)
                        have hsw2 : IntKind.i64.wrap ((yl : Int) + (l : Int)) = (yl : Int) + (l : Int) := IntWalk.i64_in _ (by omega)
                        have HSW1 := Lib.hid hsw1
                        have HSW2 := Lib.hid hsw2
                        clear hsw1 hsw2
                        go_quiet (fail)
                        obtain ⟨wz, HWZ⟩ := nameIt (w9.drewN nq)
                        rw [HWZ.out]
                        have hbz : Below w9.heap.size w9 wz := by rw [← HWZ.out]; exact below_drewN _ _
                        have HMZ := Lib.hid (HM9.out.keep (X' := fun k => k = ib ∨ k = rx) hbz (fun k hk => .inl hk))
                        have IZ := Lib.hid (bx_keep I9.out hbz)
                        have RZ := Lib.hid (bx_keep R9.out hbz)
                        have YZ := Lib.hid (bx_keep Y9.out hbz)
                        have hcall := addMI HMZ.out (i := yi) (d := yd + 1) (l := yl + l) (d' := (yd : Int) + 1) (l' := (yl : Int) + (l : Int)) (by omega) (by omega) (by omega) (by omega) (by omega) hn (by have := HGI.out.len hg7 HRT4.out hn; omega)
                        have HC := Lib.hid hcall
                        clear hcall hbz y0 y1 y2 z0 z1 i0 i1 i2 d0 d1
                        obtain ⟨y0, y1, y2⟩ := bx_cells3 YZ.out
                        obtain ⟨i0, i1, i2⟩ := bx_cells3 IZ.out
                        go_wp2_with fail
                        (with_reducible refine HC.out.mono ?_)
                        rintro e wa ⟨rfl, hai⟩
                        have HMA := Lib.hid (HMZ.out.call hai)
                        have IA : Hid (wa.heap[ib]? = some (.cells #[.int .i64 i, .int .i64 d, .int .i64 l] 271 (0, 0))) := (hai.px ib (.inl rfl)).2.trans IZ.out
                        have RA : Hid (wa.heap[rx]? = some (.cells #[.int .i64 lf, .slice av R.length cv] 189 (0, 0))) := (hai.px rx (.inr rfl)).2.trans RZ.out
                        have HGA := Lib.hid (HGI.out.add (x := (yi, yd + 1, yl + l)) (.non HYT.out (by rw [HRTY.out]; exact HSD.out) HST.out (by have h := HITX.out; rw [hdl, ← HRTX.out] at h; exact h) (by rw [HLF.out, HSN.out])))
                        have HIA := Lib.hid (HNXT.out (addL n L' (yi, yd + 1, yl + l)) (fun x hx => mem_addL_old hx) (fun s _ _ _ hl => mem_addL hl))
                        clear hai
                        go_wp2_with fail
                        go_roundg (L.length - (q + 1))
                        case measure => omega
                        case rel => exact ⟨q + 1, _, by omega, by omega, by go_num, HMA, HGA, HIA, IA, RA⟩
                      · have HIA : Hid (∀ y ∈ L.take (q + 1), ∀ s, (rt K y.1)[y.2.1]? = some s → s.term = false → s.n = (lf : Int) → y.2.2 + l ≤ n → (y.1, y.2.1 + 1, y.2.2 + l) ∈ L') := HNXT.out L' (fun x hx => hx) (fun s hs ht hn' _ => absurd ⟨by rw [← HST.out, ← ht]; rw [HSD.out] at hs; cases hs; rfl, by rw [← HSN.out, ← hn']; rw [HSD.out] at hs; cases hs; rfl⟩ hok)
                        cases st with
                        | true =>
                          clear hok
                          go_quiet (fail)
                          have HMA := Lib.hid (HM9.out.keep (X' := fun k => k = ib ∨ k = rx) (below_drewN w9 nq) (fun k hk => .inl hk))
                          have IA := Lib.hid (bx_keep I9.out (below_drewN w9 nq))
                          have RA := Lib.hid (bx_keep R9.out (below_drewN w9 nq))
                          go_wp2_with fail
                          go_roundg (L.length - (q + 1))
                          case measure => omega
                          case rel => exact ⟨q + 1, L', by omega, by omega, by go_num, HMA, HGI, HIA, IA, RA⟩
                        | false =>
                          have hlb : (sn == (lf : Int)) = false := by simpa using hok
                          clear hok
                          go_quiet (fail)
                          have HMA := Lib.hid (HM9.out.keep (X' := fun k => k = ib ∨ k = rx) (below_drewN w9 nq) (fun k hk => .inl hk))
                          have IA := Lib.hid (bx_keep I9.out (below_drewN w9 nq))
                          have RA := Lib.hid (bx_keep R9.out (below_drewN w9 nq))
                          go_wp2_with fail
                          go_roundg (L.length - (q + 1))
                          case measure => omega
                          case rel => exact ⟨q + 1, L', by omega, by omega, by go_num, HMA, HGI, HIA, IA, RA⟩
                    · have hyl' : decide (yd < Rq.length) = false := by simpa using hyl
                      have HIA : Hid (∀ y ∈ L.take (q + 1), ∀ s, (rt K y.1)[y.2.1]? = some s → s.term = false → s.n = (lf : Int) → y.2.2 + l ≤ n → (y.1, y.2.1 + 1, y.2.2 + l) ∈ L') := HNXT.out L' (fun x hx => hx) (fun s hs _ _ _ => absurd (List.getElem?_eq_some_iff.1 hs).1 hyl)
                      go_quiet (fail)
                      have HMA := Lib.hid (HM9.out.keep (X' := fun k => k = ib ∨ k = rx) (below_drewN w9 nq) (fun k hk => .inl hk))
                      have IA := Lib.hid (bx_keep I9.out (below_drewN w9 nq))
                      have RA := Lib.hid (bx_keep R9.out (below_drewN w9 nq))
                      go_wp2_with fail
                      go_roundg (L.length - (q + 1))
                      case measure => omega
                      case rel => exact ⟨q + 1, L', by omega, by omega, by go_num, HMA, HGI, HIA, IA, RA⟩
                  · have hqL' : ¬ (q : Int) < (L.length : Int) := by omega
                    have HITN : Hid (Items K n L' (p + 1) C') := HIT.out.full_new hpl HXX.out (by rw [HRTX.out]; exact hdl) (by rw [HLF.out]; omega) HPOS.out HGI.out (fun y hy s h1 h2 h3 h4 => HIN.out y (by rw [List.take_of_length_le (by omega)]; exact hy) s h1 h2 (by rw [h3, HLF.out]) h4) (fun a b => by rw [HC'.out, HLF.out]; simp)
                    have HMN := Lib.hid (HMI.out.unsnap.drop (X' := fun _ => False) (fun k hk => hk.elim))
                    have hll : p + 1 ≤ L'.length := by have := HGI.out.pre.length_le; omega
                    go_wp2_with fail
                    go_roundg (64160 - (p + 1))
                    case measure => omega
                    case rel => exact ⟨p + 1, L', C', hll, by omega, HMN, HITN⟩
            · have hdl' : ((d : Int) == (R.length : Int)) = false := by simp; omega
              have hdR2 : d < R.length := by omega
              have hdR3 : (d : Int) < (R.length : Int) := by omega
              have hd0 : (0 : Int) ≤ (d : Int) := by omega
              obtain ⟨b', off', hae', -, hbl', d0, d1⟩ := (HKR.out.below (show Below w5.heap.size w5 w6 by rw [← HW6.out]; exact (Below.refl _ _).alloc (Nat.le_refl _) _)).sym_at hdR2
              have HSD : Hid ((rt K i)[d]? = some (R[d]'hdR2)) := by
                show _ = _
                rw [HRTX.out]; exact List.getElem?_eq_getElem hdR2
              have hsb := HL3.out R[d] (List.getElem_mem hdR2)
              obtain ⟨sy, HSY⟩ := nameIt (R[d]'hdR2)
              rw [HSY.out] at d0 d1 HSD hsb
              unfold hasS at hsb
              rw [HNN.out, HGT.out] at hsb
              obtain ⟨st, HST⟩ := nameIt sy.term
              obtain ⟨sn, HSN⟩ := nameIt sy.n
              rw [HST.out] at d0 hsb
              rw [HSN.out] at d1 hsb
              obtain ⟨w7, HW7⟩ := nameIt (w6.alloc (.cells #[.bool st, .int .i64 sn] 88))
              obtain ⟨sx, HSX⟩ := nameIt w6.heap.size
              have hb7 : Below w6.heap.size w6 w7 := by rw [← HW7.out]; exact (Below.refl _ _).alloc (Nat.le_refl _) _
              have hs7 : w7.heap.size = w6.heap.size + 1 := by rw [← HW7.out]; simp
              have S7 : Hid (w7.heap[sx]? = some (.cells #[.bool st, .int .i64 sn] 88 (0, 0))) := by rw [← HW7.out]; exact bx_new _ _ _ HSX.out.symm
              have HM7 : Hid (MI w s n N G bt rb (fun k => k = ib ∨ k = rx ∨ k = sx) L (p + 1) [] 0 0 C w7) := HM6.out.keep hb7 (fun k hk => by
                rcases hk with e | e | e
                · exact .inl (.inl e)
                · exact .inl (.inr e)
                · exact .inr (by have := HSX.out; omega))
              have I7 := Lib.hid (bx_keep I6.out hb7)
              have R7 := Lib.hid (bx_keep R6.out hb7)
              subst hae'
              clear hb7 hs7
              go_upto_region 25 with fail
              rw [HW7.out, HSX.out]
              clear y0 y1 y2 z0 z1 d0 d1
              obtain ⟨y0, y1, y2⟩ := bx_cells3 I7.out
              obtain ⟨s0, s1⟩ := bx_cells2 S7.out
              have HG0 : Hid (Grow K n L L) := Grow.refl HIT.out.nodup HIT.out.sound
              cases st with
              | true =>
                have hbd1 : (d : Int) ≤ 4 := by omega
                have hbd2 : (l : Int) ≤ 400 := by omega
                have hbd3 : (0 : Int) ≤ (l : Int) := by omega
                have hcall := addMI HM7.out (i := i) (d := d + 1) (l := l + 1) (d' := (d : Int) + 1) (l' := (l : Int) + 1) (by omega) (by omega) (by omega) (by omega) (by omega) hn (by omega)
                have HC := Lib.hid hcall
                have HITN : Hid (Items K n (addL n L (i, d + 1, l + 1)) (p + 1) C) := HIT.out.termN hpl HXX.out HSD.out HST.out
                have hll : p + 1 ≤ (addL n L (i, d + 1, l + 1)).length := by
                  have := (HG0.out.add (x := (i, d + 1, l + 1)) (.term HITX.out HSD.out HST.out)).pre.length_le; omega
                clear hcall
                go_wp2_with fail
                (with_reducible refine HC.out.mono ?_)
                rintro e wa ⟨rfl, hai⟩
                have HMN := Lib.hid ((HM7.out.call hai).drop (X' := fun _ => False) (fun k hk => hk.elim))
                obtain ⟨L2, HL2⟩ := nameIt (addL n L (i, d + 1, l + 1))
                rw [HL2.out] at HMN HITN hll
                clear hai
                go_wp2_with fail
                go_roundg (64160 - (p + 1))
                case measure => omega
                case rel => exact ⟨p + 1, L2, C, hll, by omega, HMN, HITN⟩
              | false =>
                simp at hsb
                obtain ⟨hsb0, hsb1⟩ := hsb
                obtain ⟨an, han⟩ : ∃ a : Nat, sn = (a : Int) := ⟨sn.toNat, by omega⟩
                subst han
                have hanN : an < N := by omega
                have han0 : (0 : Int) ≤ (an : Int) := by omega
                have han1 : (an : Int) < (N : Int) := by omega
                have h0 := HM7.out.can.hdr hanN hanN
                obtain ⟨ra, HRA⟩ := nameIt (rb an)
                rw [HRA.out] at h0
                have HIN0 : Hid (∀ k, k < 0 → C an k = true → l + k ≤ n → (i, d + 1, l + k) ∈ L) := fun k hk => by omega
                go_wp2_with fail
                clear y0 y1 y2 s0 s1 h0
                go_loopg [152] (n + 1) (fun gg v152 wr => ∃ (q : Nat) (L' : List (Nat × Nat × Nat)), q ≤ n + 1 ∧ n + 1 - q ≤ gg ∧ v152 = .int .i64 q ∧ Hid (MI w s n N G bt rb (fun k => k = ib ∨ k = rx ∨ k = sx) L' (p + 1) [] 0 0 C wr) ∧ Hid (Grow K n L L') ∧ Hid (∀ k, k < q → C an k = true → l + k ≤ n → (i, d + 1, l + k) ∈ L') ∧ Hid (wr.heap[ib]? = some (.cells #[.int .i64 i, .int .i64 d, .int .i64 l] 271 (0, 0))))
                case atStart => exact ⟨0, L, by omega, by omega, rfl, HM7, HG0, HIN0, I7⟩
                case round =>
                  clear HM7 HG0 HIN0 I7 R7 S7
                  obtain ⟨wi, rfl⟩ : ∃ wi : World, wi = wr := ⟨_, rfl⟩
                  obtain ⟨q, L', hq, hgq, rfl, HMI, HGI, HIN, II⟩ := hrel
                  by_cases hqn : q < n + 1
                  · have hqn' : (q : Int) < (n : Int) + 1 := by omega
                    have hq0 : (0 : Int) ≤ (q : Int) := by omega
                    have h1 := HMI.out.can.cell hanN hanN (j := q) hqn
                    rw [HRA.out] at h1
                    obtain ⟨cb, HCB⟩ := nameIt (C an q)
                    rw [HCB.out] at h1
                    obtain ⟨y0, y1, y2⟩ := bx_cells3 II.out
                    cases cb with
                    | true =>
                      have hbd1 : (d : Int) ≤ 4 := by omega
                      have hbd2 : (l : Int) ≤ 400 := by omega
                      have hbd3 : (0 : Int) ≤ (l : Int) := by omega
                      have hbd4 : (q : Int) ≤ 400 := by omega
                      have hcall := addMI HMI.out (i := i) (d := d + 1) (l := l + q) (d' := (d : Int) + 1) (l' := (l : Int) + (q : Int)) (by omega) (by omega) (by omega) (by omega) (by omega) hn (by have := HGI.out.len hg7 HRT4.out hn; omega)
                      have HC := Lib.hid hcall
                      have HGA := Lib.hid (HGI.out.add (x := (i, d + 1, l + q)) (HIT.out.nonIt HITX.out HSD.out HST.out (by rw [HSN.out]; exact han0) (by rw [HSN.out]; simpa using HCB.out)))
                      have HIA : Hid (∀ k, k < q + 1 → C an k = true → l + k ≤ n → (i, d + 1, l + k) ∈ addL n L' (i, d + 1, l + q)) := by
                        intro k hk hc hl
                        by_cases e : k = q
                        · subst e; exact mem_addL hl
                        · exact mem_addL_old (HIN.out k (by omega) hc hl)
                      obtain ⟨L2, HL2⟩ := nameIt (addL n L' (i, d + 1, l + q))
                      clear hcall
                      go_wp2_with fail
                      (with_reducible refine HC.out.mono ?_)
                      rintro e wa ⟨rfl, hai⟩
                      have HMA := Lib.hid (HMI.out.call hai)
                      have IA : Hid (wa.heap[ib]? = some (.cells #[.int .i64 i, .int .i64 d, .int .i64 l] 271 (0, 0))) := (hai.px ib (.inl rfl)).2.trans II.out
                      rw [HL2.out] at HMA HGA HIA
                      clear hai
                      go_wp2_with fail
                      go_roundg (n + 1 - (q + 1))
                      case measure => omega
                      case rel => exact ⟨q + 1, L2, by omega, by omega, by go_num, HMA, HGA, HIA, IA⟩
                    | false =>
                      have HIA : Hid (∀ k, k < q + 1 → C an k = true → l + k ≤ n → (i, d + 1, l + k) ∈ L') := by
                        intro k hk hc hl
                        by_cases e : k = q
                        · subst e; rw [HCB.out] at hc; cases hc
                        · exact HIN.out k (by omega) hc hl
                      go_wp2_with fail
                      go_roundg (n + 1 - (q + 1))
                      case measure => omega
                      case rel => exact ⟨q + 1, L', by omega, by omega, by go_num, HMI, HGI, HIA, II⟩
                  · have hqn' : ¬ (q : Int) < (n : Int) + 1 := by omega
                    have HITN : Hid (Items K n L' (p + 1) C) := HIT.out.nonN hpl HXX.out HSD.out HST.out HGI.out (fun k hk hc hl => HIN.out k (by omega) (by rw [HSN.out] at hc; simpa using hc) hl)
                    have HMN := Lib.hid (HMI.out.drop (X' := fun _ => False) (fun k hk => hk.elim))
                    have hll : p + 1 ≤ L'.length := by have := HGI.out.pre.length_le; omega
                    go_wp2_with fail
                    go_roundg (64160 - (p + 1))
                    case measure => omega
                    case rel => exact ⟨p + 1, L', C, hll, by omega, HMN, HITN⟩
        · obtain ⟨va, vq, r1, r2, r3⟩ := HM.out.ai.rows
          have hq0 : (L.drop p).length = 0 := by rw [List.length_drop]; omega
          obtain ⟨aq, cq, hvq, hq1, hq2⟩ := r3.row.form
          rw [hq0] at hvq
          subst hvq
          have c3 := bx_cells1 r2
          have HE : Hid (∀ a k, a < N → k ≤ n → (C a k = true ↔ Has K (a : Int) k)) := fun a k _ hk => items_right HIT.out (by omega) hk
          clear r1 r2 r3 hq0 hq1 hq2
          go_wp2_with fail
          go_ret
          exact HFIN.out bt rb C wo (Grd.base HM.out.can (by omega)) HE.out HM.out.bel
end Ln
end Go.Proofs.Ytjehmleckcmilaa
