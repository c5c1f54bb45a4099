/- The walk of Groups' inner function. -/
import Derived.Test.YtjehmleckcmilaaUnder
namespace Go.Proofs.Ytjehmleckcmilaa
open Go.RowKit

structure UI (w : World) (mb : Nat) (U : Nat → Bool) (bd : Nat) (wr : World) : Prop where
  set : ∃ c, IntSet mb c U wr ∧ c ≤ bd
  bel : Below w.heap.size w wr
theorem UI.keep {w : World} {mb : Nat} {U : Nat → Bool} {bd bd' : Nat} {wr w' : World} (h : UI w mb U bd wr) (hb : Below wr.heap.size wr w') (hl : bd ≤ bd') : UI w mb U bd' w' := by
  obtain ⟨⟨c, h1, h2⟩, h3⟩ := h
  exact ⟨⟨c, h1.keep hb, by omega⟩, h3.trans (hb.mono h3.size)⟩
def UnderPost (g : Gram) (a : Nat) (w : World) (e : Ending) (w' : World) : Prop :=
  ∃ b c, e = .returned (.map (some b)) ∧ IntSet b c (rnds (gEdges g) g.nons.toNat (single a)) w' ∧ Below w.heap.size w w'

set_option maxHeartbeats 4000000 in
set_option maxRecDepth 100000 in
theorem underE (g : Gram) (hg : checkG g = 0) (gb : Nat) (ar : Option Addr) (cr a : Nat) (w : World) (ha : a < 1000) (hx : w.heap[gb]? = some (.cells #[.int .i64 g.terms, .int .i64 g.nons, .int .i64 g.start, .slice ar g.rules.length cr] 77 (0, 0)))
    (hr : Rd AnyB w (.sl (g.rules.map Rule.d)) [.slice ar g.rules.length cr]) :
    Calls Try.prog 119 #[.int .i64 a, .pointer (some ⟨gb, 0, none⟩)] w (UnderPost g a w) := by
  obtain ⟨⟨hg1, hg2, hg3, hg4, hg5, hg6⟩, hg7, hg8⟩ := checkG_zero hg
  have HRU := Lib.hid hg8
  have hbs := hr.bounds.2
  unfold maxLen at hbs
  obtain ⟨hc1, hc2⟩ := hbs
  have HX := Lib.hid hx
  have HR := Lib.hid hr
  have hgl : gb < w.heap.size := (Array.getElem?_eq_some_iff.1 hx).1
  obtain ⟨w1, hput, hset0, hgr⟩ := IntSet.put (U := fun _ => false) (SetM.start Try.prog 3 4 w (b := w.heap.size) rfl (fun l => by unfold ofU; split <;> simp)) (by omega) (z := (a : Int)) ⟨by omega, by omega⟩
  have hB1 : Below w.heap.size w w1 := ((Below.refl _ _).alloc (Nat.le_refl _) _).grown hgr (by simp) (fun k e => by cases e; exact Nat.le_refl _)
  have HU0 : Hid (UI w w.heap.size (rnds (gEdges g) 0 (single a)) 1 w1) := by
    refine ⟨⟨1, ?_, Nat.le_refl _⟩, hB1⟩
    have : (fun x => x == (a : Int).toNat || false) = single a := by funext x; simp [single]
    rw [this] at hset0
    exact hset0
  have hmk : ∀ W : World, (Instr.makeMap 201 none).run Try.prog W = .ok (.map (some W.heap.size)) (W.alloc (.map #[] 0)) := fun W => by
    simp [Instr.makeMap, run_underlying Try.underlying201]; try rfl
  obtain ⟨E, HE⟩ := nameIt (gEdges g)
  have HME := Lib.hid (fun t j h => midU_end (g := g) (a := a) (t := t) (j := j) h)
  obtain ⟨N, HN⟩ : ∃ N : Nat, g.nons = (N : Int) := ⟨g.nons.toNat, by omega⟩
  have HNN := Lib.hid HN
  have HFIN : Hid (∀ W, UI w w.heap.size (rnds E N (single a)) (1 + N * 200) W → UnderPost g a w (.returned (.map (some w.heap.size))) W) := by
    rintro W ⟨⟨c, h1, _⟩, h2⟩
    refine ⟨w.heap.size, c, rfl, ?_, h2⟩
    rw [HE.out, HNN.out]
    exact h1
  rw [HN] at hg3 hg4
  obtain ⟨gt, HGT⟩ := nameIt g.terms
  obtain ⟨gs, HGS⟩ := nameIt g.start
  obtain ⟨K, HK⟩ := nameIt g.rules
  rw [HGT.out, HN, HGS.out, HK.out] at HX
  rw [HK.out] at HR hc1 hg7 HRU HME
  rw [HE.out] at HU0 HME
  rw [HN] at HRU
  obtain ⟨mb, HMB⟩ := nameIt w.heap.size
  have hN10 : N ≤ 10 := by omega
  obtain ⟨x0, x1, x2, x3⟩ := bx_cells4 (bx_keep HX.out hB1)
  clear hx hr HN hg1 hg2 hg3 hg4 hg5 hg6 hgr hset0 hB1 hg8
  go_enter Try.func119, Try.ntmps119
  go_wp2_with fail
  rw [HMB.out]
  rw [HMB.out] at HU0 HFIN
  clear hput hmk x0 x1 x2 x3
  go_loopg [14] N (fun gg v14 wr => ∃ t : Nat, t ≤ N ∧ N - t ≤ gg ∧ v14 = .int .i64 t ∧ Hid (UI w mb (rnds E t (single a)) (1 + t * 200) wr))
  case atStart => exact ⟨0, by omega, by omega, rfl, HU0⟩
  case round =>
    clear HU0
    obtain ⟨wo, rfl⟩ : ∃ wo : World, wo = wr := ⟨_, rfl⟩
    obtain ⟨t, ht, hg, rfl, HU⟩ := hrel
    by_cases htN : t < N
    · have htN' : (t : Int) < (N : Int) := by omega
      obtain ⟨x0, x1, x2, x3⟩ := bx_cells4 (bx_keep HX.out HU.out.bel)
      have HM0 : Hid (UI w mb (midU E a t K 0) (1 + t * 200 + 0 * 5) wo) := by rw [midU_zero]; exact HU.out
      go_wp2_with fail
      clear x0 x1 x2 x3
      go_loopg [19] K.length (fun gg v19 wr => ∃ j : Nat, j ≤ K.length ∧ K.length - j ≤ gg ∧ v19 = .int .i64 j ∧ Hid (UI w mb (midU E a t K j) (1 + t * 200 + j * 5) wr))
      case atStart => exact ⟨0, by omega, by omega, rfl, HM0⟩
      case round =>
        clear HM0
        obtain ⟨wm, rfl⟩ : ∃ wm : World, wm = wr := ⟨_, rfl⟩
        obtain ⟨j, hj, hgj, rfl, HUM⟩ := hrel
        by_cases hjK : j < K.length
        · have hjK' : (j : Int) < (K.length : Int) := by omega
          obtain ⟨b, off, vr, hae, -, hbl0, d0, d1, hkr⟩ := HR.out.rule_at hjK
          have c0 := (HUM.out.bel.cell (p := ⟨b, off + j * 2, none⟩) (lt_of_cell d0)).trans d0
          have c1 := (HUM.out.bel.cell (p := ⟨b, off + j * 2 + 1, none⟩) (lt_of_cell d1)).trans d1
          clear d0 d1
          obtain ⟨av, cv, rfl, -, hcv⟩ := hkr.form
          rw [List.length_map] at c1 hkr
          have HNX := Lib.hid (midU_next (E := E) (a := a) (t := t) hjK)
          obtain ⟨hl0, hl1, hl2, hl3⟩ := HRU.out K[j] (List.getElem_mem hjK)
          obtain ⟨r, HRn⟩ := nameIt (K[j]'hjK)
          rw [HRn.out] at c0 c1 hkr HNX hl0 hl1 hl2 hl3
          obtain ⟨lf, HLF⟩ := nameIt r.left
          obtain ⟨R, HRR⟩ := nameIt r.right
          rw [HLF.out] at c0 HNX hl0 hl1
          rw [HRR.out] at c1 hkr HNX hl2 hl3
          have HL3 := Lib.hid hl3
          obtain ⟨w4, HW4⟩ := nameIt (wm.alloc (.cells #[.int .i64 lf, .slice av R.length cv] 189))
          have hb4 : Below wm.heap.size wm w4 := by rw [← HW4.out]; exact (Below.refl _ _).alloc (Nat.le_refl _) _
          have X4 : Hid (w4.heap[wm.heap.size]? = some (.cells #[.int .i64 lf, .slice av R.length cv] 189 (0, 0))) := by rw [← HW4.out]; exact bx_new _ _ _ rfl
          have HKR := Lib.hid hkr
          obtain ⟨y0, y1⟩ := bx_cells2 X4.out
          obtain ⟨U, HUU⟩ := nameIt (midU E a t K j)
          rw [HUU.out] at HNX HUM
          have HI0 : Hid (UI w mb (inU U lf R 0) (1 + t * 200 + j * 5 + 0) w4) := by
            have h := HUM.out.keep hb4 (Nat.le_refl _)
            exact Lib.hid (by simpa [inU] using h)
          have hmw : mb < wm.heap.size := by obtain ⟨⟨c, k1, _⟩, _⟩ := HUM.out; exact k1.lt
          have hbl : b < wm.heap.size := Nat.lt_of_lt_of_le hbl0 HUM.out.bel.size
          subst hae
          clear hkr hb4 hl3
          go_upto_region 7 with fail
          rw [HW4.out]
          go_wp2_with fail
          clear y0 y1 c0 c1
          go_loopg [26] R.length (fun gg v26 wr => ∃ q : Nat, q ≤ R.length ∧ R.length - q ≤ gg ∧ v26 = .int .i64 q ∧ Hid (UI w mb (inU U lf R q) (1 + t * 200 + j * 5 + q) wr) ∧ Hid (wr.heap[wm.heap.size]? = some (.cells #[.int .i64 lf, .slice av R.length cv] 189 (0, 0))))
          case atStart => exact ⟨0, by omega, by omega, rfl, HI0, X4⟩
          case round =>
            clear HI0 X4
            obtain ⟨q, hq, hgq, rfl, HI, X4⟩ := hrel
            by_cases hqR : q < R.length
            · have hqR' : (q : Int) < (R.length : Int) := by omega
              obtain ⟨b', off', hae', -, hbl', d0, d1⟩ := HKR.out.sym_at hqR
              have e0 := (HI.out.bel.cell (p := ⟨b', off' + q * 2, none⟩) (lt_of_cell d0)).trans d0
              have e1 := (HI.out.bel.cell (p := ⟨b', off' + q * 2 + 1, none⟩) (lt_of_cell d1)).trans d1
              have HIX := Lib.hid (inU_next (U := U) (l := lf) hqR)
              have hsb := HL3.out R[q] (List.getElem_mem hqR)
              obtain ⟨s, HSn⟩ := nameIt (R[q]'hqR)
              rw [HSn.out] at e0 e1 HIX hsb
              unfold hasS at hsb
              rw [HNN.out, HGT.out] at hsb
              obtain ⟨st, HST⟩ := nameIt s.term
              obtain ⟨sn, HSN⟩ := nameIt s.n
              rw [HST.out] at e0 HIX hsb
              rw [HSN.out] at e1 HIX hsb
              obtain ⟨w5, HW5⟩ := nameIt (wr.alloc (.cells #[.bool st, .int .i64 sn] 88))
              have hb5 : Below wr.heap.size wr w5 := by rw [← HW5.out]; exact (Below.refl _ _).alloc (Nat.le_refl _) _
              have X5 : Hid (w5.heap[wr.heap.size]? = some (.cells #[.bool st, .int .i64 sn] 88 (0, 0))) := by rw [← HW5.out]; exact bx_new _ _ _ rfl
              have HI5 := Lib.hid (HI.out.keep hb5 (Nat.le_refl _))
              have X45 := Lib.hid (bx_keep X4.out hb5)
              obtain ⟨y0, y1⟩ := bx_cells2 X45.out
              obtain ⟨z0, z1⟩ := bx_cells2 X5.out
              have hl5 : wr.heap.size < w5.heap.size := (Array.getElem?_eq_some_iff.1 X5.out).1
              obtain ⟨⟨c, hset, hcb⟩, hbel⟩ := HI5.out
              have hlk := hset.at (z := lf) ⟨by omega, by omega⟩
              obtain ⟨ub, HUB⟩ := nameIt (inU U lf R q lf.toNat)
              rw [HUB.out] at hlk
              subst hae'
              clear d0 d1 hb5
              go_upto_region 10 with fail
              rw [HW5.out]
              cases ub with
              | false =>
                have HIN : Hid (UI w mb (inU U lf R (q + 1)) (1 + t * 200 + j * 5 + (q + 1)) w5) := by
                  have h : inU U lf R (q + 1) = inU U lf R q := by
                    rw [HIX.out]
                    cases st
                    · simp [stp, HUB.out]
                    · simp
                  rw [h]
                  exact ⟨⟨c, hset, by omega⟩, hbel⟩
                clear hset hbel hsb
                go_wp2_with fail
                go_roundg (R.length - (q + 1))
                case measure => omega
                case rel => exact ⟨q + 1, by omega, by omega, by go_num, HIN, X45⟩
              | true =>
                cases st with
                | true =>
                  have HIN : Hid (UI w mb (inU U lf R (q + 1)) (1 + t * 200 + j * 5 + (q + 1)) w5) := by
                    have h : inU U lf R (q + 1) = inU U lf R q := by rw [HIX.out]; simp
                    rw [h]
                    exact ⟨⟨c, hset, by omega⟩, hbel⟩
                  clear hset hbel hsb
                  go_wp2_with fail
                  go_roundg (R.length - (q + 1))
                  case measure => omega
                  case rel => exact ⟨q + 1, by omega, by omega, by go_num, HIN, X45⟩
                | false =>
                  simp at hsb
                  obtain ⟨w6, hup, hset6, hgr6⟩ := hset.put (by omega) (z := sn) ⟨by omega, by omega⟩
                  have HIN : Hid (UI w mb (inU U lf R (q + 1)) (1 + t * 200 + j * 5 + (q + 1)) w6) := by
                    have h : inU U lf R (q + 1) = fun x => x == sn.toNat || inU U lf R q x := by
                      rw [HIX.out]
                      simp [stp, HUB.out]
                    rw [h]
                    exact ⟨⟨c + 1, hset6, by omega⟩, hbel.grown hgr6 (by have := hbel.size; omega) (fun k e => by cases e; rw [HMB.out]; exact Nat.le_refl _)⟩
                  have X46 : Hid (w6.heap[wm.heap.size]? = some (.cells #[.int .i64 lf, .slice (some ⟨b', off', none⟩) R.length cv] 189 (0, 0))) := by
                    show _ = _
                    rw [hgr6.block wm.heap.size (Array.getElem?_eq_some_iff.1 X45.out).1 (fun e => by simp at e; omega)]
                    exact X45.out
                  clear hset hbel hsb hset6 hgr6
                  go_wp2_with fail
                  go_roundg (R.length - (q + 1))
                  case measure => omega
                  case rel => exact ⟨q + 1, by omega, by omega, by go_num, HIN, X46⟩
            · have hqR' : ¬ (q : Int) < (R.length : Int) := by omega
              have HMN : Hid (UI w mb (midU E a t K (j + 1)) (1 + t * 200 + (j + 1) * 5) wr) := by
                obtain ⟨⟨c, h1, h2⟩, h3⟩ := HI.out
                obtain rfl : q = R.length := by omega
                rw [← HNX.out] at h1
                exact ⟨⟨c, h1, by omega⟩, h3⟩
              go_wp2_with fail
              go_roundg (K.length - (j + 1))
              case measure => omega
              case rel => exact ⟨j + 1, by omega, by omega, by go_num, HMN⟩
        · have hjK' : ¬ (j : Int) < (K.length : Int) := by omega
          have HTN : Hid (UI w mb (rnds E (t + 1) (single a)) (1 + (t + 1) * 200) wm) := by
            obtain ⟨⟨c, h1, h2⟩, h3⟩ := HUM.out
            rw [HME.out t j (by omega)] at h1
            exact ⟨⟨c, h1, by omega⟩, h3⟩
          go_wp2_with fail
          go_roundg (N - (t + 1))
          case measure => omega
          case rel => exact ⟨t + 1, by omega, by omega, by go_num, HTN⟩
    · have htN' : ¬ (t : Int) < (N : Int) := by omega
      have HEND : Hid (UI w mb (rnds E N (single a)) (1 + N * 200) wo) := by
        obtain rfl : t = N := by omega
        exact HU.out
      go_wp2_with fail
      go_ret
      exact HFIN.out _ HEND.out
end Go.Proofs.Ytjehmleckcmilaa
