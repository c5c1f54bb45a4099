/- The walk of approx.derives. -/
import Derived.Test.YtjehmleckcmilaaDerives
namespace Go.Proofs.Ytjehmleckcmilaa
open Go.RowKit

set_option maxHeartbeats 2000000 in
set_option maxRecDepth 100000 in
theorem derivesE (g : Gram) (hg : checkG g = 0) (ar : Option Addr) (cr : Nat) (w : World) (hr : Rd AnyB w (.sl (g.rules.map Rule.d)) [.slice ar g.rules.length cr]) :
    Calls Try.prog 188 #[.agg #[.int .i64 g.terms, .int .i64 g.nons, .int .i64 g.start, .slice ar g.rules.length cr]] w (DerPost g w) := by
  obtain ⟨⟨hg1, hg2, hg3, hg4, hg5, hg6⟩, hg7, hg8⟩ := checkG_zero hg
  have HRU := Lib.hid hg8
  have hbs := hr.bounds.2
  unfold maxLen at hbs
  obtain ⟨hc1, hc2⟩ := hbs
  have HR := Lib.hid hr
  have HEE := Lib.hid (fun j lf R a b h => edV_end (g := g) (j := j) h lf R a b)
  obtain ⟨N, HN⟩ : ∃ N : Nat, g.nons = (N : Int) := ⟨g.nons.toNat, by omega⟩
  have HNN := Lib.hid HN
  have HFIN : Hid (∀ bt rb W, BTab w.heap.size bt N N rb (fw (gEdges g) N) W → Below w.heap.size w W → DerPost g w (.returned (.slice (some ⟨bt, 0, none⟩) N N)) W) := by
    intro bt rb W h1 h2
    refine ⟨bt, rb, ?_, ?_, h2⟩
    · rw [HN]; rfl
    · rw [HN]; exact h1
  rw [HN] at hg3 hg4
  obtain ⟨gt, HGT⟩ := nameIt g.terms
  obtain ⟨gs, HGS⟩ := nameIt g.start
  obtain ⟨K, HK⟩ := nameIt g.rules
  obtain ⟨E, HE⟩ := nameIt (gEdges g)
  rw [HK.out] at HR hc1 hg7 HRU HEE
  rw [HN] at HRU
  rw [HE.out] at HFIN HEE
  rw [HN, HGT.out, HGS.out, HK.out]
  have hN1 : 1 ≤ N := by omega
  have hN10 : N ≤ 10 := by omega
  have hmk1 : ∀ W : World, (Instr.makeSlice 186 (.int .i64 (N : Int)) (.int .i64 (N : Int))).run Try.prog W = .ok (.slice (some ⟨W.heap.size, 0, none⟩) N N) (W.alloc (.cells (madeCells #[.slice none 0 0] N) 78)) := fun W => by
    have := run_make_row' (P := Try.prog) 186 78 (.slice none 0 0) 24 Try.underlying186 (by kernel_rfl) rfl .i64 .i64 N (by omega) (by omega) W
    simpa using this
  have hmk2 : ∀ W : World, (Instr.makeSlice 78 (.int .i64 (N : Int)) (.int .i64 (N : Int))).run Try.prog W = .ok (.slice (some ⟨W.heap.size, 0, none⟩) N N) (W.alloc (.cells (madeCells #[.bool false] N) 4)) := fun W => by
    have := run_make_row' (P := Try.prog) 78 4 (.bool false) 1 Try.underlying78 (by kernel_rfl) rfl .i64 .i64 N (by omega) (by omega) W
    simpa using this
  obtain ⟨G, HG⟩ : ∃ G : Array Value, Hid (G = #[.int .i64 gt, .int .i64 N, .int .i64 gs, .slice ar K.length cr]) := ⟨_, rfl⟩
  obtain ⟨w0, HW0⟩ := nameIt (w.alloc (.cells #[.int .i64 gt, .int .i64 N, .int .i64 gs, .slice ar K.length cr] 77))
  have HB0 : Hid (Below w.heap.size w w0) := by rw [← HW0.out]; exact (Below.refl _ _).alloc (Nat.le_refl _) _
  have X1 : Hid (w0.heap[w.heap.size]? = some (.cells #[.int .i64 gt, .int .i64 N, .int .i64 gs, .slice ar K.length cr] 77 (0, 0))) := by rw [← HW0.out]; exact bx_new _ _ _ rfl
  have hs0 : w0.heap.size = w.heap.size + 1 := by rw [← HW0.out]; simp
  obtain ⟨bt, HBT⟩ := nameIt w0.heap.size
  have HI0 : Hid (∃ rb, DI w bt N G rb 0 (fun _ _ => false) (w0.alloc (.cells (madeCells #[.slice none 0 0] N) 78))) := by
    refine ⟨fun _ => 0, Grd.start _ _ _ HBT.out.symm (by omega), HB0.out.alloc (by omega) _, ?_⟩
    rw [HG.out]
    exact bx_keep X1.out ((Below.refl _ _).alloc (Nat.le_refl _) _)
  obtain ⟨x0, x1, x2, x3⟩ := bx_cells4 X1.out
  have hl0 : w.heap.size < w0.heap.size := by omega
  have HS0 := Lib.hid hs0
  clear hr HN hg1 hg2 hg3 hg4 hg5 hg6 hg8 hs0
  go_enter Try.func188, Try.ntmps188
  go_upto_region 1 with fail
  rw [HW0.out]
  go_wp2_with fail
  rw [HBT.out]
  clear x0 x1 x2 x3 hmk1
  go_loopg [17] N (fun gg v17 wr => ∃ k : Nat, k ≤ N ∧ N - k ≤ gg ∧ v17 = .int .i64 k ∧ Hid (∃ rb, DI w bt N G rb k (fun _ _ => false) wr))
  case atStart => exact ⟨0, by omega, by omega, rfl, HI0⟩
  case round =>
    clear HI0
    obtain ⟨k, hk, hg, rfl, HI⟩ := hrel
    by_cases hkN : k < N
    · have hkN' : (k : Int) < (N : Int) := by omega
      obtain ⟨rb, hd⟩ := HI.out
      have hbx := hd.box
      rw [HG.out] at hbx
      obtain ⟨x0, x1, x2, x3⟩ := bx_cells4 hbx
      have hbt := hd.tab.lt
      have hbB := hd.tab.bB
      have hsz := hd.bel.size
      obtain ⟨⟨vc, hc8⟩, hf8⟩ := hd.tab.hcell hkN
      have HT1 : Hid (∃ rb, DI w bt N G rb (k + 1) (fun _ _ => false) ((wr.alloc (.cells (madeCells #[.bool false] N) 4)).setCell ⟨bt, k, none⟩ (.slice (some ⟨wr.heap.size, 0, none⟩) N N))) := by
        refine ⟨_, hd.tab.add hkN (by omega), (hd.bel.alloc (by omega) _).setCell (by show w.heap.size ≤ bt; omega) _, ?_⟩
        exact bx_other (bx_keep hd.box ((Below.refl _ _).alloc (Nat.le_refl _) _)) (by show w.heap.size ≠ bt; omega) _ _
      have hne8 : ¬ bt = wr.heap.size := by omega
      have hne9 : ¬ wr.heap.size = bt := by omega
      obtain ⟨w1, HW1⟩ := nameIt ((wr.alloc (.cells (madeCells #[.bool false] N) 4)).setCell ⟨bt, k, none⟩ (.slice (some ⟨wr.heap.size, 0, none⟩) N N))
      have hcomm : (wr.setCell ⟨bt, k, none⟩ (.slice (some ⟨wr.heap.size, 0, none⟩) N N)).alloc (.cells (madeCells #[.bool false] N) 4) = w1 := by
        rw [← HW1.out]
        simp [go_sem, hbt]
      have HCM := Lib.hid hcomm
      rw [HW1.out] at HT1
      clear hcomm hbx hd
      go_upto_region 6 with fail
      rw [HCM.out]
      clear hc8 hf8 hne8 hne9
      go_wp2_with fail
      go_roundg (N - (k + 1))
      case measure => omega
      case rel => exact ⟨k + 1, by omega, by omega, by go_num, HT1⟩
    · have hkN' : ¬ (k : Int) < (N : Int) := by omega
      obtain ⟨rb, hd⟩ := HI.out
      have hkk : k = N := by omega
      have HD0 : Hid (DI w bt N G rb N (edV K 0 0 [] 0) wr) := by
        have h := hd
        rw [hkk] at h
        exact h.eq (fun i j _ _ => by simp [edV])
      have hbx := hd.box
      rw [HG.out] at hbx
      obtain ⟨x0, x1, x2, x3⟩ := bx_cells4 hbx
      clear hd hbx hkk HI
      go_wp2_with fail
      clear x0 x1 x2 x3
      go_loopg [30] K.length (fun gg v30 wr => ∃ j : Nat, j ≤ K.length ∧ K.length - j ≤ gg ∧ v30 = .int .i64 j ∧ Hid (DI w bt N G rb N (edV K j 0 [] 0) wr))
      case atStart => exact ⟨0, by omega, by omega, rfl, HD0⟩
      case round =>
        clear HD0
        obtain ⟨wm, rfl⟩ : ∃ wm : World, wm = wr := ⟨_, rfl⟩
        obtain ⟨j, hj, hgj, rfl, HD⟩ := hrel
        by_cases hjK : j < K.length
        · have hjK' : (j : Int) < (K.length : Int) := by omega
          obtain ⟨b, off, vr, hae, -, hbl0, d0, d1, hkr⟩ := HR.out.rule_at hjK
          have c0 := (HD.out.bel.cell (p := ⟨b, off + j * 2, none⟩) (lt_of_cell d0)).trans d0
          have c1 := (HD.out.bel.cell (p := ⟨b, off + j * 2 + 1, none⟩) (lt_of_cell d1)).trans d1
          clear d0 d1
          obtain ⟨av, cv, rfl, -, hcv⟩ := hkr.form
          rw [List.length_map] at c1 hkr
          have HRX := Lib.hid (fun a b => edV_rule hjK 0 [] a b)
          obtain ⟨hl0, hl1, hl2, hl3⟩ := HRU.out K[j] (List.getElem_mem hjK)
          obtain ⟨r, HRn⟩ := nameIt (K[j]'hjK)
          rw [HRn.out] at c0 c1 hkr HRX hl0 hl1 hl2 hl3
          obtain ⟨lf, HLF⟩ := nameIt r.left
          obtain ⟨R, HRR⟩ := nameIt r.right
          rw [HLF.out] at c0 HRX hl0 hl1
          rw [HRR.out] at c1 hkr HRX hl2 hl3
          have HL3 := Lib.hid hl3
          obtain ⟨w4, HW4⟩ := nameIt (wm.alloc (.cells #[.int .i64 lf, .slice av R.length cv] 189))
          have hb4 : Below wm.heap.size wm w4 := by rw [← HW4.out]; exact (Below.refl _ _).alloc (Nat.le_refl _) _
          have X4 : Hid (w4.heap[wm.heap.size]? = some (.cells #[.int .i64 lf, .slice av R.length cv] 189 (0, 0))) := by rw [← HW4.out]; exact bx_new _ _ _ rfl
          have HKR := Lib.hid hkr
          obtain ⟨y0, y1⟩ := bx_cells2 X4.out
          have HI0 : Hid (DI w bt N G rb N (edV K j lf R 0) w4) := (HD.out.keep hb4).eq (fun a b _ _ => edV_any 0 lf [] R a b)
          have hbl : b < wm.heap.size := Nat.lt_of_lt_of_le hbl0 HD.out.bel.size
          have hrbl : ∀ k, k < N → rb k < wm.heap.size := fun k hk => HD.out.tab.rlt hk hk
          have HRBL := Lib.hid hrbl
          obtain ⟨lfn, hlfn⟩ : ∃ n : Nat, lf = (n : Int) := ⟨lf.toNat, by omega⟩
          subst hlfn
          subst hae
          clear hkr hb4 hl3 hrbl
          go_upto_region 10 with fail
          rw [HW4.out]
          go_wp2_with fail
          clear y0 y1 c0 c1
          go_loopg [37] R.length (fun gg v37 wr => ∃ q : Nat, q ≤ R.length ∧ R.length - q ≤ gg ∧ v37 = .int .i64 q ∧ Hid (DI w bt N G rb N (edV K j lfn R q) wr) ∧ Hid (wr.heap[wm.heap.size]? = some (.cells #[.int .i64 lfn, .slice av R.length cv] 189 (0, 0))))
          case atStart => exact ⟨0, by omega, by omega, rfl, HI0, X4⟩
          case round =>
            clear HI0 X4
            obtain ⟨q, hq, hgq, rfl, HI, X4⟩ := hrel
            by_cases hqR : q < R.length
            · have hqR' : (q : Int) < (R.length : Int) := by omega
              obtain ⟨b', off', hae', -, hbl', d0, d1⟩ := HKR.out.sym_at hqR
              have e0 := (HI.out.bel.cell (p := ⟨b', off' + q * 2, none⟩) (lt_of_cell d0)).trans d0
              have e1 := (HI.out.bel.cell (p := ⟨b', off' + q * 2 + 1, none⟩) (lt_of_cell d1)).trans d1
              have HIX := Lib.hid (fun a b => edV_next (K := K) (j := j) (lf := (lfn : Int)) hqR a b)
              have hsb := HL3.out R[q] (List.getElem_mem hqR)
              obtain ⟨s, HSn⟩ := nameIt (R[q]'hqR)
              rw [HSn.out] at e0 e1 HIX hsb
              unfold hasS at hsb
              rw [HNN.out, HGT.out] at hsb
              obtain ⟨st, HST⟩ := nameIt s.term
              obtain ⟨sn, HSN⟩ := nameIt s.n
              rw [HST.out] at e0 HIX hsb
              rw [HSN.out] at e1 HIX hsb
              obtain ⟨w5, HW5⟩ := nameIt (wr.alloc (.cells #[.bool st, .int .i64 sn] 88))
              have hb5 : Below wr.heap.size wr w5 := by rw [← HW5.out]; exact (Below.refl _ _).alloc (Nat.le_refl _) _
              have X5 : Hid (w5.heap[wr.heap.size]? = some (.cells #[.bool st, .int .i64 sn] 88 (0, 0))) := by rw [← HW5.out]; exact bx_new _ _ _ rfl
              have HI5 := Lib.hid (HI.out.keep hb5)
              have X45 := Lib.hid (bx_keep X4.out hb5)
              obtain ⟨y0, y1⟩ := bx_cells2 X45.out
              obtain ⟨z0, z1⟩ := bx_cells2 X5.out
              have hl5 : wr.heap.size < w5.heap.size := (Array.getElem?_eq_some_iff.1 X5.out).1
              have hmr : wm.heap.size < wr.heap.size := (Array.getElem?_eq_some_iff.1 X4.out).1
              subst hae'
              clear d0 d1 hb5
              go_upto_region 13 with fail
              rw [HW5.out]
              cases st with
              | true =>
                have HIN : Hid (DI w bt N G rb N (edV K j lfn R (q + 1)) w5) := HI5.out.eq (fun a b _ _ => by rw [HIX.out a b]; simp)
                clear hsb
                go_wp2_with fail
                go_roundg (R.length - (q + 1))
                case measure => omega
                case rel => exact ⟨q + 1, by omega, by omega, by go_num, HIN, X45⟩
              | false =>
                simp at hsb
                obtain ⟨sm, hsm⟩ : ∃ n : Nat, sn = (n : Int) := ⟨sn.toNat, by omega⟩
                subst hsm
                have hlN : lfn < N := by omega
                have hsN : sm < N := by omega
                have hlN' : (lfn : Int) < (N : Int) := by omega
                have hsN' : (sm : Int) < (N : Int) := by omega
                have hl0' : (0 : Int) ≤ (lfn : Int) := by omega
                have hs0' : (0 : Int) ≤ (sm : Int) := by omega
                have h0 := HI5.out.tab.hdr hlN hlN
                have v0 := HI5.out.tab.cell hlN hlN hsN
                have f0 := HI5.out.tab.free hlN hlN sm
                have HIN : Hid (∀ W, Below w5.heap.size w5 W → DI w bt N G rb N (edV K j lfn R (q + 1)) (W.setCell ⟨rb lfn, sm, none⟩ (.bool true))) := by
                  intro W hW
                  refine (HI5.out.keep hW).set hlN hsN true (fun a b _ _ => ?_)
                  rw [HIX.out a b]
                  simp
                have X46 : Hid (∀ W, Below w5.heap.size w5 W → (W.setCell ⟨rb lfn, sm, none⟩ (.bool true)).heap[wm.heap.size]? = some (.cells #[.int .i64 lfn, .slice (some ⟨b', off', none⟩) R.length cv] 189 (0, 0))) := by
                  intro W hW
                  exact bx_other (bx_keep X45.out hW) (by have := HRBL.out lfn hlN; show wm.heap.size ≠ rb lfn; omega) _ _
                obtain ⟨ri, HRI⟩ := nameIt (rb lfn)
                obtain ⟨vv, HVV⟩ := nameIt (edV K j lfn R q lfn sm)
                rw [HRI.out] at h0 v0 f0 HIN X46
                rw [HVV.out] at v0
                clear hsb
                go_upto_region 14 with fail
                refine wp_region_still_tail 8 (by kernel_rfl) (by kernel_rfl) ?_
                simp only [List.take_succ_cons, List.take_zero, List.drop_succ_cons, List.drop_zero]
                change wpStill _ _ (World.drew _) _ _ _
                repeat still_step
                refine wpStill_nil ?_
                change wpList _ _ _ _ _ (World.drew _)
                go_wp2_with fail
                go_roundg (R.length - (q + 1))
                case measure => omega
                case rel => exact ⟨q + 1, by omega, by omega, by go_num, HIN.out w5.drew (Below.refl _ _).drew, X46.out w5.drew (Below.refl _ _).drew⟩
            · have hqR' : ¬ (q : Int) < (R.length : Int) := by omega
              have HMN : Hid (DI w bt N G rb N (edV K (j + 1) 0 [] 0) wr) := by
                obtain rfl : q = R.length := by omega
                exact HI.out.eq (fun a b _ _ => HRX.out a b)
              go_wp2_with fail
              go_roundg (K.length - (j + 1))
              case measure => omega
              case rel => exact ⟨j + 1, by omega, by omega, by go_num, HMN⟩
        · have hjK' : ¬ (j : Int) < (K.length : Int) := by omega
          have HF0 : Hid (DI w bt N G rb N (fw E 0) wm) := HD.out.eq (fun a b _ _ => HEE.out j 0 [] a b (by omega))
          have hbx := HF0.out.box
          rw [HG.out] at hbx
          obtain ⟨x0, x1, x2, x3⟩ := bx_cells4 hbx
          clear hbx HD
          go_wp2_with fail
          clear x0 x1 x2 x3
          go_loopg [56] N (fun gg v56 wr => ∃ k : Nat, k ≤ N ∧ N - k ≤ gg ∧ v56 = .int .i64 k ∧ Hid (DI w bt N G rb N (fw E k) wr))
          case atStart => exact ⟨0, by omega, by omega, rfl, HF0⟩
          case round =>
            clear HF0
            obtain ⟨k, hk, hgk, rfl, HF⟩ := hrel
            by_cases hkN2 : k < N
            · have hkN3 : (k : Int) < (N : Int) := by omega
              have HM0 : Hid (DI w bt N G rb N (mixV E k 0 0) wr) := HF.out.eq (fun a b _ _ => (mix_start E k a b).symm)
              have hbx := HF.out.box
              rw [HG.out] at hbx
              obtain ⟨x0, x1, x2, x3⟩ := bx_cells4 hbx
              clear hbx HF
              go_wp2_with fail
              clear x0 x1 x2 x3
              go_loopg [61] N (fun gg v61 wr => ∃ i : Nat, i ≤ N ∧ N - i ≤ gg ∧ v61 = .int .i64 i ∧ Hid (DI w bt N G rb N (mixV E k i 0) wr))
              case atStart => exact ⟨0, by omega, by omega, rfl, HM0⟩
              case round =>
                clear HM0
                obtain ⟨i, hi, hgi, rfl, HM⟩ := hrel
                by_cases hiN : i < N
                · have hiN' : (i : Int) < (N : Int) := by omega
                  have hbx := HM.out.box
                  rw [HG.out] at hbx
                  obtain ⟨x0, x1, x2, x3⟩ := bx_cells4 hbx
                  have HM1 := HM
                  clear hbx HM
                  go_wp2_with fail
                  clear x0 x1 x2 x3
                  go_loopg [66] N (fun gg v66 wr => ∃ l : Nat, l ≤ N ∧ N - l ≤ gg ∧ v66 = .int .i64 l ∧ Hid (DI w bt N G rb N (mixV E k i l) wr))
                  case atStart => exact ⟨0, by omega, by omega, rfl, HM1⟩
                  case round =>
                    clear HM1
                    obtain ⟨l, hl, hgl, rfl, HM⟩ := hrel
                    by_cases hlN : l < N
                    · have hlN' : (l : Int) < (N : Int) := by omega
                      have hk0 : (0 : Int) ≤ (k : Int) := by omega
                      have hi0 : (0 : Int) ≤ (i : Int) := by omega
                      have hl0' : (0 : Int) ≤ (l : Int) := by omega
                      have h0 := HM.out.tab.hdr hiN hiN
                      have h1 := HM.out.tab.hdr hkN2 hkN2
                      have v0 := HM.out.tab.cell hiN hiN hlN
                      have v1 := HM.out.tab.cell hiN hiN hkN2
                      have v2 := HM.out.tab.cell hkN2 hkN2 hlN
                      have f0 := HM.out.tab.free hiN hiN l
                      simp only [mix_at, mix_row, mix_col] at v0 v1 v2
                      have HIN : Hid (∀ W, Below wr.heap.size wr W → DI w bt N G rb N (mixV E k i (l + 1)) (W.setCell ⟨rb i, l, none⟩ (.bool (fw E k i l || (fw E k i k && fw E k k l))))) := by
                        intro W hW
                        exact (HM.out.keep hW).set hiN hlN _ (fun a b _ _ => mix_next E k i l a b)
                      obtain ⟨ri, HRI⟩ := nameIt (rb i)
                      obtain ⟨rk, HRK⟩ := nameIt (rb k)
                      obtain ⟨xx, HXX⟩ := nameIt (fw E k i l)
                      obtain ⟨yy, HYY⟩ := nameIt (fw E k i k)
                      obtain ⟨zz, HZZ⟩ := nameIt (fw E k k l)
                      rw [HRI.out] at h0 v0 v1 f0 HIN
                      rw [HRK.out] at h1 v2
                      rw [HXX.out] at v0
                      rw [HYY.out] at v1
                      rw [HZZ.out] at v2
                      rw [HXX.out, HYY.out, HZZ.out] at HIN
                      go_upto_region 26 with fail
                      cases xx with
                      | true =>
                        refine wp_region_still_tail 31 (by kernel_rfl) (by kernel_rfl) ?_
                        simp only [List.take_succ_cons, List.take_zero, List.drop_succ_cons, List.drop_zero]
                        change wpStill _ _ (World.drew _) _ _ _
                        refine still_of_quiet _ _ ?_
                        repeat (go_big_quiet_step (fail))
                        refine wpQuiet_nil ?_
                        change wpList _ _ _ _ _ (World.drew _)
                        go_wp2_with fail
                        go_roundg (N - (l + 1))
                        case measure => omega
                        case rel => exact ⟨l + 1, by omega, by omega, by go_num, HIN.out wr.drew (Below.refl _ _).drew⟩
                      | false =>
                        cases yy with
                        | true =>
                          refine wp_region_still_tail 31 (by kernel_rfl) (by kernel_rfl) ?_
                          simp only [List.take_succ_cons, List.take_zero, List.drop_succ_cons, List.drop_zero]
                          change wpStill _ _ (World.drew _) _ _ _
                          refine still_of_quiet _ _ ?_
                          repeat (go_big_quiet_step (fail))
                          refine wpQuiet_nil ?_
                          change wpList _ _ _ _ _ (World.drew _)
                          go_wp2_with fail
                          go_roundg (N - (l + 1))
                          case measure => omega
                          case rel => exact ⟨l + 1, by omega, by omega, by go_num, HIN.out wr.drew (Below.refl _ _).drew⟩
                        | false =>
                          refine wp_region_still_tail 31 (by kernel_rfl) (by kernel_rfl) ?_
                          simp only [List.take_succ_cons, List.take_zero, List.drop_succ_cons, List.drop_zero]
                          change wpStill _ _ (World.drew _) _ _ _
                          refine still_of_quiet _ _ ?_
                          repeat (go_big_quiet_step (fail))
                          refine wpQuiet_nil ?_
                          change wpList _ _ _ _ _ (World.drew _)
                          go_wp2_with fail
                          go_roundg (N - (l + 1))
                          case measure => omega
                          case rel => exact ⟨l + 1, by omega, by omega, by go_num, HIN.out wr.drew (Below.refl _ _).drew⟩
                    · have hlN' : ¬ (l : Int) < (N : Int) := by omega
                      have HMN : Hid (DI w bt N G rb N (mixV E k (i + 1) 0) wr) := HM.out.eq (fun a b _ hb => mix_line hb (by omega))
                      go_wp2_with fail
                      go_roundg (N - (i + 1))
                      case measure => omega
                      case rel => exact ⟨i + 1, by omega, by omega, by go_num, HMN⟩
                · have hiN' : ¬ (i : Int) < (N : Int) := by omega
                  have HFN : Hid (DI w bt N G rb N (fw E (k + 1)) wr) := HM.out.eq (fun a b ha _ => mix_end ha (by omega))
                  go_wp2_with fail
                  go_roundg (N - (k + 1))
                  case measure => omega
                  case rel => exact ⟨k + 1, by omega, by omega, by go_num, HFN⟩
            · have hkN3 : ¬ (k : Int) < (N : Int) := by omega
              have hkk : k = N := by omega
              have HEND := HF.out
              rw [hkk] at HEND
              have HE1 := Lib.hid HEND
              clear hkk HEND
              go_wp2_with fail
              go_ret
              refine HFIN.out bt rb _ ?_ HE1.out.bel
              obtain ⟨t1, t2, t3, t4, t5⟩ := HE1.out.tab
              exact ⟨t1, t2, t3, fun k h1 h2 => ⟨(t4 k h1 h2).1, by have := (t4 k h1 h2).2; omega⟩, by omega⟩
end Go.Proofs.Ytjehmleckcmilaa
