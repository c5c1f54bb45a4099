/- The walk of approx.components. -/
import Derived.Test.YtjehmleckcmilaaComponents
namespace Go.Proofs.Ytjehmleckcmilaa
open Go.RowKit

set_option maxHeartbeats 4000000 in
set_option maxRecDepth 100000 in
theorem componentsE (g : Gram) (hg : checkG g = 0) (ar : Option Addr) (cr : Nat) (w : World) (hr : Rd AnyB w (.sl (g.rules.map Rule.d)) [.slice ar g.rules.length cr]) :
    Calls Try.prog 118 #[.agg #[.int .i64 g.terms, .int .i64 g.nons, .int .i64 g.start, .slice ar g.rules.length cr]] w (CompsPost g w) := by
  obtain ⟨⟨hg1, hg2, hg3, hg4, hg5, hg6⟩, hg7, hg8⟩ := checkG_zero hg
  have hbs := hr.bounds.2
  unfold maxLen at hbs
  obtain ⟨hc1, hc2⟩ := hbs
  obtain ⟨N, HN⟩ : ∃ N : Nat, g.nons = (N : Int) := ⟨g.nons.toNat, by omega⟩
  have HNN := Lib.hid HN
  have HFIN : Hid (∀ v W, Rd AnyB W (.sl ((compsN g.rules (gEdges g) N N).map Comp.d)) [v] → Below w.heap.size w W → CompsPost g w (.returned v) W) := by
    intro v W h1 h2
    refine ⟨v, rfl, ?_, h2⟩
    rw [HN]; exact h1
  have hN1 : 1 ≤ N := by omega
  have hN10 : N ≤ 10 := by omega
  obtain ⟨w0, HW0⟩ := nameIt (w.alloc (.cells #[.int .i64 g.terms, .int .i64 g.nons, .int .i64 g.start, .slice ar g.rules.length cr] 77))
  have HB0 : Hid (Below w.heap.size w w0) := by rw [← HW0.out]; exact (Below.refl _ _).alloc (Nat.le_refl _) _
  have X1 : Hid (w0.heap[w.heap.size]? = some (.cells #[.int .i64 g.terms, .int .i64 g.nons, .int .i64 g.start, .slice ar g.rules.length cr] 77 (0, 0))) := by rw [← HW0.out]; exact bx_new _ _ _ rfl
  have HDV := Lib.hid (derivesE g hg ar cr w0 (hr.below HB0.out))
  have HOL := Lib.hid (fun (l : List Int) (k : Int) a cap W (hb : Below w0.heap.size w0 W) (hl : Sl W (.slice a l.length cap) (ints l)) => onlyE g hg 192 pLast placeLast k a cap l ar cr W hl ((hr.below HB0.out).below hb))
  have HOF := Lib.hid (fun (l : List Int) (k : Int) a cap W (hb : Below w0.heap.size w0 W) (hl : Sl W (.slice a l.length cap) (ints l)) => onlyE g hg 193 pFirst placeFirst k a cap l ar cr W hl ((hr.below HB0.out).below hb))
  obtain ⟨gt, HGT⟩ := nameIt g.terms
  obtain ⟨gs, HGS⟩ := nameIt g.start
  obtain ⟨K, HK⟩ := nameIt g.rules
  obtain ⟨E, HE⟩ := nameIt (gEdges g)
  rw [HGT.out, HGS.out, HK.out, HN] at X1 HDV HOL HOF HW0
  rw [HK.out] at hc1 hg7 HFIN
  rw [HE.out] at HFIN
  have HDP : Hid (∀ e W, DerPost g w0 e W → ∃ bt rb, e = .returned (.slice (some ⟨bt, 0, none⟩) N N) ∧ BTab w0.heap.size bt N N rb (fw E N) W ∧ Below w0.heap.size w0 W) := by
    rintro e W ⟨bt, rb, h1, h2, h3⟩
    rw [HNN.out] at h1 h2
    rw [HE.out] at h2
    exact ⟨bt, rb, h1, h2, h3⟩
  rw [HN, HGT.out, HGS.out, HK.out]
  obtain ⟨x0, x1, x2, x3⟩ := bx_cells4 X1.out
  clear hr HN hg1 hg2 hg3 hg4 hg5 hg6 hg8 hg
  go_enter Try.func118, Try.ntmps118
  go_upto_region 1 with fail
  rw [HW0.out]
  go_wp2_with fail
  refine HDV.out.mono ?_
  intro e w2 hpost
  obtain ⟨bt, rb, rfl, ht, hb2⟩ := HDP.out e w2 hpost
  have HT := Lib.hid ht
  have HB2 := Lib.hid hb2
  have X2 := Lib.hid (bx_keep X1.out hb2)
  clear hpost ht hb2 x0 x1 x2 x3
  obtain ⟨x0, x1, x2, x3⟩ := bx_cells4 X2.out
  obtain ⟨B, HBB⟩ := nameIt w2.heap.size
  have HR0 : Hid (RowD (fun k => B ≤ k) B 98 2 ((compsN K E N 0).map Comp.d) (.slice none 0 0) w2) := by
    have h := RowD.nil (fun k => B ≤ k) B 98 2 w2 (by rw [HBB.out]; exact Nat.le_refl _)
    exact Lib.hid (by simpa [compsN] using h)
  go_wp2_with fail
  clear x0 x1 x2 x3
  go_loopg [4, 12] N (fun gg v4 v12 wr => ∃ a : Nat, a ≤ N ∧ N - a ≤ gg ∧ v12 = .int .i64 a ∧ Hid (RowD (fun k => B ≤ k) B 98 2 ((compsN K E N a).map Comp.d) v4 wr) ∧ Hid (Below w2.heap.size w2 wr) ∧ Hid ((compsN K E N a).length ≤ a))
  case atStart => exact ⟨0, by omega, by omega, rfl, HR0, Below.refl _ _, Lib.hid (by simp [compsN])⟩
  case round =>
    clear HR0
    obtain ⟨wo, rfl⟩ : ∃ wo : World, wo = wr := ⟨_, rfl⟩
    obtain ⟨a, ha, hga, rfl, HRO, HBO, HLE⟩ := hrel
    by_cases haN : a < N
    · have haN' : (a : Int) < (N : Int) := by omega
      have ha0 : (0 : Int) ≤ (a : Int) := by omega
      obtain ⟨av, cv, rfl, hv1, hv2, hvb⟩ := HRO.out.form
      have HVB := Lib.hid hvb
      unfold maxLen at hv2
      rw [List.length_map] at hv1
      have HCN : Hid (compsN K E N (a + 1) = if (compsN K E N a).any (fun c => inL c.nons a) then compsN K E N a else compsN K E N a ++ [⟨kindOf K (clsOf E N a), clsOf E N a⟩]) := rfl
      obtain ⟨w3, HW3⟩ := nameIt (wo.alloc (.cells #[.int .i64 a] 3))
      have hb3 : Below wo.heap.size wo w3 := by rw [← HW3.out]; exact (Below.refl _ _).alloc (Nat.le_refl _) _
      have X3 : Hid (w3.heap[wo.heap.size]? = some (.cells #[.int .i64 a] 3 (0, 0))) := by rw [← HW3.out]; exact bx_new _ _ _ rfl
      have hrd := (HRO.out.keep hb3).rd.any
      rw [List.length_map] at hrd
      have HCF := Lib.hid (containsFuncComp 190 #[.pointer (some ⟨wo.heap.size, 0, none⟩)] (fun c => inL c.nons a) av cv (compsN K E N a) w3 (fun _ _ => by kernel_rfl) (comp1F a wo.heap.size _ w3 X3.out) hrd)
      have HR3 := Lib.hid (HRO.out.keep hb3)
      rw [List.length_map]
      rw [List.length_map] at HR3 HVB
      obtain ⟨CS, HCS⟩ := nameIt (compsN K E N a)
      rw [HCS.out] at HCF HCN HR3 HVB HLE hv1
      rw [HCS.out]
      obtain ⟨nc, HNC⟩ := nameIt CS.length
      rw [HNC.out] at HCF HR3 HVB HLE hv1
      rw [HNC.out]
      obtain ⟨ab, HAB⟩ := nameIt (CS.any fun c => inL c.nons a)
      rw [HAB.out] at HCF HCN
      have HB3 : Hid (Below w2.heap.size w2 w3) := HBO.out.trans (hb3.mono HBO.out.size)
      have hnc : nc ≤ 10 := by have := HLE.out; omega
      clear hvb hb3 hrd
      go_upto_region 6 with fail
      rw [HW3.out]
      go_wp2_with fail
      refine HCF.out.mono ?_
      rintro e w4 ⟨rfl, hb4⟩
      have HB4 : Hid (Below w2.heap.size w2 w4) := HB3.out.trans (hb4.mono HB3.out.size)
      have HR4 := Lib.hid (HR3.out.keep hb4)
      have X4 := Lib.hid (bx_keep X3.out hb4)
      clear hb4
      cases ab with
      | true =>
        have HRN : Hid (RowD (fun k => B ≤ k) B 98 2 ((compsN K E N (a + 1)).map Comp.d) (.slice av nc cv) w4) := by
          rw [HCN.out]
          exact HR4.out
        have HLN : Hid ((compsN K E N (a + 1)).length ≤ a + 1) := by
          show _ ≤ _
          rw [HCN.out, if_pos rfl, HNC.out]
          have := HLE.out; omega
        go_wp2_with fail
        go_roundg (N - (a + 1))
        case measure => omega
        case rel => exact ⟨a + 1, by omega, by omega, by go_num, HRN, HB4, HLN⟩
      | false =>
        obtain ⟨cb, HCB⟩ := nameIt w4.heap.size
        obtain ⟨w5, HW5⟩ := nameIt (w4.alloc (.cells #[.int .i64 2, .slice none 0 0] 98))
        have X5 : Hid (w5.heap[cb]? = some (.cells #[.int .i64 2, .slice none 0 0] 98 (0, 0))) := by rw [← HW5.out]; exact bx_new _ _ _ HCB.out.symm
        have hsz5 : w5.heap.size = cb + 1 := by rw [← HW5.out, ← HCB.out]; simp
        have HB5 : Hid (Below cb w4 w5) := by rw [← HW5.out, ← HCB.out]; exact (Below.refl _ _).alloc (Nat.le_refl _) _
        have HCI0 : Hid (CI w4 cb (clsTo E N a 0) 2 w5) := ⟨⟨.slice none 0 0, X5.out, by simpa [clsTo, ints] using World.ownsRow_nil w5 (cb + 1) 3 1⟩, HB5.out, by omega⟩
        have X2' := bx_keep X2.out HB4.out
        have X25 : Hid (w5.heap[w.heap.size]? = some (.cells #[.int .i64 gt, .int .i64 N, .int .i64 gs, .slice ar K.length cr] 77 (0, 0))) := by
          rw [← HW5.out]; exact bx_keep X2' ((Below.refl _ _).alloc (Nat.le_refl _) _)
        obtain ⟨x0, x1, x2, x3⟩ := bx_cells4 X25.out
        have HSZ := Lib.hid hsz5
        have hnbl : wo.heap.size < cb := by rw [← HCB.out]; exact (Array.getElem?_eq_some_iff.1 X4.out).1
        have hgbl : w.heap.size < cb := by rw [← HCB.out]; exact (Array.getElem?_eq_some_iff.1 X2').1
        clear X2'
        go_upto_region 8 with fail
        rw [HW5.out, HCB.out]
        go_wp2_with fail
        clear x0 x1 x2 x3
        go_loopg [21] N (fun gg v21 wr => ∃ m : Nat, m ≤ N ∧ N - m ≤ gg ∧ v21 = .int .i64 m ∧ Hid (CI w4 cb (clsTo E N a m) 2 wr))
        case atStart => exact ⟨0, by omega, by omega, rfl, HCI0⟩
        case round =>
          clear HCI0 hsz5
          obtain ⟨m, hm, hgm, rfl, HCI⟩ := hrel
          have HBW : Hid (Below w2.heap.size w2 wr) := HB4.out.trans (HCI.out.bel.mono (by rw [← HCB.out]; exact HB4.out.size))
          have XW : Hid (wr.heap[wo.heap.size]? = some (.cells #[.int .i64 a] 3 (0, 0))) := by show _ = _; rw [HCI.out.bel.block _ hnbl]; exact X4.out
          by_cases hmN : m < N
          · have hmN' : (m : Int) < (N : Int) := by omega
            have hm0 : (0 : Int) ≤ (m : Int) := by omega
            have cn := bx_cells1 XW.out
            have HCT := Lib.hid (clsTo_next E N a m)
            obtain ⟨mb, HMB⟩ := nameIt (mutB E N a m)
            rw [HMB.out] at HCT
            go_upto_region 11 with fail
            go_cut [44] (fun tt wx => tt = .bool mb ∧ Hid (Below wr.heap.size wr wx))
            case first =>
              have hmu : (m == a || (fw E N a m && fw E N m a)) = mb := HMB.out
              have htw := HT.out.keep HBW.out
              have h0 := htw.hdr haN haN
              have h1 := htw.hdr hmN hmN
              have v0 := htw.cell haN haN hmN
              have v1 := htw.cell hmN hmN haN
              obtain ⟨ra, HRA⟩ := nameIt (rb a)
              obtain ⟨rm, HRM⟩ := nameIt (rb m)
              obtain ⟨f0, HF0⟩ := nameIt (fw E N a m)
              obtain ⟨f1, HF1⟩ := nameIt (fw E N m a)
              rw [HRA.out] at h0 v0
              rw [HRM.out] at h1 v1
              rw [HF0.out] at v0 hmu
              rw [HF1.out] at v1 hmu
              by_cases hma : m = a
              · have hq : ((m : Int) == (a : Int)) = true := by simp; omega
                obtain rfl : mb = true := by rw [← hmu]; simp [hma]
                clear hma htw hmu
                go_quiet (fail)
                go_wp2_with fail
                go_meet
                exact ⟨rfl, below_drewN _ _⟩
              · have hq : ((m : Int) == (a : Int)) = false := by simp; omega
                have hmu2 : (f0 && f1) = mb := by rw [← hmu]; simp [hma]
                cases f0 with
                | true =>
                  obtain rfl : f1 = mb := by simpa using hmu2
                  clear hma htw hmu hmu2
                  go_quiet (fail)
                  go_wp2_with fail
                  go_meet
                  exact ⟨rfl, below_drewN _ _⟩
                | false =>
                  obtain rfl : false = mb := by simpa using hmu2
                  clear hma htw hmu hmu2
                  go_quiet (fail)
                  go_wp2_with fail
                  go_meet
                  exact ⟨rfl, below_drewN _ _⟩
            case rest =>
              obtain ⟨rfl, HC6⟩ := hcut
              obtain ⟨w6, rfl⟩ : ∃ ww : World, ww = wc := ⟨_, rfl⟩
              have HCI6 := Lib.hid (HCI.out.keep HC6.out)
              clear cn
              cases mb with
              | false =>
                have HCN1 : Hid (CI w4 cb (clsTo E N a (m + 1)) 2 w6) := by rw [HCT.out]; exact HCI6.out
                go_wp2_with fail
                go_roundg (N - (m + 1))
                case measure => omega
                case rel => exact ⟨m + 1, by omega, by omega, by go_num, HCN1⟩
              | true =>
                have hlen := cls_len E N a m
                obtain ⟨⟨u, hbx, hown⟩, hbel, hlt⟩ := HCI6.out
                obtain ⟨L, HL⟩ := nameIt (clsTo E N a m)
                rw [HL.out] at hown hlen HCT
                obtain ⟨nL, HNL⟩ := nameIt L.length
                rw [HNL.out] at hown hlen
                obtain ⟨au, cu, rfl, hu1, hu2⟩ := own_len hown
                unfold maxLen at hu2
                obtain ⟨k0, k1⟩ := bx_cells2 hbx
                obtain ⟨g0, g1⟩ := bx_free2 hbx
                have HOW := Lib.hid hown
                have HBX := Lib.hid hbx
                have HBL := Lib.hid hbel
                clear hown hbx hbel
                go_wp2_with (at_builtin; refine wp_app1at elInt rfl _ _ rfl HOW.out rfl rfl (by simp) rfl rfl (by omega) (by unfold maxLen; omega) (by omega) ?_)
                intro v' wz hoz hgz hatz
                have hbz : wz.heap[cb]? = some (.cells #[.int .i64 2, .slice au nL cu] 98 (0, 0)) := by
                  rw [hgz.block cb hlt (fun e => by have := (HOW.out.lt cb e.symm).1; omega)]; exact HBX.out
                obtain ⟨k0', k1'⟩ := bx_cells2 hbz
                obtain ⟨g0', g1'⟩ := bx_free2 hbz
                have HCN1 : Hid (CI w4 cb (clsTo E N a (m + 1)) 2 (wz.setCell ⟨cb, 1, none⟩ v')) := by
                  rw [HCT.out, if_pos trivial]
                  refine ⟨⟨v', by simpa using bx_set hbz 1 v', ?_⟩, (HBL.out.grown hgz (by omega) (fun k e => by have := (HOW.out.lt k e).1; omega)).setCell (by show cb ≤ cb; omega) _, by have := hgz.size; simp [World.setCell]; omega⟩
                  refine ownsRow_setCell_below ?_ (by show cb < cb + 1; omega) _
                  rw [List.length_append, HNL.out]
                  simpa [ints] using hoz
                obtain ⟨gz, cz, rfl, -, -, -, -, -⟩ := own_at hoz hatz
                clear hoz hgz hatz hbz k0 k1 g0 g1
                go_wp2_with fail
                go_roundg (N - (m + 1))
                case measure => omega
                case rel => exact ⟨m + 1, by omega, by omega, by go_num, HCN1⟩
          · have hmN' : ¬ (m : Int) < (N : Int) := by omega
            have HCE : Hid (CI w4 cb (clsOf E N a) 2 wr) := by
              obtain rfl : m = N := by omega
              exact HCI.out
            clear XW
            go_upto_block 4 with fail
            have HKO : Hid (kindOf K (clsOf E N a) = if onlyB K (clsOf E N a) pLast then 0 else if onlyB K (clsOf E N a) pFirst then 1 else 2) := rfl
            have hlen := cls_len E N a N
            obtain ⟨L, HL⟩ := nameIt (clsOf E N a)
            rw [show clsTo E N a N = clsOf E N a from rfl, HL.out] at hlen
            rw [HL.out] at HCE HKO HCN
            obtain ⟨kd, HKD⟩ := nameIt (kindOf K L)
            rw [HKD.out] at HKO HCN
            have HB0W : Hid (Below w0.heap.size w0 wr) := HB2.out.trans (HBW.out.mono HB2.out.size)
            have XG : Hid (wr.heap[w.heap.size]? = some (.cells #[.int .i64 gt, .int .i64 N, .int .i64 gs, .slice ar K.length cr] 77 (0, 0))) := by
              show _ = _
              rw [HCE.out.bel.block _ hgbl, ← HB5.out.block _ hgbl]; exact X25.out
            go_cut [] from 52 to 61 (fun wx => Hid (CI w4 cb L kd wx))
            case first =>
              obtain ⟨⟨u, hbx, hown⟩, hbel, hlt⟩ := HCE.out
              obtain ⟨au, cu, rfl, hu1, hu2⟩ := own_len hown
              obtain ⟨k0, k1⟩ := bx_cells2 hbx
              obtain ⟨x0, x1, x2, x3⟩ := bx_cells4 XG.out
              have HO1 := Lib.hid (HOL.out L 2 au cu wr HB0W.out (sl_of_own hown))
              obtain ⟨nL, HNL⟩ := nameIt L.length
              obtain ⟨p1, HP1⟩ := nameIt (onlyB K L pLast)
              obtain ⟨p2, HP2⟩ := nameIt (onlyB K L pFirst)
              rw [HNL.out, HP1.out] at HO1
              rw [HNL.out] at k1
              rw [HP1.out, HP2.out] at HKO
              clear hbx hown hbel
              go_wp2_with fail
              refine HO1.out.mono ?_
              rintro e w7 ⟨rfl, hb7⟩
              have HC7 := Lib.hid (HCE.out.keep hb7)
              have XG7 := Lib.hid (bx_keep XG.out hb7)
              have HB07 : Hid (Below w0.heap.size w0 w7) := HB0W.out.trans (hb7.mono HB0W.out.size)
              clear hb7 k0 k1 x0 x1 x2 x3
              obtain ⟨⟨u7, hbx, hown⟩, hbel, hlt7⟩ := HC7.out
              obtain ⟨au7, cu7, rfl, hu71, hu72⟩ := own_len hown
              obtain ⟨k0, k1⟩ := bx_cells2 hbx
              obtain ⟨g0, g1⟩ := bx_free2 hbx
              cases p1 with
              | true =>
                obtain rfl : kd = 0 := by rw [HKO.out]; rfl
                have HCK := Lib.hid (HC7.out.kind 0)
                clear hbx hown hbel
                go_wp2_with fail
                go_meet
                exact HCK
              | false =>
                obtain ⟨x0, x1, x2, x3⟩ := bx_cells4 XG7.out
                have HO2 := Lib.hid (HOF.out L 2 au7 cu7 w7 HB07.out (sl_of_own hown))
                rw [HNL.out, HP2.out] at HO2
                rw [HNL.out] at k1
                clear hbx hown hbel
                go_wp2_with fail
                refine HO2.out.mono ?_
                rintro e w8 ⟨rfl, hb8⟩
                have HC8 := Lib.hid (HC7.out.keep hb8)
                clear hb8 k0 k1 x0 x1 x2 x3 g0 g1
                cases p2 with
                | true =>
                  obtain rfl : kd = 1 := by rw [HKO.out]; rfl
                  obtain ⟨⟨u8, hbx, hown⟩, hbel, hlt8⟩ := HC8.out
                  obtain ⟨k0, k1⟩ := bx_cells2 hbx
                  obtain ⟨g0, g1⟩ := bx_free2 hbx
                  have HCK := Lib.hid (HC8.out.kind 1)
                  clear hbx hown hbel
                  go_wp2_with fail
                  go_meet
                  exact HCK
                | false =>
                  obtain rfl : kd = 2 := by rw [HKO.out]; rfl
                  go_wp2_with fail
                  go_meet
                  exact HC8
            case rest =>
              obtain ⟨w9, rfl⟩ : ∃ ww : World, ww = wc := ⟨_, rfl⟩
              have HC9 := Lib.hid hcut.out
              clear hcut
              obtain ⟨⟨u9, hbx, hown⟩, hbel, hlt9⟩ := HC9.out
              obtain ⟨au9, cu9, rfl, hu91, hu92⟩ := own_len hown
              obtain ⟨k0, k1⟩ := bx_cells2 hbx
              have hR9 : RowD (fun k => B ≤ k) B 98 2 (CS.map Comp.d) (.slice av nc cv) w9 := by
                obtain ⟨⟨xs, h1, h2⟩, h3⟩ := HR4.out
                have hblk : ∀ k, k < cb → w9.heap[k]? = w4.heap[k]? := fun k hk => hbel.block k hk
                have hlt4 : ∀ k, k < w4.heap.size → k < cb := fun k hk => by rw [← HCB.out]; exact hk
                refine ⟨⟨xs, ?_, RdAll.keep (fun k hk hlt => ⟨hk, hblk k (hlt4 k hlt)⟩) _ _ h2⟩, by have := HB4.out.size; rw [HCB.out, HBB.out] at this; omega⟩
                obtain ⟨q1, q2⟩ := h1
                refine ⟨q1, ?_⟩
                rcases q2 with q2 | ⟨gg, cap, cur, e, hg', hh, r⟩
                · exact .inl q2
                · exact .inr ⟨gg, cap, cur, e, hg', (hblk gg (hlt4 gg (Array.getElem?_eq_some_iff.1 hh).1)).trans hh, r⟩
              obtain ⟨⟨xs, hxo, hxd⟩, hxl⟩ := hR9
              rw [List.length_map, HNC.out] at hxo
              have HXO := Lib.hid hxo
              have HXD := Lib.hid hxd
              have HBL9 := Lib.hid hbel
              have hvlt : ∀ k, (Value.slice av nc cv).ownBlock = some k → k < cb := fun k e => by
                obtain ⟨⟨ys, h1, _⟩, _⟩ := HR4.out
                have := (h1.lt k e).2
                rw [← HCB.out]; exact this
              have HVL := Lib.hid hvlt
              have HNEW : Hid (Rd (fun k => B ≤ k ∧ (Value.slice av nc cv).ownBlock ≠ some k) w9 (Comp.d ⟨kd, L⟩) [.int .i64 kd, .slice au9 L.length cu9]) := by
                refine rd_comp ⟨kd, L⟩ ?_
                refine rd_of_own hown ((rdAll_ints _ _).2 rfl) (by simp) (fun k e => ?_)
                have h5 := (hown.lt k e).1
                refine ⟨?_, fun e2 => by have := hvlt k e2; omega⟩
                have := HB4.out.size
                rw [HCB.out, HBB.out] at this
                omega
              obtain ⟨nL, HNL⟩ := nameIt L.length
              rw [HNL.out] at k1 HNEW
              clear hxo hxd hbx hown hbel hvlt
              go_wp2_with (at_builtin; refine wp_app1at elComp rfl _ _ rfl HXO.out rfl rfl (by simp) rfl rfl (by omega) (by unfold maxLen; omega) (by omega) ?_)
              intro v' wz hoz hgz hatz
              have HRZ : Hid (RowD (fun k => B ≤ k) B 98 2 ((compsN K E N (a + 1)).map Comp.d) v' wz) := by
                rw [HCN.out]
                simp only [Bool.false_eq_true, if_false]
                rw [List.map_append]
                exact RowD.step HXO.out HXD.out (by rw [List.length_map, HNC.out]) (RdAll.one HNEW.out) (fun k hk _ => hk) (by omega) hoz hgz hatz
              have HLN : Hid ((compsN K E N (a + 1)).length ≤ a + 1) := by
                show _ ≤ _
                rw [HCN.out]
                simp only [Bool.false_eq_true, if_false]
                rw [List.length_append, HNC.out]
                have := HLE.out; simp; omega
              have HBZ : Hid (Below w2.heap.size w2 wz) := by
                have h := HB4.out.trans (HBL9.out.mono (by rw [← HCB.out]; exact HB4.out.size))
                exact h.grown hgz h.size (fun k e => by rw [HBB.out]; exact (HXO.out.lt k e).1)
              obtain ⟨gz, cz, rfl, -, -, -, -, -⟩ := own_at hoz hatz
              clear hoz hgz hatz
              go_wp2_with fail
              go_roundg (N - (a + 1))
              case measure => omega
              case rel => exact ⟨a + 1, by omega, by omega, by go_num, HRZ, HBZ, HLN⟩
    · have haN' : ¬ (a : Int) < (N : Int) := by omega
      have haa : a = N := by omega
      have HEND := HRO.out.rd.any
      rw [haa] at HEND
      have HE1 := Lib.hid HEND
      obtain ⟨av, nv, cv, rfl⟩ : ∃ x y z, u4 = Value.slice x y z := by obtain ⟨x, z, e, _⟩ := HRO.out.form; exact ⟨_, _, _, e⟩
      clear HEND haa
      go_wp2_with fail
      go_ret
      have h2 := HB0.out.trans (HB2.out.mono HB0.out.size)
      exact HFIN.out _ _ HE1.out (h2.trans (HBO.out.mono h2.size))
end Go.Proofs.Ytjehmleckcmilaa
