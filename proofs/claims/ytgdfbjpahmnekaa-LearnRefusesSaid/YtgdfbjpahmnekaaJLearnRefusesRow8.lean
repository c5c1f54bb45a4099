/- The contract of dfa.Canon. learn.Of where the first answer is no counterexample. The functions that LearnRefuses hands over. The law LearnRefuses. -/
import Derived.Test.YtgdfbjpahmnekaaJLearnRefusesRow3
import Derived.Test.YtgdfbjpahmnekaaJLearnRefusesRow6
import Derived.Test.YtgdfbjpahmnekaaJLearnRefusesRow7
import Derived.Test.YtgdfbjpahmnekaaJLearnRefusesRow2
import Derived.BigQuiet
import Derived.Test.YtgdfbjpahmnekaaJLearnRefusesRow5
namespace Go.Proofs.Ytgdfbjpahmnekaa
open Go.RowKit
namespace Df
open Km

theorem inv_setQ {md : Region.Mode} {ops : Array Oper} {n i : Nat} {listed : Array Bool} (inv : HeadInv md ops n listed) (hr : (Region.ready md ops listed).contains i = true) (hin : i < n) : HeadInv md ops n (listed.setIfInBounds i true) := inv.set (by simpa using hr) hin
def CanonPost (x : Dfa) (n : Nat) (w : World) (e : Ending) (w' : World) : Prop := ∃ (M : Nat → Bool) (j : Nat) (aa an : Option Addr) (ca cn : Nat), (∀ s, M s = true ↔ Liv x s) ∧ ptC x M n (j + 1) = ptC x M n j ∧
  e = .returned (.agg #[.int .i64 0, .slice aa (canonD x (ptI x M n (j + 1)) n).acc.length ca, .slice an (canonD x (ptI x M n (j + 1)) n).next.length cn]) ∧ Sl w' (.slice aa (canonD x (ptI x M n (j + 1)) n).acc.length ca) (ints (canonD x (ptI x M n (j + 1)) n).acc) ∧ Rd AnyB w' (.sl ((canonD x (ptI x M n (j + 1)) n).next.map D.ints)) [.slice an (canonD x (ptI x M n (j + 1)) n).next.length cn] ∧ Below w.heap.size w w'
set_option maxHeartbeats 8000000 in
set_option maxRecDepth 100000 in
theorem canonE (x : Dfa) (hx : Right x) (hlo : ∀ v ∈ x.acc, v ≤ 9223372036854775807) (aa an : Option Addr) (ca cn : Nat) (n : Nat) (hn : x.next.length = n) (w : World) (hA : Sl w (.slice aa n ca) (ints x.acc)) (hN : Rd AnyB w (.sl (x.next.map D.ints)) [.slice an n cn]) :
    Calls Try.prog 10 #[.agg #[.int .i64 x.start, .slice aa n ca, .slice an n cn]] w (CanonPost x n w) := by
  have h200 := hx.states
  have hacl := hx.accs
  have hst := hx.start
  have hsy := hx.syms
  rw [hn] at h200 hacl hst
  obtain ⟨hn0, hn2⟩ := h200
  obtain ⟨sn, hsn⟩ : ∃ sn : Nat, x.start = (sn : Int) := ⟨x.start.toNat, by omega⟩
  obtain ⟨w0, HW0⟩ := nameIt ((w.alloc (.cells #[.int .i64 (sn : Int), .slice aa n ca, .slice an n cn] 25)).alloc (.cells #[.int .i64 0, .slice none 0 0, .slice none 0 0] 25))
  have hb0 : Below w.heap.size w w0 := by rw [← HW0.out]; exact ((Below.refl _ _).alloc (Nat.le_refl _) _).alloc (by simp) _
  have HX0 : Hid (w0.heap[w.heap.size]? = some (.cells #[.int .i64 (sn : Int), .slice aa n ca, .slice an n cn] 25 (0, 0))) := by rw [← HW0.out]; exact bx_keep (bx_new _ _ _ rfl) ((Below.refl _ _).alloc (Nat.le_refl _) _)
  have HX1 : Hid (w0.heap[w.heap.size + 1]? = some (.cells #[.int .i64 0, .slice none 0 0, .slice none 0 0] 25 (0, 0))) := by rw [← HW0.out]; exact bx_new _ _ _ (by simp)
  have HB0 := Lib.hid hb0
  have HA0 := Lib.hid (hA.keep hb0)
  have HN0 := Lib.hid (hN.below hb0)
  have HPT := Lib.hid (partsE x hx hlo aa an ca cn n hn w0 HA0.out HN0.out)
  rw [hsn] at HPT hst
  have HXX := Lib.hid hx
  have HNN := Lib.hid hn
  have HSN := Lib.hid hsn
  have hsl : sn < n := by omega
  have hs0 : (0 : Int) ≤ (sn : Int) := by omega
  have hslI : (sn : Int) < (n : Int) := by omega
  obtain ⟨bn, on, vr, hae, c0, hrow⟩ := Rd.rowI_at HN0.out (i := 0) (by omega)
  obtain ⟨ar, kr, rfl⟩ := hrow.form
  rw [ints_len, width_at (by omega), Nat.add_zero] at c0
  obtain ⟨k, HWK⟩ := nameIt x.width
  rw [HWK.out] at c0 hsy
  obtain ⟨hk1, hk2⟩ := hsy
  subst hae
  obtain ⟨x0, x1, x2⟩ := bx_cells3 HX0.out
  have hn0I : (0 : Int) < (n : Int) := by omega
  obtain ⟨PST, HPS⟩ := nameIt (CanonPost x n w)
  have HFIN : Hid (∀ (M : Nat → Bool) (j : Nat) (aa an : Option Addr) (ca cn la lc : Nat) (P : Nat → Int) (w' : World), (∀ s, M s = true ↔ Liv x s) → ptC x M n (j + 1) = ptC x M n j → ptI x M n (j + 1) = P → la = (canonD x P n).acc.length → lc = (canonD x P n).next.length → Sl w' (.slice aa la ca) (ints (canonD x P n).acc) → Rd AnyB w' (.sl ((canonD x P n).next.map D.ints)) [.slice an lc cn] → Below w.heap.size w w' → PST (.returned (.agg #[.int .i64 0, .slice aa la ca, .slice an lc cn])) w') := by
    intro M j aa an ca cn la lc P w' h1 h2 h3 h4 h5 h6 h7 h8
    subst h3 h4 h5
    rw [← HPS.out]
    exact ⟨M, j, aa, an, ca, cn, h1, h2, rfl, h6, h7, h8⟩
  rw [HPS.out, hsn]
  clear hb0 hA hN hx hlo hn hsn hacl hst hrow HPS
  have hmk : ∀ W : World, (Instr.makeMap 48 none).run Try.prog W = .ok (.map (some W.heap.size)) (W.alloc (.map #[] 0)) := fun W => by
    simp [Instr.makeMap, run_underlying Try.underlying48]; try rfl
  have hms : ∀ W : World, (Instr.makeSlice 22 (.int .i64 (k : Int)) (.int .i64 (k : Int))).run Try.prog W = .ok (.slice (some ⟨W.heap.size, 0, none⟩) k k) (W.alloc (.cells (madeCells #[.int .i64 0] k) 3)) := fun W => by
    have := run_make_row' (P := Try.prog) 22 3 (.int .i64 0) 8 Try.underlying22 (by kernel_rfl) rfl .i64 .i64 k (by omega) (by omega) W
    simpa using this
  go_enter Try.func10, Try.ntmps10
  go_upto_region 1 with fail
  rw [HW0.out]
  go_wp2_with fail
  with_reducible refine HPT.out.mono ?_
  rintro e w1 ⟨pg, jj, M, rfl, hM, hjj, hpv, hpg, hb1⟩
  have HM := Lib.hid hM
  have HJJ := Lib.hid hjj
  have HPR : Hid (∀ s, s < n → -1 ≤ ptI x M n (jj + 1) s ∧ ptI x M n (jj + 1) s < n) := fun s hs => numP_range hs
  obtain ⟨P, HP⟩ := nameIt (ptI x M n (jj + 1))
  rw [HP.out] at HPR
  simp only [HP.out] at hpv
  have HPV := Lib.hid hpv
  have HPG := Lib.hid hpg
  have HB1 := Lib.hid hb1
  have v0 := hpv.cell hsl
  have hpr := HPR.out sn hsl
  obtain ⟨y0, y1, y2⟩ := bx_cells3 (bx_keep HX0.out hb1)
  have c1 := (hb1.cell (lt_of_cell c0)).trans c0
  obtain ⟨ps, HPSN⟩ := nameIt (P sn)
  rw [HPSN.out] at v0 hpr
  obtain ⟨z0, z1, z2⟩ := bx_cells3 (bx_keep HX1.out hb1)
  obtain ⟨f0, f1, f2⟩ := bx_free3 (bx_keep HX1.out hb1)
  clear hM hjj hpv hpg x0 x1 x2 c0 z0 z1 z2 f0 f1 f2
  by_cases hd : ps < 0
  · obtain ⟨l1, HL1⟩ := nameIt w1.heap.size
    obtain ⟨w2, HW2⟩ := nameIt ((w1.alloc (.cells #[.int .i64 (-1)] 3)).alloc (.cells #[.int .i64 (-1)] 3))
    have hb2 : Below w1.heap.size w1 w2 := by rw [← HW2.out]; exact ((Below.refl _ _).alloc (Nat.le_refl _) _).alloc (by simp) _
    have HA2 : Hid (w2.heap[l1]? = some (.cells #[.int .i64 (-1)] 3 (0, 0))) := by rw [← HW2.out]; exact bx_keep (bx_new _ _ _ HL1.out.symm) ((Below.refl _ _).alloc (Nat.le_refl _) _)
    have HR2 : Hid (w2.heap[l1 + 1]? = some (.cells #[.int .i64 (-1)] 3 (0, 0))) := by rw [← HW2.out]; exact bx_new _ _ _ (by simp; have := HL1.out; omega)
    have hs2 : Sl w2 (.slice (some ⟨l1 + 1, 0, none⟩) 1 1) (ints [-1]) := sl_lit1 HR2.out
    have HRP := Lib.hid (Cs.repE k hk1 (by omega) (-1) (some ⟨l1 + 1, 0, none⟩) 1 w2 hs2)
    have HB2 := Lib.hid hb2
    have hcd : canonD x P n = ⟨0, [-1], [List.replicate k (-1)]⟩ := by unfold canonD; rw [HSN.out, Int.toNat_natCast, HPSN.out, if_pos hd, HWK.out]
    have HCD := Lib.hid hcd
    clear hb2 hs2 hb1 hcd
    go_upto_region 4 with fail
    go_wp2_with fail
    rw [HL1.out, HW2.out]
    with_reducible refine HRP.out.mono ?_
    rintro e w3 ⟨p, rfl, hvr, hp, hb3⟩
    have HW3 : Hid (Rd (fun q => q ≠ w.heap.size + 1) w3 (D.ints (List.replicate k (-1))) [.slice (some ⟨p, 0, none⟩) k k]) := rd_vrow hvr (by simp) (by unfold maxLen; omega) (by have h2 := HB2.out.size; have h1 := HB1.out.size; have h3 : w.heap.size + 1 < w0.heap.size := lt_of_cell (bx_cells3 HX1.out).1; show p ≠ _; omega) (fun q _ => by simp)
    have hx3 := bx_keep HX1.out (HB1.out.trans ((HB2.out.trans (hb3.mono HB2.out.size)).mono HB1.out.size))
    obtain ⟨z0, z1, z2⟩ := bx_cells3 hx3
    obtain ⟨f0, f1, f2⟩ := bx_free3 hx3
    have HX3 := Lib.hid hx3
    have HA3 := Lib.hid (bx_keep HA2.out hb3)
    have HB3 := Lib.hid hb3
    have hlt3 := lt_of_cell z0
    clear hvr hp hb3 hx3
    go_wp2_with fail
    obtain ⟨w5, HW5⟩ := nameIt (((w3.setCell ⟨w.heap.size + 1, 0, none⟩ (.int .i64 0)).setCell ⟨w.heap.size + 1, 1, none⟩ (.slice (some ⟨l1, 0, none⟩) 1 1)).setCell ⟨w.heap.size + 1, 2, none⟩ (.slice (some ⟨w3.heap.size, 0, none⟩) 1 1))
    have hs5 : w5.heap.size = w3.heap.size := by rw [← HW5.out]; simp [World.setCell]
    have hl1 : w.heap.size + 1 < l1 := by have h1 : w.heap.size + 1 < w0.heap.size := lt_of_cell (bx_cells3 HX1.out).1; have h2 := HB1.out.size; have h3 : w1.heap.size = l1 := HL1.out; show _ < _; omega
    have h3s := HB3.out.size
    have h23 := HB2.out.size
    have h01 := HB1.out.size
    have h1l : w1.heap.size = l1 := HL1.out
    have hx5 : w5.heap[w.heap.size + 1]? = some (.cells #[.int .i64 0, .slice (some ⟨l1, 0, none⟩) 1 1, .slice (some ⟨w3.heap.size, 0, none⟩) 1 1] 25 (0, 0)) := by
      rw [← HW5.out]; exact bx_set3 HX3.out _ _ _
    have ha5 : w5.heap[l1]? = some (.cells #[.int .i64 (-1)] 3 (0, 0)) := by
      rw [← HW5.out]; exact bx_other3 HA3.out (by omega) _ _ _
    have hr5 : Rd (fun q => q ≠ w.heap.size + 1) w5 (D.ints (List.replicate k (-1))) [.slice (some ⟨p, 0, none⟩) k k] := by
      rw [← HW5.out]; exact Rd.keep (fun q hq hl => ⟨hq, (grown_box3 (w.heap.size + 1) w3 _ _ _).block q hl (fun e => hq (Option.some.inj e))⟩) _ _ HW3.out
    have hb5 : Below w.heap.size w w5 := by
      rw [← HW5.out]
      exact (((HB0.out.trans ((HB1.out.trans ((HB2.out.trans (HB3.out.mono h23)).mono h01)).mono HB0.out.size)).setCell (p := ⟨w.heap.size + 1, 0, none⟩) (by show _ ≤ w.heap.size + 1; omega) _).setCell (p := ⟨w.heap.size + 1, 1, none⟩) (by show _ ≤ w.heap.size + 1; omega) _).setCell (p := ⟨w.heap.size + 1, 2, none⟩) (by show _ ≤ w.heap.size + 1; omega) _
    rw [HW5.out]
    have hb6 : Below w5.heap.size w5 (w5.alloc (.cells #[.slice (some ⟨p, 0, none⟩) k k] 22)) := (Below.refl _ _).alloc (Nat.le_refl _) _
    have hx6 := bx_keep hx5 hb6
    obtain ⟨j0, j1, j2⟩ := bx_cells3 hx6
    refine bodyPost_ret (v := .agg #[.int .i64 0, .slice (some ⟨l1, 0, none⟩) 1 1, .slice (some ⟨w3.heap.size, 0, none⟩) 1 1]) (by simp [results, Try.results10, go_sem, j0, j1, j2]) rfl ?_
    refine HFIN.out M jj _ _ 1 1 1 1 P _ HM.out HJJ.out HP.out (by rw [HCD.out]; rfl) (by rw [HCD.out]; rfl) (by rw [HCD.out]; exact sl_lit1 (bx_keep ha5 hb6)) ?_ (hb5.trans (hb6.mono hb5.size))
    rw [HCD.out]
    have hbn : (w5.alloc (.cells #[.slice (some ⟨p, 0, none⟩) k k] 22)).heap[w3.heap.size]? = some (.cells #[.slice (some ⟨p, 0, none⟩) k k] 22 (0, 0)) := bx_new _ _ _ hs5.symm
    exact rd_lit1 hbn trivial (hr5.below hb6).any
  · have hd' : (0 : Int) ≤ ps := by omega
    have hpb := hpr.2
    have HPW := Lib.hid hpr
    obtain ⟨ob, HOB⟩ := nameIt w1.heap.size
    have HPO : Hid (pg < ob) := by show _ < _; have := HPV.out.lt; have := HOB.out; omega
    obtain ⟨w2, HW2⟩ := nameIt ((w1.alloc (.cells #[.int .i64 0, .slice none 0 0, .slice none 0 0] 25)).alloc (.map #[] 0))
    have hb2 : Below w1.heap.size w1 w2 := by rw [← HW2.out]; exact ((Below.refl _ _).alloc (Nat.le_refl _) _).alloc (by simp) _
    have hbx2 : w2.heap[ob]? = some (.cells #[.int .i64 0, .slice none 0 0, .slice none 0 0] 25 (0, 0)) := by rw [← HW2.out]; exact bx_keep (bx_new _ _ _ HOB.out.symm) ((Below.refl _ _).alloc (Nat.le_refl _) _)
    have hkm2 : KMap 3 3 (ob + 1) (fun _ => none) 0 w2 := by rw [← HW2.out]; exact KMap.start _ (by simp; exact HOB.out.symm)
    obtain ⟨w3, hup, hkm3, hg3⟩ := hkm2.store intKc Try.underlying48 (by unfold maxLen; omega) (keyIc (v := ps) (by omega)) (velInt (n := 0) (by decide))
    have hb3 : Below w1.heap.size w1 w3 := hb2.grown hg3 hb2.size (fun q e => by cases e; have := HOB.out; omega)
    have hbx3 : w3.heap[ob]? = some (.cells #[.int .i64 0, .slice none 0 0, .slice none 0 0] 25 (0, 0)) := (hg3.block ob (Array.getElem?_eq_some_iff.1 hbx2).1 (by simp)).trans hbx2
    have hml := hkm3.lt
    obtain ⟨s3, HS3⟩ := nameIt w3.heap.size
    have hb34 : Below w3.heap.size w3 (w3.alloc (.cells #[.int .i64 (sn : Int)] 3)) := (Below.refl _ _).alloc (Nat.le_refl _) _
    have e0 : disc x P 0 = [sn] := by show [x.start.toNat] = _; rw [HSN.out, Int.toNat_natCast]
    have HC4 : Hid (CanI x n P w0 pg ob 0 (.slice (some ⟨s3, 0, none⟩) 1 1) (.slice none 0 0) (.slice none 0 0) (w3.alloc (.cells #[.int .i64 (sn : Int)] 3))) := by
      have h1l : w1.heap.size = ob := HOB.out
      have h3l : w3.heap.size = s3 := HS3.out
      have hpo := HPO.out
      refine ⟨⟨(HB1.out.trans (hb3.mono HB1.out.size)).trans (hb34.mono (Nat.le_trans HB1.out.size hb3.size)), ⟨HPG.out, by omega⟩, (HPV.out.keep hb3).keep hb34, ?_, ?_⟩, bx_keep hbx3 hb34, ?_, hpo⟩
      · rw [e0]
        refine (hkm3.keep hb34).eq fun l => ?_
        have h := fC_put (P := P) (S := []) (t := sn) (by simp) l
        rw [fC_nil, HPSN.out] at h
        exact h
      · rw [e0, ← h3l]
        exact World.ownsRow_lit (e := 3) (size := 1) w3 #[.int .i64 (sn : Int)] 1 (by omega) (by decide) (by rfl)
      · have hpx := PX.nil (fun q => (Value.slice (some ⟨s3, 0, none⟩) 1 1).ownBlock = some q) (ob + 1 + 1) (w3.alloc (.cells #[.int .i64 (sn : Int)] 3)) [] 0 (by simp; omega) (fun q e => by
          have e2 : s3 = q := by simpa [Value.ownBlock] using e
          simp; omega)
        exact hpx
    obtain ⟨w4, HW4⟩ := nameIt (w3.alloc (.cells #[.int .i64 (sn : Int)] 3))
    rw [HW4.out] at HC4
    have c3 := hb3.cell (lt_of_cell y0)
    have c3' := c3.trans y0
    have c4 := (hb3.cell (lt_of_cell v0)).trans v0
    have c5 := (hb2.cell (lt_of_cell v0)).trans v0
    have c6 := (hb2.cell (lt_of_cell y0)).trans y0
    clear hb1 hb2 hbx2 hkm2 hkm3 hg3 hb3 hbx3 hb34 e0 c3 hml
    have hup' : (Instr.mapUpdate 48 (.map (some (w1.heap.size + 1))) (.int .i64 ps) (.int .i64 0)).run Try.prog ((w1.alloc (.cells #[.int .i64 0, .slice none 0 0, .slice none 0 0] 25)).alloc (.map #[] 0)) = .ok () w3 := by rw [HW2.out, HOB.out]; exact hup
    have hl1 := lt_of_cell y0
    have hl2 := lt_of_cell v0
    clear hup c5 c6
    go_upto_region 8 with fail
    rw [HS3.out, HW4.out, HOB.out]
    clear hup' hl1 hl2 c3' c4
    go_wp2_with fail
    have HDO : Hid (∀ i, DiscOk x P n (disc x P i)) := disc_ok (fun q hq => (HPR.out q hq).2) ⟨fun s' hs' => by
      rw [HSN.out, Int.toNat_natCast] at hs'
      simp at hs'
      subst hs'
      rw [HPSN.out]; exact ⟨hsl, hd', hpb⟩, by simp⟩ (fun s' t' ht' => by
      rw [List.getD_eq_getElem?_getD] at ht'
      by_cases hl : s' < x.next.length
      · rw [List.getElem?_eq_getElem hl] at ht'
        have := (HXX.out.next _ (List.getElem_mem hl) t' ht').2
        rw [HNN.out] at this; exact this
      · rw [List.getElem?_eq_none (by omega)] at ht'; simp at ht')
    go_loopg [7, 8, 9, 10, 11, 12, 13] n (fun gg v7 v8 v9 v10 v11 v12 v13 wr => ∃ (i sg cp L : Nat) (vR vA : Value), i ≤ L ∧ i ≤ n ∧ n - i ≤ gg ∧ v8 = .int .i64 i ∧ v7 = .slice (some ⟨sg, 0, none⟩) L cp ∧ Hid ((disc x P i).length = L) ∧ Hid (∀ q, q < i → q < (disc x P q).length) ∧ Hid (CanI x n P w0 pg ob i v7 vR vA wr))
    case atStart => exact ⟨0, s3, 1, 1, _, _, by omega, by omega, by omega, rfl, rfl, rfl, fun q h => by omega, HC4⟩
    case round =>
      clear HC4 v0 y0 y1 y2 c1
      obtain ⟨i, sg, cp, L, vR, vA, hiL, hin, hg, rfl, rfl, HL, HAL, HC⟩ := hrel
      obtain ⟨wo, rfl⟩ : ∃ ww : World, ww = wr := ⟨_, rfl⟩
      by_cases hlt : i < L
      · have hlt' : (i : Int) < (L : Int) := by omega
        have hi0 : (0 : Int) ≤ (i : Int) := by omega
        have hil : i < (disc x P i).length := by rw [HL.out]; exact hlt
        have hs := List.getElem?_eq_getElem hil
        obtain ⟨s, HS⟩ := nameIt ((disc x P i)[i]'hil)
        rw [HS.out] at hs
        obtain ⟨hsn, hs1, hs2⟩ := (HDO.out i).lt s (by rw [← HS.out]; exact List.getElem_mem hil)
        have hsnI : (s : Int) < (n : Int) := by omega
        have hsz0 : (0 : Int) ≤ (s : Int) := by omega
        have hsx : s < x.next.length := by rw [HNN.out]; exact hsn
        have hgd : x.next.getD s [] = x.next[s] := by rw [List.getD_eq_getElem?_getD, List.getElem?_eq_getElem hsx]; rfl
        obtain ⟨b', o', vr', hae', d0, hrw⟩ := Rd.rowI_at HN0.out hsx
        cases hae'
        have hrl := HXX.out.rows _ (List.getElem_mem hsx)
        have HTR := Lib.hid (fun c (h : c < x.next[s].length) => HXX.out.next _ (List.getElem_mem hsx) _ (List.getElem_mem h))
        obtain ⟨r, HR⟩ := nameIt x.next[s]
        simp only [HR.out] at hgd d0 hrw hrl HTR
        obtain ⟨ai, ki, rfl⟩ := hrw.form
        rw [HWK.out] at hrl
        rw [ints_len, hrl] at d0 hrw
        have hcs : wo.cell? ⟨sg, i, none⟩ = some (.int .i64 (s : Int)) := by
          obtain ⟨bb, oo, e1, e2⟩ := (sl_of_own HC.out.cn.st).at (k := i) hlt
          cases e1
          have h1 := e2 i (by rw [ints_len, nats_len]; exact hil)
          rw [ints_get] at h1
          simp only [nats, List.getElem_map] at h1
          rw [HS.out, Nat.zero_add] at h1
          exact h1
        have hbel := HC.out.cn.bel
        have d1 := (hbel.cell (lt_of_cell d0)).trans d0
        obtain ⟨z0, z1, z2⟩ := bx_cells3 (bx_keep HX0.out hbel)
        obtain ⟨g9, HG9⟩ := nameIt wo.heap.size
        have HR0 := Lib.hid (HC.out.begin HG9.out.symm k r)
        obtain ⟨wA, HWA⟩ := nameIt (wo.alloc (.cells (madeCells #[.int .i64 0] k) 3))
        have hbA : Below wo.heap.size wo wA := by rw [← HWA.out]; exact (Below.refl _ _).alloc (Nat.le_refl _) _
        rw [HWA.out] at HR0
        have d2 := (hbA.cell (lt_of_cell d1)).trans d1
        have cs2 := (hbA.cell (lt_of_cell hcs)).trans hcs
        have y2 := (hbA.cell (lt_of_cell z2)).trans z2
        have HDR := Lib.hid hrw
        have HGD := Lib.hid hgd
        have HSI := Lib.hid hs
        have HRL := Lib.hid hrl
        have HDT := Lib.hid (fun c => foldS_ok (x := x) (n := n) (P := P) (fun q hq => (HPR.out q hq).2) (r.take c) (disc x P i) (fun t' ht' => by
          have h1 := List.mem_of_mem_take ht'
          obtain ⟨q, hq, e⟩ := List.getElem_of_mem h1
          have := (HTR.out q hq).2
          rw [e, HNN.out] at this; exact this) (HDO.out i))
        have HPF := Lib.hid (fun c => foldS_prefix P (r.take c) (disc x P i))
        have HRWL : Hid ((rowsC x P i).length = i) := by show _ = _; unfold rowsC; rw [List.length_map, List.length_take]; omega
        have HACL : Hid ((accsC x P i).length = i) := by show _ = _; unfold accsC; rw [List.length_map, List.length_take]; omega
        obtain ⟨S0, HS0⟩ := nameIt (disc x P i)
        simp only [HS0.out] at HDT HPF HSI
        obtain ⟨LR, HLR⟩ := nameIt (rowsC x P i)
        obtain ⟨LA, HLA⟩ := nameIt (accsC x P i)
        rw [HS0.out, HLR.out, HLA.out] at HR0
        rw [HS0.out] at HL
        clear hs hbel hbA d0 d1 hcs z0 z1 z2 hrw hgd hrl
        go_upto_region 12 with fail
        rw [HWA.out, HG9.out]
        go_quiet (fail)
        have HR1 := Lib.hid (RwM.keep HR0.out (below_drewN wA nq))
        go_wp2_with fail
        clear HR0
        go_loopg [7, 10, 11, 12, 13, 60] k (fun gg u7 u10 u11 u12 u13 u60 wr => ∃ (c sg cp L : Nat), c ≤ k ∧ k - c ≤ gg ∧ u60 = .int .i64 c ∧ u7 = .slice (some ⟨sg, 0, none⟩) L cp ∧ Hid ((sT P r S0 c).length = L) ∧ Hid (RwI n P w0 pg ob g9 k r S0 LR LA vR vA c u7 wr))
        case atStart => exact ⟨0, sg, cp, L, by omega, by omega, rfl, rfl, HL, HR1⟩
        case round =>
          clear HR1 d2 cs2 y2
          obtain ⟨c, sg, cp, L, hc, hgg, rfl, rfl, HL, HRI⟩ := hrel
          obtain ⟨w5, rfl⟩ : ∃ ww : World, ww = wr := ⟨_, rfl⟩
          by_cases hck : c < k
          · have hck' : (c : Int) < (k : Int) := by omega
            have hc0 : (0 : Int) ≤ (c : Int) := by omega
            have hcr : c < r.length := by rw [HRL.out]; exact hck
            obtain ⟨b6, o6, hae6, hca⟩ := (HDR.out.keep HRI.out.cn.bel).at hck
            have t0 := hca c (by rw [ints_len]; exact hcr)
            rw [ints_get] at t0
            have htr := HTR.out c hcr
            have hgr : r.getD c 0 = r[c] := by rw [List.getD_eq_getElem?_getD, List.getElem?_eq_getElem hcr]; rfl
            have hnx := sT_next (P := P) (S0 := S0) hcr
            obtain ⟨q0, qf⟩ := HRI.out.at hck
            have HM := Lib.hid (HRI.out.store hck (-1))
            obtain ⟨t, HT⟩ := nameIt (r[c]'hcr)
            rw [HT.out] at t0 htr hgr hnx
            rw [HNN.out] at htr
            have HNX := Lib.hid hnx
            have HGR := Lib.hid hgr
            subst hae6
            have hg9l := HM.out.cn.lo
            obtain ⟨w6, HW6⟩ := nameIt (w5.setCell ⟨g9, c, none⟩ (.int .i64 (-1)))
            rw [HW6.out] at HM
            have HDD : Hid (deadP P t → RwI n P w0 pg ob g9 k r S0 LR LA vR vA (c + 1) (.slice (some ⟨sg, 0, none⟩) L cp) w6) := fun hdd =>
              HM.out.fin hck HRL.out (by rw [HNX.out]; unfold stepS; rw [if_pos (.inl hdd)]) (by rw [HGR.out]; unfold valS; rw [if_pos hdd])
            have HLD : Hid (deadP P t → (sT P r S0 (c + 1)).length = L) := fun hdd => by rw [HNX.out]; unfold stepS; rw [if_pos (.inl hdd)]; exact HL.out
            clear hca hgr hnx
            go_upto_region 16 with fail
            rw [HW6.out]
            clear t0 q0 qf
            by_cases ht0 : t < 0
            · have HR7 := Lib.hid (HDD.out (.inl ht0))
              have HL7 := Lib.hid (HLD.out (.inl ht0))
              have htd : decide (t < 0) = true := decide_eq_true ht0
              clear htr
              go_wp2_with fail
              go_roundg (k - (c + 1))
              case measure => omega
              case rel => exact ⟨c + 1, sg, cp, L, by omega, by omega, by go_num, rfl, HL7, HR7⟩
            · obtain ⟨tn, htn⟩ : ∃ tn : Nat, t = (tn : Int) := ⟨t.toNat, by omega⟩
              subst htn
              have htl : tn < n := by omega
              have htI : (tn : Int) < (n : Int) := by omega
              have htp : (0 : Int) ≤ (tn : Int) := by omega
              have htd : decide ((tn : Int) < 0) = false := decide_eq_false ht0
              have p0 := HM.out.cn.prt.cell htl
              have hpt := HPR.out tn htl
              obtain ⟨pt, HPT⟩ := nameIt (P tn)
              rw [HPT.out] at p0 hpt
              clear ht0 htr
              by_cases hp0 : pt < 0
              · have hdd : deadP P (tn : Int) := .inr (by rw [Int.toNat_natCast, HPT.out]; exact hp0)
                have HR7 := Lib.hid (HDD.out hdd)
                have HL7 := Lib.hid (HLD.out hdd)
                have hpd : decide (pt < 0) = true := decide_eq_true hp0
                clear hdd
                go_wp2_with fail
                go_roundg (k - (c + 1))
                case measure => omega
                case rel => exact ⟨c + 1, sg, cp, L, by omega, by omega, by go_num, rfl, HL7, HR7⟩
              · have hpd : decide (pt < 0) = false := decide_eq_false hp0
                have hpt0 : 0 ≤ pt ∧ pt ≤ 1000 := by omega
                have hnd : ¬ deadP P (tn : Int) := by unfold deadP; rw [Int.toNat_natCast, HPT.out]; omega
                have hkey := keyIc hpt0
                have hlook := HM.out.cn.kmp.look intKc Try.underlying48 hkey
                obtain ⟨q0, qf⟩ := HM.out.at hck
                have HND := Lib.hid hnd
                by_cases hin : P tn ∈ (sT P r S0 c).map P
                · have e1 := (hlook.1 (((sT P r S0 c).map P).idxOf (P tn) : Int) (by simp only [FC]; rw [← HPT.out, if_pos hin])).1
                  have hst : sT P r S0 c = sT P r S0 (c + 1) := by rw [HNX.out]; unfold stepS; rw [if_pos (.inr (by rw [Int.toNat_natCast]; exact hin))]
                  have HR7 := Lib.hid ((HM.out.store hck (((sT P r S0 c).map P).idxOf (P tn) : Int)).fin hck HRL.out hst (by rw [HGR.out]; unfold valS; rw [if_neg HND.out, Int.toNat_natCast]))
                  have HL7 : Hid ((sT P r S0 (c + 1)).length = L) := by rw [← hst]; exact HL
                  obtain ⟨z, HZ⟩ := nameIt (((sT P r S0 c).map P).idxOf (P tn) : Int)
                  rw [HZ.out] at e1 HR7
                  clear hst hlook hkey hin hp0 hnd
                  go_wp2_with fail
                  go_roundg (k - (c + 1))
                  case measure => omega
                  case rel => exact ⟨c + 1, sg, cp, L, by omega, by omega, by go_num, rfl, HL7, HR7⟩
                · have e1 := hlook.2 (by simp only [FC]; rw [← HPT.out, if_neg hin])
                  have hst : sT P r S0 c ++ [tn] = sT P r S0 (c + 1) := by rw [HNX.out]; unfold stepS; rw [if_neg (fun h => h.elim HND.out (fun h => hin (by rw [Int.toNat_natCast] at h; exact h))), Int.toNat_natCast]
                  have hll : L + 1 ≤ n := by have h := (HDT.out (c + 1)).len; rw [show List.foldl (stepS P) S0 (r.take (c + 1)) = sT P r S0 (c + 1) from rfl, ← hst, List.length_append, HL.out] at h; exact h
                  obtain ⟨w7, hup, hk7, hg7⟩ := HM.out.cn.kmp.store intKc Try.underlying48 (by rw [HL.out]; unfold maxLen; omega) hkey (velInt (n := (L : Int)) (by simp [Lit.wf, IntKind.min, IntKind.max, IntKind.signed, IntKind.bits]; omega))
                  have HK7 : Hid (KMap 3 3 (ob + 1) (put (FC P (sT P r S0 c)) (.int .i64 (P tn)) (.int .i64 ((sT P r S0 c).length : Int))) ((sT P r S0 c).length + 1) w7) := by
                    rw [show (FC P (sT P r S0 c) (Lit.int .i64 pt)).isSome = false by simp only [FC]; rw [← HPT.out, if_neg hin]; rfl] at hk7
                    rw [HPT.out, HL.out]; rw [HL.out] at hk7; exact hk7
                  have HG7 := Lib.hid hg7
                  have HOW : Hid (w7.ownsRow (ob + 1 + 1) 3 1 (.slice (some ⟨sg, 0, none⟩) L cp) L (ints (nats (sT P r S0 c)))) := by
                    have h := HM.out.cn.st
                    rw [HL.out] at h
                    have h2 := h.lt
                    exact own_blk h fun g e => hg7.block g (h2 g e).2 (fun e2 => by have := (h2 g e).1; cases e2; omega)
                  have HSZ7 : Hid (ob + 1 + 1 ≤ w7.heap.size) := by
                    show _ ≤ _
                    have h2 := (HOW.out.lt sg rfl)
                    omega
                  have HIN := Lib.hid hin
                  have HST := Lib.hid hst
                  clear hst hlook hkey hin hp0 hnd hk7 hg7
                  go_wp2_with (at_builtin; refine wp_app1at elInt rfl _ _ rfl HOW.out rfl rfl (by simp) rfl rfl (by omega) (by unfold maxLen; omega) HSZ7.out ?_)
                  intro v' w8 ho hg8 hat
                  have hM8 := HM.out.add HIN.out HK7.out HG7.out (by rw [HL.out]; exact ho) hg8 hat
                  obtain ⟨g8, k8, rfl, -, -, -, -, -⟩ := own_at ho hat
                  obtain ⟨q0, qf⟩ := hM8.at hck
                  have HR9 := Lib.hid ((hM8.store hck (L : Int)).fin hck HRL.out HST.out (by
                    rw [HGR.out]; unfold valS; rw [if_neg HND.out, Int.toNat_natCast, List.map_append, List.idxOf_append, if_neg HIN.out]
                    simp [HL.out]))
                  have HL9 : Hid ((sT P r S0 (c + 1)).length = L + 1) := by rw [← HST.out, List.length_append, HL.out]; rfl
                  clear ho hg8 hat hM8 e1 hup
                  go_wp2_with fail
                  go_roundg (k - (c + 1))
                  case measure => omega
                  case rel => exact ⟨c + 1, _, _, _, by omega, by omega, by go_num, rfl, HL9, HR9⟩
          · obtain rfl : k = c := by omega
            have hck' : ¬ (k : Int) < (k : Int) := by omega
            have hsac : s < x.acc.length := by have h := HXX.out.accs; rw [HNN.out] at h; rw [h]; exact hsn
            have hil2 : i < (sT P r S0 k).length := Nat.lt_of_lt_of_le (by rw [← HS0.out]; exact hil) (HPF.out k).length_le
            have hin2 : i < n := Nat.lt_of_lt_of_le hil (HDO.out i).len
            have hiL2 : i < L := by rw [← HL.out]; exact hil2
            have hiI : (i : Int) < (L : Int) := by omega
            obtain ⟨ba, oa, hae2, hca⟩ := (HA0.out.keep HRI.out.cn.bel).at (k := s) hsn
            have cA := hca s (by rw [ints_len]; exact hsac)
            rw [ints_get] at cA
            have hgA : x.acc.getD s 0 = x.acc[s] := by rw [List.getD_eq_getElem?_getD, List.getElem?_eq_getElem hsac]; rfl
            obtain ⟨m, HMN⟩ := nameIt (x.acc[s]'hsac)
            rw [HMN.out] at cA hgA
            have cS : w5.cell? ⟨sg, i, none⟩ = some (.int .i64 (s : Int)) := by
              obtain ⟨bb, oo, e1, e2⟩ := (sl_of_own HRI.out.cn.st).at (k := i) hiL2
              cases e1
              have h1 := e2 i (by rw [ints_len, nats_len]; exact hil2)
              have h3 := get_prefix (HPF.out k) HSI.out
              obtain ⟨h4, h5⟩ := List.getElem?_eq_some_iff.1 h3
              rw [ints_get] at h1
              simp only [nats, List.getElem_map] at h1
              rw [show (sT P r S0 k)[i]'hil2 = s from h5, Nat.zero_add] at h1
              exact h1
            have hwhole := HRI.out.whole HRL.out (by unfold maxLen; omega) m
            have hxb := bx_keep HX0.out HRI.out.cn.bel
            have hbx := HRI.out.bx
            have hml := HRI.out.cn.kmp.lt
            obtain ⟨xs0, ow1, -⟩ := hwhole.rows
            obtain ⟨aR, cR, rfl, -, -⟩ := own_len ow1
            obtain ⟨aA, cA', rfl, -, -⟩ := own_len hwhole.acc
            rw [← HLR.out, HRWL.out, ← HLA.out, HACL.out] at hbx
            have HLRI : Hid (LR.length = i) := by show _ = _; rw [← HLR.out]; exact HRWL.out
            have HLAI : Hid (LA.length = i) := by show _ = _; rw [← HLA.out]; exact HACL.out
            have hPI := hwhole
            rw [HLRI.out, HLAI.out] at hPI
            obtain ⟨NR, HNR⟩ := nameIt (r.map (valS P (sT P r S0 k)))
            rw [HNR.out] at hPI
            have HPI := Lib.hid hPI
            have HBX := Lib.hid hbx
            have hblt := lt_of_cell (bx_cells3 hbx).1
            have HNEXT : Hid (∀ (W : World) (vR' vA' : Value), PX (fun q => (Value.slice (some ⟨sg, 0, none⟩) L cp).ownBlock = some q) (ob + 1 + 1) w5 NR m (LR ++ [NR]) (LA ++ [m]) vR' vA' none none none W → CanI x n P w0 pg ob (i + 1) (.slice (some ⟨sg, 0, none⟩) L cp) vR' vA' ((W.setCell ⟨ob, 2, none⟩ vR').setCell ⟨ob, 1, none⟩ vA')) := by
              intro W vR' vA' hp
              have h := HRI.out
              rw [← HS0.out, ← HLR.out, ← HLA.out] at h
              refine CanI.next h (s := s) (by rw [HS0.out]; exact HSI.out) HGD.out HRL.out HAL.out (r' := NR) (m := m) ?_
              rw [HS0.out, HLR.out, HLA.out, HNR.out, hgA]
              exact hp
            have HDN : Hid ((disc x P (i + 1)).length = L) := by
              show _ = _
              rw [← HL.out]
              show (match (disc x P i)[i]? with | none => disc x P i | some s => (x.next.getD s []).foldl (stepS P) (disc x P i)).length = _
              rw [HS0.out, HSI.out]
              show (List.foldl (stepS P) S0 (x.next.getD s [])).length = _
              rw [HGD.out]
              unfold sT
              rw [← HRL.out, List.take_length]
            have HAL2 : Hid (∀ q, q < i + 1 → q < (disc x P q).length) := fun q hq => by
              by_cases e : q = i
              · rw [e]; exact hil
              · exact HAL.out q (by omega)
            have HS2 : Hid (∀ W, Below (ob + 1 + 1) w5 W → W.heap[sg]? = w5.heap[sg]? → (fun w' => w'.cell? ⟨ob, 0 + 2, none⟩ = some (.slice aR i cR) ∧ w'.cell? ⟨ob, 0 + 1, none⟩ = some (.slice aA i cA') ∧ w'.cell? ⟨w.heap.size, 0 + 1, none⟩ = some (.slice (some ⟨ba, oa, none⟩) n ca) ∧ w'.cell? ⟨ba, oa + s, none⟩ = some (.int .i64 m) ∧ w'.cell? ⟨sg, i, none⟩ = some (.int .i64 (s : Int))) W) := by
              intro W hb hsgb
              have h0 := HRI.out.cn.lo
              have hws : w.heap.size < w0.heap.size := lt_of_cell (bx_cells3 HX0.out).1
              have hbs : ba < ob + 1 + 1 := by
                obtain ⟨ba', oa', e, h⟩ := HA0.out.at (k := s) hsn
                have := lt_of_cell (h s (by rw [ints_len]; exact hsac))
                rw [hae2] at e; cases e
                have h9 : ba < w0.heap.size := this
                omega
              have e3 := (hb.block ob (by omega)).trans HBX.out
              have e1 := (hb.block w.heap.size (by omega)).trans hxb
              obtain ⟨y0, y1, y2⟩ := bx_cells3 e3
              obtain ⟨z0, z1, z2⟩ := bx_cells3 e1
              rw [hae2] at z1
              exact ⟨y2, y1, z1, (hb.cell (p := ⟨ba, oa + s, none⟩) hbs).trans cA, cellBlk hsgb cS⟩
            subst hae2
            have HHR := HPI
            have hsz3 : ob + 1 + 1 ≤ w5.heap.size := hwhole.le
            clear hwhole hPI hbx hxb hca cA cS ow1 hgA hml hblt
            go_upto_region 24 with fail
            refine wp_region_U (S := (fun w' => w'.cell? ⟨ob, 0 + 2, none⟩ = some (.slice aR i cR) ∧ w'.cell? ⟨ob, 0 + 1, none⟩ = some (.slice aA i cA') ∧ w'.cell? ⟨w.heap.size, 0 + 1, none⟩ = some (.slice (some ⟨ba, oa, none⟩) n ca) ∧ w'.cell? ⟨ba, oa + s, none⟩ = some (.int .i64 m) ∧ w'.cell? ⟨sg, i, none⟩ = some (.int .i64 (s : Int)))) 18 (by kernel_rfl) (fun inv => ?_)
            refine wpU_take (i := 0) (v := .pointer (some ⟨ob, 0 + 2, none⟩)) rfl inv (by kernel_rfl) (by kernel_rfl) (by decide) (by decide) (by kernel_rfl) (by kernel_rfl) (by kernel_rfl) (fun _ _ _ h => h) (Or.inl ⟨by rfl, fun w' hw' => ?_⟩) (HS2.out _ (Below.refl _ _).drew rfl) (fun inv => ?_)
            · obtain ⟨h0, h1, h2, h3, h4⟩ := hw'
              go_simp
            try simp only [Act.put, List.setIfInBounds_toArray, List.set_cons_zero, List.set_cons_succ]
            refine wpU_take (i := 1) (v := .slice aR i cR) rfl inv (by kernel_rfl) (by kernel_rfl) (by decide) (by decide) (by kernel_rfl) (by kernel_rfl) (by kernel_rfl) (fun _ _ _ h => h) (Or.inl ⟨by rfl, fun w' hw' => ?_⟩) (HS2.out _ (Below.refl _ _).drew rfl) (fun inv => ?_)
            · obtain ⟨h0, h1, h2, h3, h4⟩ := hw'
              go_simp
            try simp only [Act.put, List.setIfInBounds_toArray, List.set_cons_zero, List.set_cons_succ]
            refine wpU_take (i := 2) (v := .slice (some ⟨g9, 0, none⟩) k k) rfl inv (by kernel_rfl) (by kernel_rfl) (by decide) (by decide) (by kernel_rfl) (by kernel_rfl) (by kernel_rfl) (fun _ _ _ h => h) (Or.inl ⟨by rfl, fun w' hw' => ?_⟩) (HS2.out _ (Below.refl _ _).drew rfl) (fun inv => ?_)
            · obtain ⟨h0, h1, h2, h3, h4⟩ := hw'
              go_simp
            try simp only [Act.put, List.setIfInBounds_toArray, List.set_cons_zero, List.set_cons_succ]
            refine wpU_take (i := 5) (v := .pointer (some ⟨ob, 0 + 1, none⟩)) rfl inv (by kernel_rfl) (by kernel_rfl) (by decide) (by decide) (by kernel_rfl) (by kernel_rfl) (by kernel_rfl) (fun _ _ _ h => h) (Or.inl ⟨by rfl, fun w' hw' => ?_⟩) (HS2.out _ (Below.refl _ _).drew rfl) (fun inv => ?_)
            · obtain ⟨h0, h1, h2, h3, h4⟩ := hw'
              go_simp
            try simp only [Act.put, List.setIfInBounds_toArray, List.set_cons_zero, List.set_cons_succ]
            refine wpU_take (i := 6) (v := .slice aA i cA') rfl inv (by kernel_rfl) (by kernel_rfl) (by decide) (by decide) (by kernel_rfl) (by kernel_rfl) (by kernel_rfl) (fun _ _ _ h => h) (Or.inl ⟨by rfl, fun w' hw' => ?_⟩) (HS2.out _ (Below.refl _ _).drew rfl) (fun inv => ?_)
            · obtain ⟨h0, h1, h2, h3, h4⟩ := hw'
              go_simp
            try simp only [Act.put, List.setIfInBounds_toArray, List.set_cons_zero, List.set_cons_succ]
            refine wpU_take (i := 7) (v := .pointer (some ⟨w.heap.size, 0 + 1, none⟩)) rfl inv (by kernel_rfl) (by kernel_rfl) (by decide) (by decide) (by kernel_rfl) (by kernel_rfl) (by kernel_rfl) (fun _ _ _ h => h) (Or.inl ⟨by rfl, fun w' hw' => ?_⟩) (HS2.out _ (Below.refl _ _).drew rfl) (fun inv => ?_)
            · obtain ⟨h0, h1, h2, h3, h4⟩ := hw'
              go_simp
            try simp only [Act.put, List.setIfInBounds_toArray, List.set_cons_zero, List.set_cons_succ]
            refine wpU_take (i := 8) (v := .slice (some ⟨ba, oa, none⟩) n ca) rfl inv (by kernel_rfl) (by kernel_rfl) (by decide) (by decide) (by kernel_rfl) (by kernel_rfl) (by kernel_rfl) (fun _ _ _ h => h) (Or.inl ⟨by rfl, fun w' hw' => ?_⟩) (HS2.out _ (Below.refl _ _).drew rfl) (fun inv => ?_)
            · obtain ⟨h0, h1, h2, h3, h4⟩ := hw'
              go_simp
            try simp only [Act.put, List.setIfInBounds_toArray, List.set_cons_zero, List.set_cons_succ]
            refine wpU_take (i := 9) (v := .slice (some ⟨sg, 0, none⟩) L cp) rfl inv (by kernel_rfl) (by kernel_rfl) (by decide) (by decide) (by kernel_rfl) (by kernel_rfl) (by kernel_rfl) (fun _ _ _ h => h) (Or.inl ⟨by rfl, fun w' hw' => ?_⟩) (HS2.out _ (Below.refl _ _).drew rfl) (fun inv => ?_)
            · obtain ⟨h0, h1, h2, h3, h4⟩ := hw'
              go_simp
            try simp only [Act.put, List.setIfInBounds_toArray, List.set_cons_zero, List.set_cons_succ]
            refine wpU_take (i := 10) (v := .int .i64 (i : Int)) rfl inv (by kernel_rfl) (by kernel_rfl) (by decide) (by decide) (by kernel_rfl) (by kernel_rfl) (by kernel_rfl) (fun _ _ _ h => h) (Or.inl ⟨by rfl, fun w' hw' => ?_⟩) (HS2.out _ (Below.refl _ _).drew rfl) (fun inv => ?_)
            · obtain ⟨h0, h1, h2, h3, h4⟩ := hw'
              go_simp
            try simp only [Act.put, List.setIfInBounds_toArray, List.set_cons_zero, List.set_cons_succ]
            refine wpU_take (i := 11) (v := .pointer (some ⟨sg, i, none⟩)) rfl inv (by kernel_rfl) (by kernel_rfl) (by decide) (by decide) (by kernel_rfl) (by kernel_rfl) (by kernel_rfl) (fun _ _ _ h => h) (Or.inl ⟨by rfl, fun w' hw' => ?_⟩) (HS2.out _ (Below.refl _ _).drew rfl) (fun inv => ?_)
            · obtain ⟨h0, h1, h2, h3, h4⟩ := hw'
              go_simp
            try simp only [Act.put, List.setIfInBounds_toArray, List.set_cons_zero, List.set_cons_succ]
            refine wpU_take (i := 12) (v := .int .i64 (s : Int)) rfl inv (by kernel_rfl) (by kernel_rfl) (by decide) (by decide) (by kernel_rfl) (by kernel_rfl) (by kernel_rfl) (fun _ _ _ h => h) (Or.inl ⟨by rfl, fun w' hw' => ?_⟩) (HS2.out _ (Below.refl _ _).drew rfl) (fun inv => ?_)
            · obtain ⟨h0, h1, h2, h3, h4⟩ := hw'
              go_simp
            try simp only [Act.put, List.setIfInBounds_toArray, List.set_cons_zero, List.set_cons_succ]
            refine wpU_take (i := 13) (v := .pointer (some ⟨ba, oa + s, none⟩)) rfl inv (by kernel_rfl) (by kernel_rfl) (by decide) (by decide) (by kernel_rfl) (by kernel_rfl) (by kernel_rfl) (fun _ _ _ h => h) (Or.inl ⟨by rfl, fun w' hw' => ?_⟩) (HS2.out _ (Below.refl _ _).drew rfl) (fun inv => ?_)
            · obtain ⟨h0, h1, h2, h3, h4⟩ := hw'
              go_simp
            try simp only [Act.put, List.setIfInBounds_toArray, List.set_cons_zero, List.set_cons_succ]
            refine wpU_take (i := 14) (v := .int .i64 m) rfl inv (by kernel_rfl) (by kernel_rfl) (by decide) (by decide) (by kernel_rfl) (by kernel_rfl) (by kernel_rfl) (fun _ _ _ h => h) (Or.inl ⟨by rfl, fun w' hw' => ?_⟩) (HS2.out _ (Below.refl _ _).drew rfl) (fun inv => ?_)
            · obtain ⟨h0, h1, h2, h3, h4⟩ := hw'
              go_simp
            try simp only [Act.put, List.setIfInBounds_toArray, List.set_cons_zero, List.set_cons_succ]
            have HP0 : Hid (PX (fun q => (Value.slice (some ⟨sg, 0, none⟩) L cp).ownBlock = some q) (ob + 1 + 1) w5 NR m LR LA (.slice aR i cR) (.slice aA i cA') (some (.slice (some ⟨g9, 0, none⟩) k k)) none none w5.drew) := HPI.out.keep (Below.refl _ _).drew
            refine wpU_two (i := 3) (j := 15) (by kernel_rfl) rfl rfl (fun K hK => ?_) (fun K hK => ?_)
            · replace inv := inv_setQ (i := 3) inv (by kernel_rfl) (by decide)
              go_simp
              have HP11 := Lib.hid ((HPI.out.bltB (g := w5.heap.size) rfl).keep (Below.refl _ _).drew)
              obtain ⟨w11, HW11⟩ := nameIt (w5.alloc (.cells #[.slice (some ⟨g9, 0, none⟩) k k] 22)).drew
              rw [HW11.out] at HP11 ⊢
              refine hK.out _ _ (fun _ => HS2.out _ HP11.out.bel (HP11.out.px sg rfl).2) ?_
              clear hK K
              try simp only [Act.put, List.setIfInBounds_toArray, List.set_cons_zero, List.set_cons_succ]
              refine wpU_two (i := 4) (j := 15) (by kernel_rfl) rfl rfl (fun K hK => ?_) (fun K hK => ?_)
              · replace inv := inv_setQ (i := 4) inv (by kernel_rfl) (by decide)
                obtain ⟨xs12, hx12, hy12⟩ := HP11.out.rows
                obtain ⟨hT12, v12, hv12, hbx12⟩ := HP11.out.bB _ rfl
                cases hv12
                rw [HLRI.out] at hx12
                refine step_appB elIntsP (by rfl) _ _ (by rfl) hx12 (by rfl) (by rfl) hbx12 (by rfl) (by rfl) (by omega) (by unfold maxLen; omega) HP11.out.size ?_
                intro g12 c12 w12 ho12 hg12 hat12 hlt12
                have HP12 := Lib.hid (HP11.out.appR (N := LR ++ [NR]) hy12 (by rw [HLRI.out]; exact ho12) hg12 (at_lies hat12) rfl)
                clear hx12 hy12 hT12 hbx12 ho12 hg12 hat12 hlt12
                refine hK.out _ _ (fun _ => HS2.out _ HP12.out.bel (HP12.out.px sg rfl).2) ?_
                clear hK K
                try simp only [Act.put, List.setIfInBounds_toArray, List.set_cons_zero, List.set_cons_succ]
                refine wpU_take (i := 17) (v := .pointer (some ⟨ob, 0 + 2, none⟩)) rfl inv (by kernel_rfl) (by kernel_rfl) (by decide) (by decide) (by kernel_rfl) (by kernel_rfl) (by kernel_rfl) (fun _ _ _ h => h) (Or.inl ⟨by rfl, fun w' hw' => ?_⟩) (HS2.out _ HP12.out.bel (HP12.out.px sg rfl).2) (fun inv => ?_)
                · obtain ⟨h0, h1, h2, h3, h4⟩ := hw'
                  go_simp
                try simp only [Act.put, List.setIfInBounds_toArray, List.set_cons_zero, List.set_cons_succ]
                refine wpU_one (i := 15) (by kernel_rfl) rfl (fun K hK => ?_)
                replace inv := inv_setQ (i := 15) inv (by kernel_rfl) (by decide)
                go_simp
                have HP13 := Lib.hid (HP12.out.bltA (g := w12.heap.size) rfl)
                obtain ⟨w13, HW13⟩ := nameIt (w12.alloc (.cells #[.int .i64 m] 3))
                rw [HW13.out] at HP13 ⊢
                refine hK.out _ _ (fun _ => HS2.out _ HP13.out.bel (HP13.out.px sg rfl).2) ?_
                clear hK K
                try simp only [Act.put, List.setIfInBounds_toArray, List.set_cons_zero, List.set_cons_succ]
                refine wpU_one (i := 16) (by kernel_rfl) rfl (fun K hK => ?_)
                replace inv := inv_setQ (i := 16) inv (by kernel_rfl) (by decide)
                have hx14 := HP13.out.acc
                obtain ⟨hT14, hbx14⟩ := HP13.out.bA _ rfl
                rw [HLAI.out] at hx14
                refine step_appB elInt (by rfl) _ _ (by rfl) hx14 (by rfl) (by rfl) hbx14 (by rfl) (by rfl) (by omega) (by unfold maxLen; omega) HP13.out.size ?_
                intro g14 c14 w14 ho14 hg14 hat14 hlt14
                have HP14 := Lib.hid (HP13.out.appA (N := LA ++ [m]) (by rw [HLAI.out]; exact ho14) hg14 (at_lies hat14) rfl)
                clear hx14 hT14 hbx14 ho14 hg14 hat14 hlt14
                refine hK.out _ _ (fun _ => HS2.out _ HP14.out.bel (HP14.out.px sg rfl).2) ?_
                clear hK K
                try simp only [Act.put, List.setIfInBounds_toArray, List.set_cons_zero, List.set_cons_succ]
                have HNX := Lib.hid (HNEXT.out _ _ _ HP14.out)
                have Z3 := (HP14.out.bel.block ob (by omega)).trans HBX.out
                obtain ⟨y0, y1, y2⟩ := bx_cells3 Z3
                obtain ⟨f0, f1, f2⟩ := bx_free3 Z3
                clear Z3
                refine wpU_one (i := 18) (by kernel_rfl) rfl (fun K hK => ?_)
                go_simp
                refine hK.out _ _ (fun h => absurd (show true = false from h) (by decide)) ?_
                clear hK K
                try simp only [Act.put, List.setIfInBounds_toArray, List.set_cons_zero, List.set_cons_succ]
                refine wpU_one (i := 19) (by kernel_rfl) rfl (fun K hK => ?_)
                go_simp
                refine hK.out _ _ (fun h => absurd (show true = false from h) (by decide)) ?_
                clear hK K
                try simp only [Act.put, List.setIfInBounds_toArray, List.set_cons_zero, List.set_cons_succ]
                refine wpU_one (i := 20) (by kernel_rfl) rfl (fun K hK => ?_)
                go_simp
                refine hK.out _ _ (fun h => absurd (show true = false from h) (by decide)) ?_
                clear hK K
                try simp only [Act.put, List.setIfInBounds_toArray, List.set_cons_zero, List.set_cons_succ]
                refine wpU_done (by kernel_rfl) ?_ _
                go_wp2_with fail
                go_roundg (n - (i + 1))
                case measure => omega
                case rel => exact ⟨i + 1, sg, cp, L, _, _, by omega, by omega, by omega, by go_num, rfl, HDN, HAL2, HNX⟩
              · replace inv := inv_setQ (i := 15) inv (by kernel_rfl) (by decide)
                go_simp
                have HP15 := Lib.hid (HP11.out.bltA (g := w11.heap.size) rfl)
                obtain ⟨w15, HW15⟩ := nameIt (w11.alloc (.cells #[.int .i64 m] 3))
                rw [HW15.out] at HP15 ⊢
                refine hK.out _ _ (fun _ => HS2.out _ HP15.out.bel (HP15.out.px sg rfl).2) ?_
                clear hK K
                try simp only [Act.put, List.setIfInBounds_toArray, List.set_cons_zero, List.set_cons_succ]
                refine wpU_one (i := 4) (by kernel_rfl) rfl (fun K hK => ?_)
                replace inv := inv_setQ (i := 4) inv (by kernel_rfl) (by decide)
                obtain ⟨xs16, hx16, hy16⟩ := HP15.out.rows
                obtain ⟨hT16, v16, hv16, hbx16⟩ := HP15.out.bB _ rfl
                cases hv16
                rw [HLRI.out] at hx16
                refine step_appB elIntsP (by rfl) _ _ (by rfl) hx16 (by rfl) (by rfl) hbx16 (by rfl) (by rfl) (by omega) (by unfold maxLen; omega) HP15.out.size ?_
                intro g16 c16 w16 ho16 hg16 hat16 hlt16
                have HP16 := Lib.hid (HP15.out.appR (N := LR ++ [NR]) hy16 (by rw [HLRI.out]; exact ho16) hg16 (at_lies hat16) rfl)
                clear hx16 hy16 hT16 hbx16 ho16 hg16 hat16 hlt16
                refine hK.out _ _ (fun _ => HS2.out _ HP16.out.bel (HP16.out.px sg rfl).2) ?_
                clear hK K
                try simp only [Act.put, List.setIfInBounds_toArray, List.set_cons_zero, List.set_cons_succ]
                refine wpU_take (i := 17) (v := .pointer (some ⟨ob, 0 + 2, none⟩)) rfl inv (by kernel_rfl) (by kernel_rfl) (by decide) (by decide) (by kernel_rfl) (by kernel_rfl) (by kernel_rfl) (fun _ _ _ h => h) (Or.inl ⟨by rfl, fun w' hw' => ?_⟩) (HS2.out _ HP16.out.bel (HP16.out.px sg rfl).2) (fun inv => ?_)
                · obtain ⟨h0, h1, h2, h3, h4⟩ := hw'
                  go_simp
                try simp only [Act.put, List.setIfInBounds_toArray, List.set_cons_zero, List.set_cons_succ]
                refine wpU_one (i := 16) (by kernel_rfl) rfl (fun K hK => ?_)
                replace inv := inv_setQ (i := 16) inv (by kernel_rfl) (by decide)
                have hx17 := HP16.out.acc
                obtain ⟨hT17, hbx17⟩ := HP16.out.bA _ rfl
                rw [HLAI.out] at hx17
                refine step_appB elInt (by rfl) _ _ (by rfl) hx17 (by rfl) (by rfl) hbx17 (by rfl) (by rfl) (by omega) (by unfold maxLen; omega) HP16.out.size ?_
                intro g17 c17 w17 ho17 hg17 hat17 hlt17
                have HP17 := Lib.hid (HP16.out.appA (N := LA ++ [m]) (by rw [HLAI.out]; exact ho17) hg17 (at_lies hat17) rfl)
                clear hx17 hT17 hbx17 ho17 hg17 hat17 hlt17
                refine hK.out _ _ (fun _ => HS2.out _ HP17.out.bel (HP17.out.px sg rfl).2) ?_
                clear hK K
                try simp only [Act.put, List.setIfInBounds_toArray, List.set_cons_zero, List.set_cons_succ]
                have HNX := Lib.hid (HNEXT.out _ _ _ HP17.out)
                have Z3 := (HP17.out.bel.block ob (by omega)).trans HBX.out
                obtain ⟨y0, y1, y2⟩ := bx_cells3 Z3
                obtain ⟨f0, f1, f2⟩ := bx_free3 Z3
                clear Z3
                refine wpU_one (i := 18) (by kernel_rfl) rfl (fun K hK => ?_)
                go_simp
                refine hK.out _ _ (fun h => absurd (show true = false from h) (by decide)) ?_
                clear hK K
                try simp only [Act.put, List.setIfInBounds_toArray, List.set_cons_zero, List.set_cons_succ]
                refine wpU_one (i := 19) (by kernel_rfl) rfl (fun K hK => ?_)
                go_simp
                refine hK.out _ _ (fun h => absurd (show true = false from h) (by decide)) ?_
                clear hK K
                try simp only [Act.put, List.setIfInBounds_toArray, List.set_cons_zero, List.set_cons_succ]
                refine wpU_one (i := 20) (by kernel_rfl) rfl (fun K hK => ?_)
                go_simp
                refine hK.out _ _ (fun h => absurd (show true = false from h) (by decide)) ?_
                clear hK K
                try simp only [Act.put, List.setIfInBounds_toArray, List.set_cons_zero, List.set_cons_succ]
                refine wpU_done (by kernel_rfl) ?_ _
                go_wp2_with fail
                go_roundg (n - (i + 1))
                case measure => omega
                case rel => exact ⟨i + 1, sg, cp, L, _, _, by omega, by omega, by omega, by go_num, rfl, HDN, HAL2, HNX⟩
            · replace inv := inv_setQ (i := 15) inv (by kernel_rfl) (by decide)
              go_simp
              have HP18 := Lib.hid ((HPI.out.bltA (g := w5.heap.size) rfl).keep (Below.refl _ _).drew)
              obtain ⟨w18, HW18⟩ := nameIt (w5.alloc (.cells #[.int .i64 m] 3)).drew
              rw [HW18.out] at HP18 ⊢
              refine hK.out _ _ (fun _ => HS2.out _ HP18.out.bel (HP18.out.px sg rfl).2) ?_
              clear hK K
              try simp only [Act.put, List.setIfInBounds_toArray, List.set_cons_zero, List.set_cons_succ]
              refine wpU_one (i := 3) (by kernel_rfl) rfl (fun K hK => ?_)
              replace inv := inv_setQ (i := 3) inv (by kernel_rfl) (by decide)
              go_simp
              have HP19 := Lib.hid (HP18.out.bltB (g := w18.heap.size) rfl)
              obtain ⟨w19, HW19⟩ := nameIt (w18.alloc (.cells #[.slice (some ⟨g9, 0, none⟩) k k] 22))
              rw [HW19.out] at HP19 ⊢
              refine hK.out _ _ (fun _ => HS2.out _ HP19.out.bel (HP19.out.px sg rfl).2) ?_
              clear hK K
              try simp only [Act.put, List.setIfInBounds_toArray, List.set_cons_zero, List.set_cons_succ]
              refine wpU_one (i := 4) (by kernel_rfl) rfl (fun K hK => ?_)
              replace inv := inv_setQ (i := 4) inv (by kernel_rfl) (by decide)
              obtain ⟨xs20, hx20, hy20⟩ := HP19.out.rows
              obtain ⟨hT20, v20, hv20, hbx20⟩ := HP19.out.bB _ rfl
              cases hv20
              rw [HLRI.out] at hx20
              refine step_appB elIntsP (by rfl) _ _ (by rfl) hx20 (by rfl) (by rfl) hbx20 (by rfl) (by rfl) (by omega) (by unfold maxLen; omega) HP19.out.size ?_
              intro g20 c20 w20 ho20 hg20 hat20 hlt20
              have HP20 := Lib.hid (HP19.out.appR (N := LR ++ [NR]) hy20 (by rw [HLRI.out]; exact ho20) hg20 (at_lies hat20) rfl)
              clear hx20 hy20 hT20 hbx20 ho20 hg20 hat20 hlt20
              refine hK.out _ _ (fun _ => HS2.out _ HP20.out.bel (HP20.out.px sg rfl).2) ?_
              clear hK K
              try simp only [Act.put, List.setIfInBounds_toArray, List.set_cons_zero, List.set_cons_succ]
              refine wpU_take (i := 17) (v := .pointer (some ⟨ob, 0 + 2, none⟩)) rfl inv (by kernel_rfl) (by kernel_rfl) (by decide) (by decide) (by kernel_rfl) (by kernel_rfl) (by kernel_rfl) (fun _ _ _ h => h) (Or.inl ⟨by rfl, fun w' hw' => ?_⟩) (HS2.out _ HP20.out.bel (HP20.out.px sg rfl).2) (fun inv => ?_)
              · obtain ⟨h0, h1, h2, h3, h4⟩ := hw'
                go_simp
              try simp only [Act.put, List.setIfInBounds_toArray, List.set_cons_zero, List.set_cons_succ]
              refine wpU_one (i := 16) (by kernel_rfl) rfl (fun K hK => ?_)
              replace inv := inv_setQ (i := 16) inv (by kernel_rfl) (by decide)
              have hx21 := HP20.out.acc
              obtain ⟨hT21, hbx21⟩ := HP20.out.bA _ rfl
              rw [HLAI.out] at hx21
              refine step_appB elInt (by rfl) _ _ (by rfl) hx21 (by rfl) (by rfl) hbx21 (by rfl) (by rfl) (by omega) (by unfold maxLen; omega) HP20.out.size ?_
              intro g21 c21 w21 ho21 hg21 hat21 hlt21
              have HP21 := Lib.hid (HP20.out.appA (N := LA ++ [m]) (by rw [HLAI.out]; exact ho21) hg21 (at_lies hat21) rfl)
              clear hx21 hT21 hbx21 ho21 hg21 hat21 hlt21
              refine hK.out _ _ (fun _ => HS2.out _ HP21.out.bel (HP21.out.px sg rfl).2) ?_
              clear hK K
              try simp only [Act.put, List.setIfInBounds_toArray, List.set_cons_zero, List.set_cons_succ]
              have HNX := Lib.hid (HNEXT.out _ _ _ HP21.out)
              have Z3 := (HP21.out.bel.block ob (by omega)).trans HBX.out
              obtain ⟨y0, y1, y2⟩ := bx_cells3 Z3
              obtain ⟨f0, f1, f2⟩ := bx_free3 Z3
              clear Z3
              refine wpU_one (i := 18) (by kernel_rfl) rfl (fun K hK => ?_)
              go_simp
              refine hK.out _ _ (fun h => absurd (show true = false from h) (by decide)) ?_
              clear hK K
              try simp only [Act.put, List.setIfInBounds_toArray, List.set_cons_zero, List.set_cons_succ]
              refine wpU_one (i := 19) (by kernel_rfl) rfl (fun K hK => ?_)
              go_simp
              refine hK.out _ _ (fun h => absurd (show true = false from h) (by decide)) ?_
              clear hK K
              try simp only [Act.put, List.setIfInBounds_toArray, List.set_cons_zero, List.set_cons_succ]
              refine wpU_one (i := 20) (by kernel_rfl) rfl (fun K hK => ?_)
              go_simp
              refine hK.out _ _ (fun h => absurd (show true = false from h) (by decide)) ?_
              clear hK K
              try simp only [Act.put, List.setIfInBounds_toArray, List.set_cons_zero, List.set_cons_succ]
              refine wpU_done (by kernel_rfl) ?_ _
              go_wp2_with fail
              go_roundg (n - (i + 1))
              case measure => omega
              case rel => exact ⟨i + 1, sg, cp, L, _, _, by omega, by omega, by omega, by go_num, rfl, HDN, HAL2, HNX⟩
      · have hlt' : ¬ (i : Int) < (L : Int) := by omega
        obtain rfl : i = L := by omega
        have HEND := rowsC_end (x := x) (P := P) (n := n) (i := i) (by rw [HL.out]; exact Nat.le_refl _) hin
        obtain ⟨xs, o1, o2⟩ := HC.out.px.rows
        obtain ⟨aR, cR, rfl, -, -⟩ := own_len o1
        obtain ⟨aA, cA', rfl, -, -⟩ := own_len HC.out.px.acc
        have hbx := HC.out.bx
        have hpl := HC.out.cn.lo
        have hws : w.heap.size + 1 < w0.heap.size := lt_of_cell (bx_cells3 HX1.out).1
        have hrd : Rd (fun q => q ≠ w.heap.size + 1) wo (.sl ((rowsC x P i).map D.ints)) [.slice aR (rowsC x P i).length cR] := rd_of_own o1 (o2.mono fun q hq _ => by have := hq.1; show q ≠ _; omega) (by simp) (fun q e => by have := (o1.lt q e).1; show q ≠ _; omega)
        have hac := HC.out.px.acc
        have hcn : canonD x P n = ⟨0, accsC x P i, rowsC x P i⟩ := by unfold canonD; rw [HSN.out, Int.toNat_natCast, HPSN.out, if_neg (show ¬ ps < 0 by omega), HEND.1, HEND.2]
        have hbw := HB0.out.trans (HC.out.cn.bel.mono HB0.out.size)
        have hx1 := bx_keep HX1.out HC.out.cn.bel
        have HRD := Lib.hid hrd
        have HAC := Lib.hid hac
        have HCN := Lib.hid hcn
        have HBW := Lib.hid hbw
        have HX1B := Lib.hid hx1
        obtain ⟨kR, HKR⟩ := nameIt (rowsC x P i).length
        obtain ⟨kA, HKA⟩ := nameIt (accsC x P i).length
        rw [HKR.out, HKA.out] at hbx
        rw [HKR.out] at HRD
        rw [HKA.out] at HAC
        obtain ⟨y0, y1, y2⟩ := bx_cells3 hbx
        obtain ⟨z0, z1, z2⟩ := bx_cells3 hx1
        obtain ⟨f0, f1, f2⟩ := bx_free3 hx1
        clear hrd hac hcn hbw hx1 o1 HEND hbx
        go_wp2_with fail
        have hx6 := bx_set3 HX1B.out (.int .i64 0) (.slice aA kA cA') (.slice aR kR cR)
        obtain ⟨j0, j1, j2⟩ := bx_cells3 hx6
        refine bodyPost_ret (v := .agg #[.int .i64 0, .slice aA kA cA', .slice aR kR cR]) (by simp [results, Try.results10, go_sem, j0, j1, j2]) rfl ?_
        refine HFIN.out M jj _ _ cA' cR kA kR P _ HM.out HJJ.out HP.out (by rw [HCN.out]; exact HKA.out.symm) (by rw [HCN.out]; exact HKR.out.symm) ?_ ?_ (((HBW.out.setCell (p := ⟨w.heap.size + 1, 0, none⟩) (by show _ ≤ w.heap.size + 1; omega) _).setCell (p := ⟨w.heap.size + 1, 1, none⟩) (by show _ ≤ w.heap.size + 1; omega) _).setCell (p := ⟨w.heap.size + 1, 2, none⟩) (by show _ ≤ w.heap.size + 1; omega) _)
        · rw [HCN.out]
          exact sl_of_own (own_blk HAC.out fun g e => (grown_box3 (w.heap.size + 1) wo _ _ _).block g (HAC.out.lt g e).2 (fun e2 => by have := (HAC.out.lt g e).1; cases e2; omega))
        · rw [HCN.out]
          exact (Rd.keep (fun q hq hl => ⟨hq, (grown_box3 (w.heap.size + 1) wo _ _ _).block q hl (fun e => hq (Option.some.inj e))⟩) _ _ HRD.out).any
end Df
end Go.Proofs.Ytgdfbjpahmnekaa
namespace Go.Proofs.Ytgdfbjpahmnekaa
open Go.RowKit
namespace Lr
open Df Km Cl

/-- a function that says no, with the word u -/
def EqNo (ef : Nat) (elb : Array Value) (u : List Int) (nu : Nat) (w : World) : Prop := ∀ W v0 v1 v2, Below w.heap.size w W → Calls Try.prog ef (#[.agg #[v0, v1, v2]] ++ elb) W fun e w' => ∃ a c, e = .returned (.tuple #[.bool false, .slice a nu c]) ∧ Sl w' (.slice a nu c) (ints u) ∧ Below W.heap.size W w'
theorem wrong_lt (f : List Int → Bool) (k : Int) (x : Dfa) (u : List Int) : 0 ≤ wrongV f k x u ∧ wrongV f k x u ≤ 7 := by
  unfold wrongV
  split
  · omega
  · split
    · omega
    · split <;> omega
theorem rd_nil {S : Nat → Prop} {w : World} (a : Addr) : Rd S w (D.ints []) [.slice (some a) 0 0] := ⟨some a, 0, [], rfl, Nat.le_refl _, by simp [maxLen], (fun h => by cases h), fun i hi => by simp at hi, by simp [RdAll]⟩
/-- the learner at its beginning -/
theorem lrS_start (f : List Int → Bool) (kv fv : Value) (w : World) (s0 : Nat) (hs : w.heap.size = s0) : ∀ w1, w1 = (((((((w.alloc (.cells #[.int .i64 0, .slice none 0 0, .slice none 0 0] 25)).alloc (.map #[] 0)).alloc (.cells #[] 3)).alloc (.cells #[.slice (some ⟨s0 + 1 + 1, 0, none⟩) 0 0] 22)).alloc (.cells #[] 3)).alloc (.cells #[.slice (some ⟨s0 + 1 + 1 + 1 + 1, 0, none⟩) 0 0] 22)).alloc (.cells #[kv, fv, .map (some (s0 + 1)), .slice (some ⟨s0 + 1 + 1 + 1, 0, none⟩) 1 1, .slice (some ⟨s0 + 1 + 1 + 1 + 1 + 1, 0, none⟩) 1 1, .map none] 36)) →
    LrS f [[]] s0 (s0 + 1 + 1 + 1 + 1 + 1 + 1) (s0 + 1) kv fv (.slice (some ⟨s0 + 1 + 1 + 1 + 1 + 1, 0, none⟩) 1 1) 0 [[]] (.slice (some ⟨s0 + 1 + 1 + 1, 0, none⟩) 1 1) (.map none) w1 ∧ w1.heap[s0]? = some (.cells #[.int .i64 0, .slice none 0 0, .slice none 0 0] 25 (0, 0)) ∧ Below s0 w w1 ∧ s0 ≤ w1.heap.size := by
  rintro w1 rfl
  subst hs
  obtain ⟨a1, H1⟩ := nameIt (w.alloc (.cells #[.int .i64 0, .slice none 0 0, .slice none 0 0] 25))
  rw [H1.out]
  have z1 : a1.heap.size = w.heap.size + 1 := by rw [← H1.out]; simp
  have b1 : Below w.heap.size w a1 := by rw [← H1.out]; exact (Below.refl _ _).alloc (Nat.le_refl _) _
  have r1 : a1.heap[w.heap.size]? = some (.cells #[.int .i64 0, .slice none 0 0, .slice none 0 0] 25 (0, 0)) := by rw [← H1.out]; exact bx_new _ _ _ rfl
  obtain ⟨a2, H2⟩ := nameIt (a1.alloc (.map #[] 0))
  rw [H2.out]
  have z2 : a2.heap.size = w.heap.size + 1 + 1 := by rw [← H2.out]; simp [z1]
  have b2 : Below a1.heap.size a1 a2 := by rw [← H2.out]; exact (Below.refl _ _).alloc (Nat.le_refl _) _
  have m2 : KMap 9 4 (w.heap.size + 1) (fun _ => none) 0 a2 := by rw [← H2.out]; exact KMap.start _ z1.symm
  obtain ⟨a3, H3⟩ := nameIt (a2.alloc (.cells #[] 3))
  rw [H3.out]
  have z3 : a3.heap.size = w.heap.size + 1 + 1 + 1 := by rw [← H3.out]; simp [z2]
  have b3 : Below a2.heap.size a2 a3 := by rw [← H3.out]; exact (Below.refl _ _).alloc (Nat.le_refl _) _
  obtain ⟨a4, H4⟩ := nameIt (a3.alloc (.cells #[.slice (some ⟨w.heap.size + 1 + 1, 0, none⟩) 0 0] 22))
  rw [H4.out]
  have z4 : a4.heap.size = w.heap.size + 1 + 1 + 1 + 1 := by rw [← H4.out]; simp [z3]
  have b4 : Below a3.heap.size a3 a4 := by rw [← H4.out]; exact (Below.refl _ _).alloc (Nat.le_refl _) _
  have o4 : a4.ownsRow w.heap.size 22 1 (.slice (some ⟨w.heap.size + 1 + 1 + 1, 0, none⟩) 1 1) 1 [.slice (some ⟨w.heap.size + 1 + 1, 0, none⟩) 0 0] := by
    rw [← H4.out, ← z3]
    exact World.ownsRow_lit (e := 22) (size := 1) a3 #[.slice (some ⟨w.heap.size + 1 + 1, 0, none⟩) 0 0] 1 (by omega) (by decide) (by rfl)
  obtain ⟨a5, H5⟩ := nameIt (a4.alloc (.cells #[] 3))
  rw [H5.out]
  have z5 : a5.heap.size = w.heap.size + 1 + 1 + 1 + 1 + 1 := by rw [← H5.out]; simp [z4]
  have b5 : Below a4.heap.size a4 a5 := by rw [← H5.out]; exact (Below.refl _ _).alloc (Nat.le_refl _) _
  obtain ⟨a6, H6⟩ := nameIt (a5.alloc (.cells #[.slice (some ⟨w.heap.size + 1 + 1 + 1 + 1, 0, none⟩) 0 0] 22))
  rw [H6.out]
  have z6 : a6.heap.size = w.heap.size + 1 + 1 + 1 + 1 + 1 + 1 := by rw [← H6.out]; simp [z5]
  have b6 : Below a5.heap.size a5 a6 := by rw [← H6.out]; exact (Below.refl _ _).alloc (Nat.le_refl _) _
  have r6 : a6.heap[w.heap.size + 1 + 1 + 1 + 1 + 1]? = some (.cells #[.slice (some ⟨w.heap.size + 1 + 1 + 1 + 1, 0, none⟩) 0 0] 22 (0, 0)) := by rw [← H6.out]; exact bx_new _ _ _ z5.symm
  obtain ⟨a7, H7⟩ := nameIt (a6.alloc (.cells #[kv, fv, .map (some (w.heap.size + 1)), .slice (some ⟨w.heap.size + 1 + 1 + 1, 0, none⟩) 1 1, .slice (some ⟨w.heap.size + 1 + 1 + 1 + 1 + 1, 0, none⟩) 1 1, .map none] 36))
  rw [H7.out]
  have b7 : Below a6.heap.size a6 a7 := by rw [← H7.out]; exact (Below.refl _ _).alloc (Nat.le_refl _) _
  have r7 : a7.heap[w.heap.size + 1 + 1 + 1 + 1 + 1 + 1]? = some (.cells #[kv, fv, .map (some (w.heap.size + 1)), .slice (some ⟨w.heap.size + 1 + 1 + 1, 0, none⟩) 1 1, .slice (some ⟨w.heap.size + 1 + 1 + 1 + 1 + 1, 0, none⟩) 1 1, .map none] 36 (0, 0)) := by rw [← H7.out]; exact bx_new _ _ _ z6.symm
  have b47 : Below a4.heap.size a4 a7 := b5.trans ((b6.trans (b7.mono b6.size)).mono b5.size)
  have b27 : Below a2.heap.size a2 a7 := b3.trans ((b4.trans (b47.mono b4.size)).mono b3.size)
  have b17 : Below a1.heap.size a1 a7 := b2.trans (b27.mono b2.size)
  refine ⟨⟨r7, ⟨_, m2.keep b27, fun l x h => by cases h⟩, ⟨_, own_keep o4 b47, ?_⟩, fun q e => ?_, ?_, by omega⟩, bx_keep r1 b17, b1.trans (b17.mono b1.size), by have := b17.size; omega⟩
  · exact RdAll.one (rd_nil _)
  · have e2 : w.heap.size + 1 + 1 + 1 = q := by simpa [Value.ownBlock] using e
    omega
  · refine rd_lit1 (bx_keep r6 b7) ⟨by omega, by omega, fun e => ?_⟩ (rd_nil _)
    simp [Value.ownBlock] at e
set_option maxHeartbeats 4000000 in
set_option maxRecDepth 100000 in
theorem ofNo (mf ef : Nat) (mlb elb : Array Value) (f : List Int → Bool) (k : Nat) (hk : 1 ≤ k ∧ k ≤ 16) (u : List Int) (nu : Nat) (hnu : u.length = nu) (hn8 : nu * 8 ≤ 140737488355328) (w : World) (egm : ∀ args w, (callFunc mf args).run Try.prog w = .ok (.enter mf args) w) (ege : ∀ args w, (callFunc ef args).run Try.prog w = .ok (.enter ef args) w)
    (hf : ∀ W, w.heap.size ≤ W.heap.size → AskFn mf mlb f W) (hE : EqNo ef elb u nu w) (N : Nat) (hN : N = 200) (hwv : wrongV f k (closedD f [[]] k [[]] N) u ≠ 0) :
    Calls Try.prog 4 #[.int .i64 (k : Int), .func (.func mf) #[] mlb, .func (.func ef) #[] elb] w fun e w' => e = .returned (.tuple #[.agg #[.int .i64 0, .slice none 0 0, .slice none 0 0], .int .i64 (wrongV f k (closedD f [[]] k [[]] N) u)]) ∧ Below w.heap.size w w' := by
  have hmk : ∀ W : World, (Instr.makeMap 33 none).run Try.prog W = .ok (.map (some W.heap.size)) (W.alloc (.map #[] 0)) := fun W => by
    simp [Instr.makeMap, run_underlying Try.underlying33]; try rfl
  obtain ⟨s0, HS0⟩ := nameIt w.heap.size
  obtain ⟨w1, HW1⟩ := nameIt (((((((w.alloc (.cells #[.int .i64 0, .slice none 0 0, .slice none 0 0] 25)).alloc (.map #[] 0)).alloc (.cells #[] 3)).alloc (.cells #[.slice (some ⟨s0 + 1 + 1, 0, none⟩) 0 0] 22)).alloc (.cells #[] 3)).alloc (.cells #[.slice (some ⟨s0 + 1 + 1 + 1 + 1, 0, none⟩) 0 0] 22)).alloc (.cells #[.int .i64 (k : Int), .func (.func mf) #[] mlb, .map (some (s0 + 1)), .slice (some ⟨s0 + 1 + 1 + 1, 0, none⟩) 1 1, .slice (some ⟨s0 + 1 + 1 + 1 + 1 + 1, 0, none⟩) 1 1, .map none] 36))
  obtain ⟨hls, hrx, hb1, hs1⟩ := lrS_start f (.int .i64 (k : Int)) (.func (.func mf) #[] mlb) w s0 HS0.out w1 HW1.out.symm
  have hk1 : ¬ (k : Int) < 1 := by omega
  have hk2 : ¬ (k : Int) > 16 := by omega
  have hd1 : decide ((k : Int) < 1) = false := decide_eq_false hk1
  have hd2 : decide ((16 : Int) < (k : Int)) = false := by apply decide_eq_false; omega
  have HOK := ok1 f k
  have hok200 := discA_ok HOK N
  obtain ⟨hR, hF, hwd, hnl, hal⟩ := closed_right (N := N) HOK (by simp) (fun A h => by have := bd1 f k A h; omega) (by omega) hk
  subst hN
  have HCLO := Lib.hid (closeE mf mlb f [[]] 1 rfl (by omega) (fun t ht => by simp at ht; subst ht; exact ⟨fun y hy => (by cases hy), (by simp)⟩) k hk [[]] 1 rfl HOK (fun A h => by have := bd1 f k A h; omega) (s0 + 1 + 1 + 1 + 1 + 1 + 1) (s0 + 1) s0 0 (by omega) (.map none) (some ⟨s0 + 1 + 1 + 1 + 1 + 1, 0, none⟩) (some ⟨s0 + 1 + 1 + 1, 0, none⟩) 1 1 w1 egm (fun W hW => hf W (Nat.le_trans (by rw [HS0.out]; exact hs1) hW)) hls hs1)
  obtain ⟨A, HA⟩ := nameIt (discA f [[]] k [[]] 200)
  obtain ⟨LR, HLR⟩ := nameIt (rowsA f [[]] k [[]] 200)
  obtain ⟨LA, HLA⟩ := nameIt (accsA f [[]] k [[]] 200)
  have hcd : closedD f [[]] k [[]] 200 = ⟨0, LA, LR⟩ := by unfold closedD; rw [HLR.out, HLA.out]
  rw [hcd] at hwv hR hF hwd hnl hal ⊢
  rw [HA.out] at hnl hal
  rw [HA.out, HLR.out, HLA.out] at HCLO
  have hlo : ∀ v ∈ LA, v ≤ 9223372036854775807 := by
    intro v hv
    rw [← HLA.out] at hv
    unfold accsA at hv
    rw [List.mem_map] at hv
    obtain ⟨y, _, rfl⟩ := hv
    split <;> omega
  have HLO := Lib.hid hlo
  obtain ⟨x, HX⟩ := nameIt (⟨0, LA, LR⟩ : Dfa)
  have hxn : x.next = LR := by rw [← HX.out]
  have hxa : x.acc = LA := by rw [← HX.out]
  have hxs : x.start = 0 := by rw [← HX.out]
  rw [HX.out] at hwv hR hF hwd hnl hal ⊢
  have HXN := Lib.hid hxn
  have HXA := Lib.hid hxa
  have HXS := Lib.hid hxs
  have HRR := Lib.hid hR
  have HFU := Lib.hid hF
  have HWD := Lib.hid hwd
  have HNL := Lib.hid hnl
  have HAL := Lib.hid hal
  have HAP := Lib.hid hf
  unfold EqNo at hE
  have HEQ := Lib.hid hE
  have HNU := Lib.hid hnu
  have HB1 := Lib.hid hb1
  have hwl := wrong_lt f k x u
  obtain ⟨wv, HWV⟩ := nameIt (wrongV f k x u)
  rw [HWV.out] at hwv hwl ⊢
  obtain ⟨PST, HPS⟩ := nameIt (fun (e : Ending) (w' : World) => e = .returned (.tuple #[.agg #[.int .i64 0, .slice none 0 0, .slice none 0 0], .int .i64 wv]) ∧ Below s0 w w')
  have HFIN : Hid (∀ w', Below s0 w w' → PST (.returned (.tuple #[.agg #[.int .i64 0, .slice none 0 0, .slice none 0 0], .int .i64 wv])) w') := fun w' h => by rw [← HPS.out]; exact ⟨rfl, h⟩
  have HRX := Lib.hid hrx
  have HLS := Lib.hid hls
  rw [HS0.out, HPS.out]
  clear hls hrx hb1 HPS hxn hxa hxs hR hF hwd hnl hal hcd hok200 hf hE hnu HOK hlo
  go_enter Try.func4, Try.ntmps4
  go_upto_region 4 with fail
  rw [HS0.out, HW1.out]
  go_loopg [9, 10, 11, 12, 13] 1 (fun gg v9 v10 v11 v12 v13 wr => w1 = wr)
  case atStart => exact rfl
  case round =>
    obtain rfl := hrel
    go_wp2_with fail
    with_reducible refine HCLO.out.mono ?_
    rintro e w2 ⟨aa, an, ca, cn, rb, c2, sv2, rfl, hl2, hc2, hra, hrn, hgr⟩
    have hs2 := hgr.size
    have hgb : ∀ q, q < s0 → w2.heap[q]? = w1.heap[q]? := fun q hq => hgr.block q (by omega) (fun e => by
      rcases e with e | e | e
      · omega
      · omega
      · have e2 : s0 + 1 + 1 + 1 = q := by simpa [Value.ownBlock] using e
        omega)
    have hb2 : Below s0 w w2 := HB1.out.trans ⟨hgr.os, hgr.tape, hgr.output, hgr.size, hgb⟩
    have hrx2 : w2.heap[s0]? = some (.cells #[.int .i64 0, .slice none 0 0, .slice none 0 0] 25 (0, 0)) := (hgr.block s0 (Array.getElem?_eq_some_iff.1 HRX.out).1 (fun e => by
      rcases e with e | e | e
      · omega
      · omega
      · have e2 : s0 + 1 + 1 + 1 = s0 := Option.some.inj e
        omega)).trans HRX.out
    have hll : LA.length = LR.length := by rw [← HXA.out, ← HXN.out, HNL.out, HAL.out]
    rw [hll] at hra ⊢
    have hnn : x.next.length = LR.length := by rw [HXN.out]
    obtain ⟨n, HN⟩ := nameIt LR.length
    rw [HN.out] at hra hrn hnn ⊢
    have hb23 : Below w2.heap.size w2 (w2.alloc (.cells #[.int .i64 0, .slice aa n ca, .slice an n cn] 25)) := (Below.refl _ _).alloc (Nat.le_refl _) _
    obtain ⟨db, HDB⟩ := nameIt w2.heap.size
    have hdx : (w2.alloc (.cells #[.int .i64 0, .slice aa n ca, .slice an n cn] 25)).heap[db]? = some (.cells #[.int .i64 0, .slice aa n ca, .slice an n cn] 25 (0, 0)) := bx_new _ _ _ HDB.out.symm
    obtain ⟨w3, HW3⟩ := nameIt (w2.alloc (.cells #[.int .i64 0, .slice aa n ca, .slice an n cn] 25))
    rw [HW3.out] at hb23 hdx
    have hb3 : Below s0 w w3 := hb2.trans (hb23.mono (Nat.le_trans (by rw [← HS0.out]; exact hb2.size) (by omega)))
    have ha3 : Sl w3 (.slice aa n ca) (ints x.acc) := by rw [HXA.out]; exact (sl_rd hra).keep hb23
    have hn3 : Rd AnyB w3 (.sl (x.next.map D.ints)) [.slice an n cn] := by rw [HXN.out]; exact (hrn.any).below hb23
    have HCAN := Lib.hid (canonE x HRR.out (by rw [HXA.out]; exact HLO.out) aa an ca cn n hnn w3 ha3 hn3)
    rw [HXS.out] at HCAN
    have HA3 := Lib.hid ha3
    have HN3 := Lib.hid hn3
    have HDX := Lib.hid hdx
    have HL3 : Hid (∀ W, Below w3.heap.size w3 W → W.heap[s0 + 1 + 1 + 1 + 1 + 1 + 1]? = some (.cells #[.int .i64 (k : Int), .func (.func mf) #[] mlb, .map (some (s0 + 1)), sv2, .slice (some ⟨s0 + 1 + 1 + 1 + 1 + 1, 0, none⟩) 1 1, .map (some rb)] 36 (0, 0)) ∧ KN f (s0 + 1) c2 W) := fun W hb => ⟨bx_keep (bx_keep hl2.bx hb23) hb, (hl2.kn.keep hb23).keep hb⟩
    have HB3 := Lib.hid hb3
    have HRX3 := Lib.hid (bx_keep hrx2 hb23)
    obtain ⟨x0, x1, x2⟩ := bx_cells3 hdx
    have HNN := Lib.hid hnn
    clear hgr hgb hb2 hrx2 hll hra hrn hnn hb23 hdx hb3 ha3 hn3 hl2 hs2
    go_upto_region 7 with fail
    rw [HDB.out, HW3.out]
    go_wp2_with fail
    with_reducible refine HCAN.out.mono ?_
    rintro e w4 ⟨M4, j4, aa4, an4, ca4, cn4, -, -, rfl, -, -, hb4⟩
    have hz3 := HB3.out.size
    have HB34 := Lib.hid hb4
    have HB4 : Hid (Below s0 w w4) := HB3.out.trans (hb4.mono (by rw [HS0.out] at hz3; exact hz3))
    have HEQ4 := Lib.hid (fun v0 v1 v2 => HEQ.out w4 v0 v1 v2 (by rw [HS0.out]; exact HB4.out))
    clear hb4 x0 x1 x2
    go_wp2_with fail
    with_reducible refine (HEQ4.out _ _ _).mono ?_
    rintro e w5 ⟨a5, c5, rfl, hs5, hb5⟩
    have HB45 := Lib.hid hb5
    have HCL := Lib.hid (clone_int _ u w5 hs5 (by rw [HNU.out]; exact hn8))
    clear hb5 hs5
    go_wp2_with fail
    with_reducible refine HCL.out.mono ?_
    rintro e w6 ⟨a6, c6, rfl, ho6, hb6⟩
    have hb46 := HB45.out.trans (hb6.mono HB45.out.size)
    have hb36 := HB34.out.trans (hb46.mono HB34.out.size)
    have hs6 := sl_of_own ho6
    rw [HNU.out] at hs6 ⊢
    obtain ⟨hl6, hk6⟩ := HL3.out w6 hb36
    have HWR := Lib.hid (wrongE mf mlb f (s0 + 1 + 1 + 1 + 1 + 1 + 1) (s0 + 1) c2 (by omega) k sv2 (.slice (some ⟨s0 + 1 + 1 + 1 + 1 + 1, 0, none⟩) 1 1) (.map (some rb)) x HRR.out HFU.out HWD.out u nu HNU.out a6 c6 aa an ca cn n HNN.out w6 egm (fun W hW => HAP.out W (by have h1 := HB3.out.size; have h2 := hb36.size; omega)) hl6 hk6 hs6 (HA3.out.keep hb36) (HN3.out.below hb36))
    rw [HXS.out, HWV.out] at HWR
    have HRX6 := Lib.hid (bx_keep HRX3.out hb36)
    have HB6 : Hid (Below s0 w w6) := HB3.out.trans (hb36.mono (by rw [HS0.out] at hz3; exact hz3))
    obtain ⟨x0, x1, x2⟩ := bx_cells3 (bx_keep HDX.out hb36)
    clear hb46 hb36 hs6 hl6 hk6 ho6 hb6 hz3
    go_wp2_with fail
    with_reducible refine HWR.out.mono ?_
    rintro e w7 ⟨rfl, c7, -, -, hg7⟩
    have hrx7 := (hg7.block s0 (Array.getElem?_eq_some_iff.1 HRX6.out).1 (by simp)).trans HRX6.out
    have HB7 : Hid (Below s0 w w7) := HB6.out.grown hg7 (by have := HB6.out.size; rw [HS0.out] at this; exact this) (fun q e => by have := Option.some.inj e; omega)
    have HRX7 := Lib.hid hrx7
    obtain ⟨y0, y1, y2⟩ := bx_cells3 hrx7
    obtain ⟨f0, f1, f2⟩ := bx_free3 hrx7
    have hne : (wv != 0) = true := by simpa using hwv
    clear hg7 hrx7 x0 x1 x2
    go_wp2_with fail
    obtain ⟨j0, j1, j2⟩ := bx_cells3 (bx_set3 HRX7.out (.int .i64 0) (.slice none 0 0) (.slice none 0 0))
    refine bodyPost_ret (v := .tuple #[.agg #[.int .i64 0, .slice none 0 0, .slice none 0 0], .int .i64 wv]) (by simp [results, Try.results4, go_sem, j0, j1, j2]) rfl ?_
    exact HFIN.out _ (((HB7.out.setCell (p := ⟨s0, 0, none⟩) (Nat.le_refl _) _).setCell (p := ⟨s0, 1, none⟩) (Nat.le_refl _) _).setCell (p := ⟨s0, 2, none⟩) (Nat.le_refl _) _)
end Lr
end Go.Proofs.Ytgdfbjpahmnekaa
namespace Go.Proofs.Ytgdfbjpahmnekaa
open Go.RowKit
namespace Lr
open Df Km Cl

theorem ask1 (w : World) : AskFn 5 #[] (fun _ => true) w := by
  intro W u n a c hn hu hn2 hb hs
  go_enter Try.func5, Try.ntmps5
  go_wp2_with fail
  go_ret
  exact ⟨rfl, Below.refl _ _⟩
def evenF (u : List Int) : Bool := decide (u.length % 2 = 0)
theorem ask3 (w : World) : AskFn 7 #[] evenF w := by
  intro W u n a c hn hu hn2 hb hs
  have hm : (n : Int).tmod 2 = ((n % 2 : Nat) : Int) := by
    rw [Int.tmod_eq_emod_of_nonneg (by omega)]; omega
  have he : evenF u = decide (((n % 2 : Nat) : Int) = 0) := by
    unfold evenF
    rw [hn]
    by_cases h : n % 2 = 0
    · simp [h]
    · have h2 : n % 2 = 1 := by omega
      simp [h2]
  rw [he]
  obtain ⟨r, HR⟩ := nameIt (n % 2)
  have hr : r < 2 := by rw [← HR.out]; omega
  rw [HR.out] at hm ⊢
  clear he
  go_enter Try.func7, Try.ntmps7
  go_wp2_with fail
  go_ret
  exact ⟨rfl, Below.refl _ _⟩
theorem no2 (w : World) : EqNo 6 #[] [0] 1 w := by
  intro W v0 v1 v2 hb
  obtain ⟨PST, HP⟩ := nameIt (fun (e : Ending) (w' : World) => ∃ a c, e = .returned (.tuple #[.bool false, .slice a 1 c]) ∧ Sl w' (.slice a 1 c) (ints [0]) ∧ Below W.heap.size W w')
  rw [HP.out]
  have hbx : ((W.alloc (.cells #[v0, v1, v2] 25)).alloc (.cells #[.int .i64 0] 3)).heap[W.heap.size + 1]? = some (.cells #[.int .i64 0] 3 (0, 0)) := bx_new _ _ _ (by simp)
  have HE : Hid (PST (.returned (.tuple #[.bool false, .slice (some ⟨W.heap.size + 1, 0, none⟩) 1 1])) ((W.alloc (.cells #[v0, v1, v2] 25)).alloc (.cells #[.int .i64 0] 3))) := by
    rw [← HP.out]
    exact ⟨_, _, rfl, sl_lit1 hbx, ((Below.refl _ _).alloc (Nat.le_refl _) _).alloc (by simp) _⟩
  clear hbx HP
  go_enter Try.func6, Try.ntmps6
  go_wp2_with fail
  exact HE.out
theorem no4 (wb : Nat) (u : List Int) (nu : Nat) (a : Option Addr) (c : Nat) (w : World) (hb : w.heap[wb]? = some (.cells #[.slice a nu c] 22 (0, 0))) (hs : Sl w (.slice a nu c) (ints u)) : EqNo 8 #[.pointer (some ⟨wb, 0, none⟩)] u nu w := by
  intro W v0 v1 v2 hbW
  obtain ⟨PST, HP⟩ := nameIt (fun (e : Ending) (w' : World) => ∃ a c, e = .returned (.tuple #[.bool false, .slice a nu c]) ∧ Sl w' (.slice a nu c) (ints u) ∧ Below W.heap.size W w')
  rw [HP.out]
  obtain ⟨W1, HW1⟩ := nameIt (W.alloc (.cells #[v0, v1, v2] 25))
  have hb1 : Below W.heap.size W W1 := by rw [← HW1.out]; exact (Below.refl _ _).alloc (Nat.le_refl _) _
  have c0 := bx_cells1 (bx_keep (bx_keep hb hbW) hb1)
  have HE : Hid (∀ q, PST (.returned (.tuple #[.bool false, .slice a nu c])) (W1.drewN q)) := by
    intro q
    rw [← HP.out]
    exact ⟨_, _, rfl, ((hs.keep hbW).keep hb1).keep (below_drewN _ _), hb1.trans ((below_drewN _ _).mono hb1.size)⟩
  clear hb hs HP hb1 hbW
  go_enter Try.func8, Try.ntmps8
  go_upto_region 1 with fail
  rw [HW1.out]
  go_quiet (fail)
  go_wp2_with fail
  exact HE.out _
end Lr
end Go.Proofs.Ytgdfbjpahmnekaa
namespace Go.Proofs.Ytgdfbjpahmnekaa
open Go.RowKit
namespace Lr
open Df Km Cl

theorem wv_eq {f : List Int → Bool} {k N : Nat} (hN : 2 ≤ N) (hcg : ∀ u v (c : Nat), f u = f v → f (u ++ [(c : Int)]) = f (v ++ [(c : Int)])) (u : List Int) : wrongV f k (closedD f [[]] k [[]] N) u = if 2000 < u.length then 2 else if u.any (outK k) = true then 1 else 7 := by
  unfold wrongV
  split
  · rfl
  · split
    · rfl
    · rename_i h1 h2
      have hu : ∀ y ∈ u, 0 ≤ y ∧ y < (k : Int) := by
        intro y hy
        rcases Int.lt_or_le y 0 with h | h
        · exact absurd (List.any_eq_true.2 ⟨y, hy, by simp [outK, h]⟩) h2
        · rcases Int.lt_or_le y k with h3 | h3
          · exact ⟨h, h3⟩
          · exact absurd (List.any_eq_true.2 ⟨y, hy, by simp [outK, h3]⟩) h2
      have h3 : (closedD f [[]] k [[]] N).start = 0 := rfl
      rw [h3, run1 hN hcg u hu]
      simp
theorem even_cg (u v : List Int) (c : Nat) (h : evenF u = evenF v) : evenF (u ++ [(c : Int)]) = evenF (v ++ [(c : Int)]) := by
  unfold evenF at h ⊢
  rw [List.length_append, List.length_append]
  have h2 := decide_eq_decide.1 h
  apply decide_eq_decide.2
  simp
  omega
set_option maxHeartbeats 4000000 in
set_option maxRecDepth 100000 in
theorem lawLR (z : Int) (u : List Int) (a : Option Addr) (c : Nat) (w : World) (hs : Sl w (.slice a u.length c) (ints u)) (hn8 : u.length * 8 ≤ 140737488355328) :
    Calls Try.prog 3 #[.int .i64 z, .slice a u.length c] w fun e w' => e = .returned (.bool true) ∧ Below w.heap.size w w' := by
  obtain ⟨nu, HNU⟩ := nameIt u.length
  obtain ⟨w0, HW0⟩ := nameIt (w.alloc (.cells #[.slice a u.length c] 22))
  have hb0 : Below w.heap.size w w0 := by rw [← HW0.out]; exact (Below.refl _ _).alloc (Nat.le_refl _) _
  have hx0 : w0.heap[w.heap.size]? = some (.cells #[.slice a u.length c] 22 (0, 0)) := by rw [← HW0.out]; exact bx_new _ _ _ rfl
  have hs0 := hs.keep hb0
  rw [HNU.out] at HW0 hs0 hx0 hn8 ⊢
  have h1 := Int.tmod_lt_of_pos z (show (0 : Int) < 16 by decide)
  have h2 := Int.tmod_lt_of_pos (-z) (show (0 : Int) < 16 by decide)
  rw [Int.neg_tmod] at h2
  obtain ⟨m, HM⟩ := nameIt (z.tmod 16)
  have hm : z.tmod 16 = m := HM.out
  rw [hm] at h1 h2
  obtain ⟨k, hk0, hk⟩ : ∃ k : Nat, (m + 16).tmod 16 + 1 = (k : Int) ∧ 1 ≤ k ∧ k ≤ 16 := by
    have h3 := Int.tmod_lt_of_pos (m + 16) (show (0 : Int) < 16 by decide)
    have h4 := Int.tmod_nonneg 16 (show 0 ≤ m + 16 by omega)
    exact ⟨((m + 16).tmod 16 + 1).toNat, by omega, by omega, by omega⟩
  obtain ⟨m2, HM2⟩ := nameIt ((m + 16).tmod 16)
  have hm2 : (m + 16).tmod 16 = m2 := HM2.out
  rw [hm2] at hk0
  obtain ⟨N, HN⟩ : ∃ N, Hid (N = 200) := ⟨200, rfl⟩
  have hN2 : 2 ≤ N := by rw [HN.out]; omega
  have hv1 := wv_eq (f := fun _ => true) (k := 2) hN2 (fun _ _ _ _ => rfl) [0]
  have hv1' : wrongV (fun _ => true) ((2 : Nat) : Int) (closedD (fun _ => true) [[]] 2 [[]] N) [0] = 7 := by rw [hv1]; simp [outK]
  have hv2 := wv_eq (f := evenF) (k := k) hN2 even_cg u
  rw [HNU.out] at hv2
  have HO1 : Hid (∀ W, Calls Try.prog 4 #[.int .i64 2, .func (.func 5) #[] #[], .func (.func 6) #[] #[]] W fun e w' => e = .returned (.tuple #[.agg #[.int .i64 0, .slice none 0 0, .slice none 0 0], .int .i64 7]) ∧ Below W.heap.size W w') := fun W => by
    have h := ofNo 5 6 #[] #[] (fun _ => true) 2 (by omega) [0] 1 rfl (by omega) W (fun _ _ => rfl) (fun _ _ => rfl) (fun W' _ => ask1 W') (no2 W) N HN.out (by rw [hv1']; decide)
    rw [hv1'] at h
    exact h
  have HO2 : Hid (∀ W, Below w0.heap.size w0 W → Calls Try.prog 4 #[.int .i64 (k : Int), .func (.func 7) #[] #[], .func (.func 8) #[] #[.pointer (some ⟨w.heap.size, 0, none⟩)]] W fun e w' => e = .returned (.tuple #[.agg #[.int .i64 0, .slice none 0 0, .slice none 0 0], .int .i64 (if 2000 < nu then 2 else if u.any (outK k) = true then 1 else 7)]) ∧ Below W.heap.size W w') := fun W hb => by
    have h := ofNo 7 8 #[] #[.pointer (some ⟨w.heap.size, 0, none⟩)] evenF k hk u nu HNU.out hn8 W (fun _ _ => rfl) (fun _ _ => rfl) (fun W' _ => ask3 W') (no4 w.heap.size u nu a c W (bx_keep hx0 hb) (hs0.keep hb)) N HN.out (by rw [hv2]; split <;> (try split) <;> decide)
    rw [hv2] at h
    exact h
  obtain ⟨wv, HWV⟩ := nameIt (if 2000 < nu then (2 : Int) else if u.any (outK k) = true then 1 else 7)
  rw [HWV.out] at HO2
  obtain ⟨PST, HP⟩ := nameIt (fun (e : Ending) (w' : World) => e = .returned (.bool true) ∧ Below w.heap.size w w')
  have HFIN : Hid (∀ w', Below w.heap.size w w' → PST (.returned (.bool true)) w') := fun w' h => by rw [← HP.out]; exact ⟨rfl, h⟩
  rw [HP.out]
  have HB0 := Lib.hid hb0
  have HX0 := Lib.hid hx0
  have HSU := Lib.hid hs0
  clear hb0 hx0 hs0 hv1 hv1' hv2 HP hs
  go_enter Try.func3, Try.ntmps3
  go_upto_region 1 with fail
  rw [HW0.out]
  go_wp2_with fail
  with_reducible refine (HO1.out w0).mono ?_
  rintro e w1 ⟨rfl, hb1⟩
  obtain ⟨w2, HW2⟩ := nameIt (w1.alloc (.cells #[.int .i64 0, .slice none 0 0, .slice none 0 0] 25))
  have hb12 : Below w1.heap.size w1 w2 := by rw [← HW2.out]; exact (Below.refl _ _).alloc (Nat.le_refl _) _
  have hd2 : w2.heap[w1.heap.size]? = some (.cells #[.int .i64 0, .slice none 0 0, .slice none 0 0] 25 (0, 0)) := by rw [← HW2.out]; exact bx_new _ _ _ rfl
  have hb2 := hb1.trans (hb12.mono hb1.size)
  have HB2 := Lib.hid hb2
  have HD2 := Lib.hid hd2
  have HC2 := Lib.hid (HO2.out w2 hb2)
  have hlt : w.heap.size < w1.heap.size := Nat.lt_of_lt_of_le (Array.getElem?_eq_some_iff.1 HX0.out).1 hb1.size
  obtain ⟨x0, x1, x2⟩ := bx_cells3 hd2
  have hz1 := hb1.size
  obtain ⟨db, HDB⟩ := nameIt w1.heap.size
  rw [HDB.out] at x0 x1 x2 HD2 hlt hz1
  clear hb1 hb12 hd2 hb2
  go_upto_region 2 with fail
  rw [HW2.out, HDB.out]
  go_wp2_with fail
  with_reducible refine HC2.out.mono ?_
  rintro e w3 ⟨rfl, hb3⟩
  have HB3 := Lib.hid (HB2.out.trans (hb3.mono HB2.out.size))
  have hd3 := bx_keep HD2.out hb3
  have HD3 := Lib.hid hd3
  obtain ⟨y0, y1, y2⟩ := bx_cells3 hd3
  obtain ⟨f0, f1, f2⟩ := bx_free3 hd3
  obtain ⟨w4, HW4⟩ := nameIt (((w3.setCell ⟨db, 0, none⟩ (.int .i64 0)).setCell ⟨db, 1, none⟩ (.slice none 0 0)).setCell ⟨db, 2, none⟩ (.slice none 0 0))
  have HD4 : Hid (w4.heap[db]? = some (.cells #[.int .i64 0, .slice none 0 0, .slice none 0 0] 25 (0, 0))) := by rw [← HW4.out]; exact bx_set3 HD3.out _ _ _
  have HB4 : Hid (Below w0.heap.size w0 w4) := by
    show Below _ _ _
    rw [← HW4.out]
    exact ((HB3.out.setCell (p := ⟨db, 0, none⟩) hz1 _).setCell (p := ⟨db, 1, none⟩) hz1 _).setCell (p := ⟨db, 2, none⟩) hz1 _
  have v0 := bx_cells1 (bx_keep HX0.out HB4.out)
  have HS4 := Lib.hid (HSU.out.keep HB4.out)
  obtain ⟨z0, z1, z2⟩ := bx_cells3 HD4.out
  have HE := Lib.hid (fun q => HFIN.out (w4.drewN q) (HB0.out.trans ((HB4.out.trans ((below_drewN w4 q).mono HB4.out.size)).mono HB0.out.size)))
  have HE0 := Lib.hid (HFIN.out w4 (HB0.out.trans (HB4.out.mono HB0.out.size)))
  clear hb3 hd3 x0 x1 x2
  go_upto_region 6 with fail
  rw [HW4.out]
  clear y0 y1 y2 f0 f1 f2
  have hnb : nu ≤ 20000000000000 := by omega
  by_cases hl : 2000 < nu
  · have hl' : (2000 : Int) < (nu : Int) := by omega
    have hwv : 2 = wv := by rw [← HWV.out, if_pos hl]
    subst hwv
    go_wp2_with fail
    exact HE0.out
  · have hl' : ¬ (2000 : Int) < (nu : Int) := by omega
    have hwv : (if u.any (outK k) = true then (1 : Int) else 7) = wv := by rw [← HWV.out, if_neg hl]
    have HWV2 := Lib.hid hwv
    clear hwv
    go_wp2_with fail
    go_loopg [9, 46] nu (fun gg v9 v46 wr => ∃ i : Nat, i ≤ nu ∧ nu - i ≤ gg ∧ v46 = .int .i64 i ∧ Hid (∀ j (h : j < u.length), j < i → outK k u[j] = false) ∧ w4 = wr)
    case atStart => exact ⟨0, by omega, by omega, rfl, fun j _ h => by omega, rfl⟩
    case round =>
      obtain ⟨i, hi, hg, rfl, HO, rfl⟩ := hrel
      by_cases hin : i < nu
      · have hin' : (i : Int) < (nu : Int) := by omega
        have hi0 : (0 : Int) ≤ (i : Int) := by omega
        have hiu : i < u.length := by rw [HNU.out]; exact hin
        obtain ⟨ba, oa, hae, hca⟩ := HS4.out.at hin
        have c0 := hca i (by rw [ints_len]; exact hiu)
        rw [ints_get] at c0
        have hany : outK k u[i] = true → u.any (outK k) = true := fun h => List.any_eq_true.2 ⟨_, List.getElem_mem hiu, h⟩
        have hnext : outK k u[i] = false → ∀ j (h : j < u.length), j < i + 1 → outK k u[j] = false := fun h j hj hji => by
          by_cases e : j = i
          · subst e; exact h
          · exact HO.out j hj (by omega)
        obtain ⟨y, HY⟩ := nameIt (u[i]'hiu)
        rw [HY.out] at c0 hany hnext
        have HNX := Lib.hid hnext
        have HAN := Lib.hid hany
        subst hae
        clear hca hany hnext
        by_cases hy : y < 0
        · have hyd : decide (y < 0) = true := decide_eq_true hy
          have hwv : 1 = wv := by rw [← HWV2.out, if_pos (HAN.out (by simp [outK, hy]))]
          subst hwv
          go_wp2_with fail
          exact HE0.out
        · have hyd : decide (y < 0) = false := decide_eq_false hy
          by_cases hyk : (k : Int) ≤ y
          · have hyd2 : decide ((k : Int) ≤ y) = true := decide_eq_true hyk
            have hwv : 1 = wv := by rw [← HWV2.out, if_pos (HAN.out (by simp [outK, hyk]))]
            subst hwv
            go_wp2_with fail
            exact HE0.out
          · have hyd2 : decide ((k : Int) ≤ y) = false := decide_eq_false hyk
            have HO2 := Lib.hid (HNX.out (by simp [outK]; omega))
            clear hy hyk
            go_wp2_with fail
            go_roundg (nu - (i + 1))
            case measure => omega
            case rel => exact ⟨i + 1, by omega, by omega, by go_num, HO2, rfl⟩
      · obtain rfl : i = nu := by omega
        have hin' : ¬ (i : Int) < (i : Int) := by omega
        have hwv : 7 = wv := by
          rw [← HWV2.out, if_neg]
          intro h
          obtain ⟨y, hy, h2⟩ := List.any_eq_true.1 h
          obtain ⟨j, hj, rfl⟩ := List.getElem_of_mem hy
          rw [HO.out j hj (by rw [HNU.out] at hj; exact hj)] at h2
          cases h2
        subst hwv
        go_wp2_with fail
        exact HE0.out
theorem lawLRv (z : Int) (u : List Int) (v : Value) (w : World) (hs : Sl w v (ints u)) (hn : u.length * 8 ≤ 140737488351232) :
    Calls Try.prog 3 #[.int .i64 z, v] w fun e w' => e = .returned (.bool true) ∧ Below w.heap.size w w' := by
  obtain ⟨a, c, rfl⟩ := hs.form
  rw [ints_len] at hs ⊢
  exact lawLR z u a c w hs (by omega)
end Lr
end Go.Proofs.Ytgdfbjpahmnekaa
