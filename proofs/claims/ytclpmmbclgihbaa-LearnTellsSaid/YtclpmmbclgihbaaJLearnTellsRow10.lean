/- The contract of dfa.Canon. A teacher behind a pointer: Symbols, Asked. The contract of dfa.Run, Teacher.Member. learn.Of: by the answers of an automaton. -/
import Derived.Test.YtclpmmbclgihbaaJLearnTellsRow4
import Derived.Test.YtclpmmbclgihbaaJLearnTellsRow8
import Derived.Test.YtclpmmbclgihbaaJLearnTellsRow9
import Derived.Test.YtclpmmbclgihbaaJLearnTellsRow2
import Derived.BigQuiet
import Derived.Test.YtclpmmbclgihbaaJLearnTellsRow3
import Derived.Test.YtclpmmbclgihbaaJLearnTellsRow6
import Derived.Test.YtclpmmbclgihbaaJLearnTellsRow5
import Derived.Test.YtclpmmbclgihbaaJLearnTellsRow7
namespace Go.Proofs.Ytclpmmbclgihbaa
open Go.RowKit
namespace Df
open Km

theorem inv_setQ {md : Region.Mode} {ops : Array Oper} {n i : Nat} {listed : Array Bool} (inv : HeadInv md ops n listed) (hr : (Region.ready md ops listed).contains i = true) (hin : i < n) : HeadInv md ops n (listed.setIfInBounds i true) := inv.set (by simpa using hr) hin
def CanonPost (x : Dfa) (n : Nat) (w : World) (e : Ending) (w' : World) : Prop := ∃ (M : Nat → Bool) (j : Nat) (aa an : Option Addr) (ca cn : Nat), (∀ s, M s = true ↔ Liv x s) ∧ ptC x M n (j + 1) = ptC x M n j ∧
  e = .returned (.agg #[.int .i64 0, .slice aa (canonD x (ptI x M n (j + 1)) n).acc.length ca, .slice an (canonD x (ptI x M n (j + 1)) n).next.length cn]) ∧ Rd (fun q => w.heap.size ≤ q) w' (D.ints (canonD x (ptI x M n (j + 1)) n).acc) [.slice aa (canonD x (ptI x M n (j + 1)) n).acc.length ca] ∧ Rd (fun q => w.heap.size ≤ q) w' (.sl ((canonD x (ptI x M n (j + 1)) n).next.map D.ints)) [.slice an (canonD x (ptI x M n (j + 1)) n).next.length cn] ∧ Below w.heap.size w w'
set_option maxHeartbeats 8000000 in
set_option maxRecDepth 100000 in
theorem canonE (x : Dfa) (hx : Right x) (hlo : ∀ v ∈ x.acc, v ≤ 9223372036854775807) (aa an : Option Addr) (ca cn : Nat) (n : Nat) (hn : x.next.length = n) (w : World) (hA : Sl w (.slice aa n ca) (ints x.acc)) (hN : Rd AnyB w (.sl (x.next.map D.ints)) [.slice an n cn]) :
    Calls Try.prog 18 #[.agg #[.int .i64 x.start, .slice aa n ca, .slice an n cn]] w (CanonPost x n w) := by
  have h200 := hx.states
  have hacl := hx.accs
  have hst := hx.start
  have hsy := hx.syms
  rw [hn] at h200 hacl hst
  obtain ⟨hn0, hn2⟩ := h200
  obtain ⟨sn, hsn⟩ : ∃ sn : Nat, x.start = (sn : Int) := ⟨x.start.toNat, by omega⟩
  obtain ⟨w0, HW0⟩ := nameIt ((w.alloc (.cells #[.int .i64 (sn : Int), .slice aa n ca, .slice an n cn] 25)).alloc (.cells #[.int .i64 0, .slice none 0 0, .slice none 0 0] 25))
  have hb0 : Below w.heap.size w w0 := by rw [← HW0.out]; exact ((Below.refl _ _).alloc (Nat.le_refl _) _).alloc (by simp) _
  have HX0 : Hid (w0.heap[w.heap.size]? = some (.cells #[.int .i64 (sn : Int), .slice aa n ca, .slice an n cn] 25 (0, 0))) := by rw [← HW0.out]; exact bx_keep (bx_new _ _ _ rfl) ((Below.refl _ _).alloc (Nat.le_refl _) _)
  have HX1 : Hid (w0.heap[w.heap.size + 1]? = some (.cells #[.int .i64 0, .slice none 0 0, .slice none 0 0] 25 (0, 0))) := by rw [← HW0.out]; exact bx_new _ _ _ (by simp)
  have HB0 := Lib.hid hb0
  have HA0 := Lib.hid (hA.keep hb0)
  have HN0 := Lib.hid (hN.below hb0)
  have HPT := Lib.hid (partsE x hx hlo aa an ca cn n hn w0 HA0.out HN0.out)
  rw [hsn] at HPT hst
  have HXX := Lib.hid hx
  have HNN := Lib.hid hn
  have HSN := Lib.hid hsn
  have hsl : sn < n := by omega
  have hs0 : (0 : Int) ≤ (sn : Int) := by omega
  have hslI : (sn : Int) < (n : Int) := by omega
  obtain ⟨bn, on, vr, hae, c0, hrow⟩ := Rd.rowI_at HN0.out (i := 0) (by omega)
  obtain ⟨ar, kr, rfl⟩ := hrow.form
  rw [ints_len, width_at (by omega), Nat.add_zero] at c0
  obtain ⟨k, HWK⟩ := nameIt x.width
  rw [HWK.out] at c0 hsy
  obtain ⟨hk1, hk2⟩ := hsy
  subst hae
  obtain ⟨x0, x1, x2⟩ := bx_cells3 HX0.out
  have hn0I : (0 : Int) < (n : Int) := by omega
  obtain ⟨PST, HPS⟩ := nameIt (CanonPost x n w)
  have HFIN : Hid (∀ (M : Nat → Bool) (j : Nat) (aa an : Option Addr) (ca cn la lc : Nat) (P : Nat → Int) (w' : World), (∀ s, M s = true ↔ Liv x s) → ptC x M n (j + 1) = ptC x M n j → ptI x M n (j + 1) = P → la = (canonD x P n).acc.length → lc = (canonD x P n).next.length → Rd (fun q => w.heap.size ≤ q) w' (D.ints (canonD x P n).acc) [.slice aa la ca] → Rd (fun q => w.heap.size ≤ q) w' (.sl ((canonD x P n).next.map D.ints)) [.slice an lc cn] → Below w.heap.size w w' → PST (.returned (.agg #[.int .i64 0, .slice aa la ca, .slice an lc cn])) w') := by
    intro M j aa an ca cn la lc P w' h1 h2 h3 h4 h5 h6 h7 h8
    subst h3 h4 h5
    rw [← HPS.out]
    exact ⟨M, j, aa, an, ca, cn, h1, h2, rfl, h6, h7, h8⟩
  rw [HPS.out, hsn]
  clear hb0 hA hN hx hlo hn hsn hacl hst hrow HPS
  have hmk : ∀ W : World, (Instr.makeMap 58 none).run Try.prog W = .ok (.map (some W.heap.size)) (W.alloc (.map #[] 0)) := fun W => by
    simp [Instr.makeMap, run_underlying Try.underlying58]; try rfl
  have hms : ∀ W : World, (Instr.makeSlice 22 (.int .i64 (k : Int)) (.int .i64 (k : Int))).run Try.prog W = .ok (.slice (some ⟨W.heap.size, 0, none⟩) k k) (W.alloc (.cells (madeCells #[.int .i64 0] k) 3)) := fun W => by
    have := run_make_row' (P := Try.prog) 22 3 (.int .i64 0) 8 Try.underlying22 (by kernel_rfl) rfl .i64 .i64 k (by omega) (by omega) W
    simpa using this
  go_enter Try.func18, Try.ntmps18
  go_upto_region 1 with fail
  rw [HW0.out]
  go_wp2_with fail
  with_reducible refine HPT.out.mono ?_
  rintro e w1 ⟨pg, jj, M, rfl, hM, hjj, hpv, hpg, hb1⟩
  have HM := Lib.hid hM
  have HJJ := Lib.hid hjj
  have HPR : Hid (∀ s, s < n → -1 ≤ ptI x M n (jj + 1) s ∧ ptI x M n (jj + 1) s < n) := fun s hs => numP_range hs
  obtain ⟨P, HP⟩ := nameIt (ptI x M n (jj + 1))
  rw [HP.out] at HPR
  simp only [HP.out] at hpv
  have HPV := Lib.hid hpv
  have HPG := Lib.hid hpg
  have HB1 := Lib.hid hb1
  have v0 := hpv.cell hsl
  have hpr := HPR.out sn hsl
  obtain ⟨y0, y1, y2⟩ := bx_cells3 (bx_keep HX0.out hb1)
  have c1 := (hb1.cell (lt_of_cell c0)).trans c0
  obtain ⟨ps, HPSN⟩ := nameIt (P sn)
  rw [HPSN.out] at v0 hpr
  obtain ⟨z0, z1, z2⟩ := bx_cells3 (bx_keep HX1.out hb1)
  obtain ⟨f0, f1, f2⟩ := bx_free3 (bx_keep HX1.out hb1)
  clear hM hjj hpv hpg x0 x1 x2 c0 z0 z1 z2 f0 f1 f2
  by_cases hd : ps < 0
  · obtain ⟨l1, HL1⟩ := nameIt w1.heap.size
    obtain ⟨w2, HW2⟩ := nameIt ((w1.alloc (.cells #[.int .i64 (-1)] 3)).alloc (.cells #[.int .i64 (-1)] 3))
    have hb2 : Below w1.heap.size w1 w2 := by rw [← HW2.out]; exact ((Below.refl _ _).alloc (Nat.le_refl _) _).alloc (by simp) _
    have HA2 : Hid (w2.heap[l1]? = some (.cells #[.int .i64 (-1)] 3 (0, 0))) := by rw [← HW2.out]; exact bx_keep (bx_new _ _ _ HL1.out.symm) ((Below.refl _ _).alloc (Nat.le_refl _) _)
    have HR2 : Hid (w2.heap[l1 + 1]? = some (.cells #[.int .i64 (-1)] 3 (0, 0))) := by rw [← HW2.out]; exact bx_new _ _ _ (by simp; have := HL1.out; omega)
    have hs2 : Sl w2 (.slice (some ⟨l1 + 1, 0, none⟩) 1 1) (ints [-1]) := sl_lit1 HR2.out
    have HRP := Lib.hid (Cs.repE k hk1 (by omega) (-1) (some ⟨l1 + 1, 0, none⟩) 1 w2 hs2)
    have HB2 := Lib.hid hb2
    have hcd : canonD x P n = ⟨0, [-1], [List.replicate k (-1)]⟩ := by unfold canonD; rw [HSN.out, Int.toNat_natCast, HPSN.out, if_pos hd, HWK.out]
    have HCD := Lib.hid hcd
    clear hb2 hs2 hb1 hcd
    go_upto_region 4 with fail
    go_wp2_with fail
    rw [HL1.out, HW2.out]
    with_reducible refine HRP.out.mono ?_
    rintro e w3 ⟨p, rfl, hvr, hp, hb3⟩
    have HW3 : Hid (Rd (fun q => w.heap.size ≤ q ∧ q ≠ w.heap.size + 1) w3 (D.ints (List.replicate k (-1))) [.slice (some ⟨p, 0, none⟩) k k]) := rd_vrow hvr (by simp) (by unfold maxLen; omega) (by have h2 := HB2.out.size; have h1 := HB1.out.size; have h3 : w.heap.size + 1 < w0.heap.size := lt_of_cell (bx_cells3 HX1.out).1; show w.heap.size ≤ p ∧ p ≠ _; omega) (fun q _ => by simp)
    have hx3 := bx_keep HX1.out (HB1.out.trans ((HB2.out.trans (hb3.mono HB2.out.size)).mono HB1.out.size))
    obtain ⟨z0, z1, z2⟩ := bx_cells3 hx3
    obtain ⟨f0, f1, f2⟩ := bx_free3 hx3
    have HX3 := Lib.hid hx3
    have HA3 := Lib.hid (bx_keep HA2.out hb3)
    have HB3 := Lib.hid hb3
    have hlt3 := lt_of_cell z0
    clear hvr hp hb3 hx3
    go_wp2_with fail
    obtain ⟨w5, HW5⟩ := nameIt (((w3.setCell ⟨w.heap.size + 1, 0, none⟩ (.int .i64 0)).setCell ⟨w.heap.size + 1, 1, none⟩ (.slice (some ⟨l1, 0, none⟩) 1 1)).setCell ⟨w.heap.size + 1, 2, none⟩ (.slice (some ⟨w3.heap.size, 0, none⟩) 1 1))
    have hs5 : w5.heap.size = w3.heap.size := by rw [← HW5.out]; simp [World.setCell]
    have hl1 : w.heap.size + 1 < l1 := by have h1 : w.heap.size + 1 < w0.heap.size := lt_of_cell (bx_cells3 HX1.out).1; have h2 := HB1.out.size; have h3 : w1.heap.size = l1 := HL1.out; show _ < _; omega
    have h3s := HB3.out.size
    have h23 := HB2.out.size
    have h01 := HB1.out.size
    have h1l : w1.heap.size = l1 := HL1.out
    have hx5 : w5.heap[w.heap.size + 1]? = some (.cells #[.int .i64 0, .slice (some ⟨l1, 0, none⟩) 1 1, .slice (some ⟨w3.heap.size, 0, none⟩) 1 1] 25 (0, 0)) := by
      rw [← HW5.out]; exact bx_set3 HX3.out _ _ _
    have ha5 : w5.heap[l1]? = some (.cells #[.int .i64 (-1)] 3 (0, 0)) := by
      rw [← HW5.out]; exact bx_other3 HA3.out (by omega) _ _ _
    have hr5 : Rd (fun q => w.heap.size ≤ q ∧ q ≠ w.heap.size + 1) w5 (D.ints (List.replicate k (-1))) [.slice (some ⟨p, 0, none⟩) k k] := by
      rw [← HW5.out]; exact Rd.keep (fun q hq hl => ⟨hq, (grown_box3 (w.heap.size + 1) w3 _ _ _).block q hl (fun e => hq.2 (Option.some.inj e))⟩) _ _ HW3.out
    have hb5 : Below w.heap.size w w5 := by
      rw [← HW5.out]
      exact (((HB0.out.trans ((HB1.out.trans ((HB2.out.trans (HB3.out.mono h23)).mono h01)).mono HB0.out.size)).setCell (p := ⟨w.heap.size + 1, 0, none⟩) (by show _ ≤ w.heap.size + 1; omega) _).setCell (p := ⟨w.heap.size + 1, 1, none⟩) (by show _ ≤ w.heap.size + 1; omega) _).setCell (p := ⟨w.heap.size + 1, 2, none⟩) (by show _ ≤ w.heap.size + 1; omega) _
    rw [HW5.out]
    have hb6 : Below w5.heap.size w5 (w5.alloc (.cells #[.slice (some ⟨p, 0, none⟩) k k] 22)) := (Below.refl _ _).alloc (Nat.le_refl _) _
    have hx6 := bx_keep hx5 hb6
    obtain ⟨j0, j1, j2⟩ := bx_cells3 hx6
    refine bodyPost_ret (v := .agg #[.int .i64 0, .slice (some ⟨l1, 0, none⟩) 1 1, .slice (some ⟨w3.heap.size, 0, none⟩) 1 1]) (by simp [results, Try.results18, go_sem, j0, j1, j2]) rfl ?_
    refine HFIN.out M jj _ _ 1 1 1 1 P _ HM.out HJJ.out HP.out (by rw [HCD.out]; rfl) (by rw [HCD.out]; rfl) (by rw [HCD.out]; exact rd_lit1 (d := .int (-1)) (bx_keep ha5 hb6) (by show _ ≤ _; omega) rfl) ?_ (hb5.trans (hb6.mono hb5.size))
    rw [HCD.out]
    have hbn : (w5.alloc (.cells #[.slice (some ⟨p, 0, none⟩) k k] 22)).heap[w3.heap.size]? = some (.cells #[.slice (some ⟨p, 0, none⟩) k k] 22 (0, 0)) := bx_new _ _ _ hs5.symm
    exact rd_lit1 hbn (by show _ ≤ _; omega) ((hr5.below hb6).mono fun q hq _ => hq.1)
  · have hd' : (0 : Int) ≤ ps := by omega
    have hpb := hpr.2
    have HPW := Lib.hid hpr
    obtain ⟨ob, HOB⟩ := nameIt w1.heap.size
    have HPO : Hid (pg < ob) := by show _ < _; have := HPV.out.lt; have := HOB.out; omega
    obtain ⟨w2, HW2⟩ := nameIt ((w1.alloc (.cells #[.int .i64 0, .slice none 0 0, .slice none 0 0] 25)).alloc (.map #[] 0))
    have hb2 : Below w1.heap.size w1 w2 := by rw [← HW2.out]; exact ((Below.refl _ _).alloc (Nat.le_refl _) _).alloc (by simp) _
    have hbx2 : w2.heap[ob]? = some (.cells #[.int .i64 0, .slice none 0 0, .slice none 0 0] 25 (0, 0)) := by rw [← HW2.out]; exact bx_keep (bx_new _ _ _ HOB.out.symm) ((Below.refl _ _).alloc (Nat.le_refl _) _)
    have hkm2 : KMap 3 3 (ob + 1) (fun _ => none) 0 w2 := by rw [← HW2.out]; exact KMap.start _ (by simp; exact HOB.out.symm)
    obtain ⟨w3, hup, hkm3, hg3⟩ := hkm2.store intKc Try.underlying58 (by unfold maxLen; omega) (keyIc (v := ps) (by omega)) (velInt (n := 0) (by decide))
    have hb3 : Below w1.heap.size w1 w3 := hb2.grown hg3 hb2.size (fun q e => by cases e; have := HOB.out; omega)
    have hbx3 : w3.heap[ob]? = some (.cells #[.int .i64 0, .slice none 0 0, .slice none 0 0] 25 (0, 0)) := (hg3.block ob (Array.getElem?_eq_some_iff.1 hbx2).1 (by simp)).trans hbx2
    have hml := hkm3.lt
    obtain ⟨s3, HS3⟩ := nameIt w3.heap.size
    have hb34 : Below w3.heap.size w3 (w3.alloc (.cells #[.int .i64 (sn : Int)] 3)) := (Below.refl _ _).alloc (Nat.le_refl _) _
    have e0 : disc x P 0 = [sn] := by show [x.start.toNat] = _; rw [HSN.out, Int.toNat_natCast]
    have HC4 : Hid (CanI x n P w0 pg ob 0 (.slice (some ⟨s3, 0, none⟩) 1 1) (.slice none 0 0) (.slice none 0 0) (w3.alloc (.cells #[.int .i64 (sn : Int)] 3))) := by
      have h1l : w1.heap.size = ob := HOB.out
      have h3l : w3.heap.size = s3 := HS3.out
      have hpo := HPO.out
      refine ⟨⟨(HB1.out.trans (hb3.mono HB1.out.size)).trans (hb34.mono (Nat.le_trans HB1.out.size hb3.size)), ⟨HPG.out, by omega⟩, (HPV.out.keep hb3).keep hb34, ?_, ?_⟩, bx_keep hbx3 hb34, ?_, hpo⟩
      · rw [e0]
        refine (hkm3.keep hb34).eq fun l => ?_
        have h := fC_put (P := P) (S := []) (t := sn) (by simp) l
        rw [fC_nil, HPSN.out] at h
        exact h
      · rw [e0, ← h3l]
        exact World.ownsRow_lit (e := 3) (size := 1) w3 #[.int .i64 (sn : Int)] 1 (by omega) (by decide) (by rfl)
      · have hpx := PX.nil (fun q => (Value.slice (some ⟨s3, 0, none⟩) 1 1).ownBlock = some q) (ob + 1 + 1) (w3.alloc (.cells #[.int .i64 (sn : Int)] 3)) [] 0 (by simp; omega) (fun q e => by
          have e2 : s3 = q := by simpa [Value.ownBlock] using e
          simp; omega)
        exact hpx
    obtain ⟨w4, HW4⟩ := nameIt (w3.alloc (.cells #[.int .i64 (sn : Int)] 3))
    rw [HW4.out] at HC4
    have c3 := hb3.cell (lt_of_cell y0)
    have c3' := c3.trans y0
    have c4 := (hb3.cell (lt_of_cell v0)).trans v0
    have c5 := (hb2.cell (lt_of_cell v0)).trans v0
    have c6 := (hb2.cell (lt_of_cell y0)).trans y0
    clear hb1 hb2 hbx2 hkm2 hkm3 hg3 hb3 hbx3 hb34 e0 c3 hml
    have hup' : (Instr.mapUpdate 58 (.map (some (w1.heap.size + 1))) (.int .i64 ps) (.int .i64 0)).run Try.prog ((w1.alloc (.cells #[.int .i64 0, .slice none 0 0, .slice none 0 0] 25)).alloc (.map #[] 0)) = .ok () w3 := by rw [HW2.out, HOB.out]; exact hup
    have hl1 := lt_of_cell y0
    have hl2 := lt_of_cell v0
    clear hup c5 c6
    go_upto_region 8 with fail
    rw [HS3.out, HW4.out, HOB.out]
    clear hup' hl1 hl2 c3' c4
    go_wp2_with fail
    have HDO : Hid (∀ i, DiscOk x P n (disc x P i)) := disc_ok (fun q hq => (HPR.out q hq).2) ⟨fun s' hs' => by
      rw [HSN.out, Int.toNat_natCast] at hs'
      simp at hs'
      subst hs'
      rw [HPSN.out]; exact ⟨hsl, hd', hpb⟩, by simp⟩ (fun s' t' ht' => by
      rw [List.getD_eq_getElem?_getD] at ht'
      by_cases hl : s' < x.next.length
      · rw [List.getElem?_eq_getElem hl] at ht'
        have := (HXX.out.next _ (List.getElem_mem hl) t' ht').2
        rw [HNN.out] at this; exact this
      · rw [List.getElem?_eq_none (by omega)] at ht'; simp at ht')
    go_loopg [7, 8, 9, 10, 11, 12, 13] n (fun gg v7 v8 v9 v10 v11 v12 v13 wr => ∃ (i sg cp L : Nat) (vR vA : Value), i ≤ L ∧ i ≤ n ∧ n - i ≤ gg ∧ v8 = .int .i64 i ∧ v7 = .slice (some ⟨sg, 0, none⟩) L cp ∧ Hid ((disc x P i).length = L) ∧ Hid (∀ q, q < i → q < (disc x P q).length) ∧ Hid (CanI x n P w0 pg ob i v7 vR vA wr))
    case atStart => exact ⟨0, s3, 1, 1, _, _, by omega, by omega, by omega, rfl, rfl, rfl, fun q h => by omega, HC4⟩
    case round =>
      clear HC4 v0 y0 y1 y2 c1
      obtain ⟨i, sg, cp, L, vR, vA, hiL, hin, hg, rfl, rfl, HL, HAL, HC⟩ := hrel
      obtain ⟨wo, rfl⟩ : ∃ ww : World, ww = wr := ⟨_, rfl⟩
      by_cases hlt : i < L
      · have hlt' : (i : Int) < (L : Int) := by omega
        have hi0 : (0 : Int) ≤ (i : Int) := by omega
        have hil : i < (disc x P i).length := by rw [HL.out]; exact hlt
        have hs := List.getElem?_eq_getElem hil
        obtain ⟨s, HS⟩ := nameIt ((disc x P i)[i]'hil)
        rw [HS.out] at hs
        obtain ⟨hsn, hs1, hs2⟩ := (HDO.out i).lt s (by rw [← HS.out]; exact List.getElem_mem hil)
        have hsnI : (s : Int) < (n : Int) := by omega
        have hsz0 : (0 : Int) ≤ (s : Int) := by omega
        have hsx : s < x.next.length := by rw [HNN.out]; exact hsn
        have hgd : x.next.getD s [] = x.next[s] := by rw [List.getD_eq_getElem?_getD, List.getElem?_eq_getElem hsx]; rfl
        obtain ⟨b', o', vr', hae', d0, hrw⟩ := Rd.rowI_at HN0.out hsx
        cases hae'
        have hrl := HXX.out.rows _ (List.getElem_mem hsx)
        have HTR := Lib.hid (fun c (h : c < x.next[s].length) => HXX.out.next _ (List.getElem_mem hsx) _ (List.getElem_mem h))
        obtain ⟨r, HR⟩ := nameIt x.next[s]
        simp only [HR.out] at hgd d0 hrw hrl HTR
        obtain ⟨ai, ki, rfl⟩ := hrw.form
        rw [HWK.out] at hrl
        rw [ints_len, hrl] at d0 hrw
        have hcs : wo.cell? ⟨sg, i, none⟩ = some (.int .i64 (s : Int)) := by
          obtain ⟨bb, oo, e1, e2⟩ := (sl_of_own HC.out.cn.st).at (k := i) hlt
          cases e1
          have h1 := e2 i (by rw [ints_len, nats_len]; exact hil)
          rw [ints_get] at h1
          simp only [nats, List.getElem_map] at h1
          rw [HS.out, Nat.zero_add] at h1
          exact h1
        have hbel := HC.out.cn.bel
        have d1 := (hbel.cell (lt_of_cell d0)).trans d0
        obtain ⟨z0, z1, z2⟩ := bx_cells3 (bx_keep HX0.out hbel)
        obtain ⟨g9, HG9⟩ := nameIt wo.heap.size
        have HR0 := Lib.hid (HC.out.begin HG9.out.symm k r)
        obtain ⟨wA, HWA⟩ := nameIt (wo.alloc (.cells (madeCells #[.int .i64 0] k) 3))
        have hbA : Below wo.heap.size wo wA := by rw [← HWA.out]; exact (Below.refl _ _).alloc (Nat.le_refl _) _
        rw [HWA.out] at HR0
        have d2 := (hbA.cell (lt_of_cell d1)).trans d1
        have cs2 := (hbA.cell (lt_of_cell hcs)).trans hcs
        have y2 := (hbA.cell (lt_of_cell z2)).trans z2
        have HDR := Lib.hid hrw
        have HGD := Lib.hid hgd
        have HSI := Lib.hid hs
        have HRL := Lib.hid hrl
        have HDT := Lib.hid (fun c => foldS_ok (x := x) (n := n) (P := P) (fun q hq => (HPR.out q hq).2) (r.take c) (disc x P i) (fun t' ht' => by
          have h1 := List.mem_of_mem_take ht'
          obtain ⟨q, hq, e⟩ := List.getElem_of_mem h1
          have := (HTR.out q hq).2
          rw [e, HNN.out] at this; exact this) (HDO.out i))
        have HPF := Lib.hid (fun c => foldS_prefix P (r.take c) (disc x P i))
        have HRWL : Hid ((rowsC x P i).length = i) := by show _ = _; unfold rowsC; rw [List.length_map, List.length_take]; omega
        have HACL : Hid ((accsC x P i).length = i) := by show _ = _; unfold accsC; rw [List.length_map, List.length_take]; omega
        obtain ⟨S0, HS0⟩ := nameIt (disc x P i)
        simp only [HS0.out] at HDT HPF HSI
        obtain ⟨LR, HLR⟩ := nameIt (rowsC x P i)
        obtain ⟨LA, HLA⟩ := nameIt (accsC x P i)
        rw [HS0.out, HLR.out, HLA.out] at HR0
        rw [HS0.out] at HL
        clear hs hbel hbA d0 d1 hcs z0 z1 z2 hrw hgd hrl
        go_upto_region 12 with fail
        rw [HWA.out, HG9.out]
        go_quiet (fail)
        have HR1 := Lib.hid (RwM.keep HR0.out (below_drewN wA nq))
        go_wp2_with fail
        clear HR0
        go_loopg [7, 10, 11, 12, 13, 60] k (fun gg u7 u10 u11 u12 u13 u60 wr => ∃ (c sg cp L : Nat), c ≤ k ∧ k - c ≤ gg ∧ u60 = .int .i64 c ∧ u7 = .slice (some ⟨sg, 0, none⟩) L cp ∧ Hid ((sT P r S0 c).length = L) ∧ Hid (RwI n P w0 pg ob g9 k r S0 LR LA vR vA c u7 wr))
        case atStart => exact ⟨0, sg, cp, L, by omega, by omega, rfl, rfl, HL, HR1⟩
        case round =>
          clear HR1 d2 cs2 y2
          obtain ⟨c, sg, cp, L, hc, hgg, rfl, rfl, HL, HRI⟩ := hrel
          obtain ⟨w5, rfl⟩ : ∃ ww : World, ww = wr := ⟨_, rfl⟩
          by_cases hck : c < k
          · have hck' : (c : Int) < (k : Int) := by omega
            have hc0 : (0 : Int) ≤ (c : Int) := by omega
            have hcr : c < r.length := by rw [HRL.out]; exact hck
            obtain ⟨b6, o6, hae6, hca⟩ := (HDR.out.keep HRI.out.cn.bel).at hck
            have t0 := hca c (by rw [ints_len]; exact hcr)
            rw [ints_get] at t0
            have htr := HTR.out c hcr
            have hgr : r.getD c 0 = r[c] := by rw [List.getD_eq_getElem?_getD, List.getElem?_eq_getElem hcr]; rfl
            have hnx := sT_next (P := P) (S0 := S0) hcr
            obtain ⟨q0, qf⟩ := HRI.out.at hck
            have HM := Lib.hid (HRI.out.store hck (-1))
            obtain ⟨t, HT⟩ := nameIt (r[c]'hcr)
            rw [HT.out] at t0 htr hgr hnx
            rw [HNN.out] at htr
            have HNX := Lib.hid hnx
            have HGR := Lib.hid hgr
            subst hae6
            have hg9l := HM.out.cn.lo
            obtain ⟨w6, HW6⟩ := nameIt (w5.setCell ⟨g9, c, none⟩ (.int .i64 (-1)))
            rw [HW6.out] at HM
            have HDD : Hid (deadP P t → RwI n P w0 pg ob g9 k r S0 LR LA vR vA (c + 1) (.slice (some ⟨sg, 0, none⟩) L cp) w6) := fun hdd =>
              HM.out.fin hck HRL.out (by rw [HNX.out]; unfold stepS; rw [if_pos (.inl hdd)]) (by rw [HGR.out]; unfold valS; rw [if_pos hdd])
            have HLD : Hid (deadP P t → (sT P r S0 (c + 1)).length = L) := fun hdd => by rw [HNX.out]; unfold stepS; rw [if_pos (.inl hdd)]; exact HL.out
            clear hca hgr hnx
            go_upto_region 16 with fail
            rw [HW6.out]
            clear t0 q0 qf
            by_cases ht0 : t < 0
            · have HR7 := Lib.hid (HDD.out (.inl ht0))
              have HL7 := Lib.hid (HLD.out (.inl ht0))
              have htd : decide (t < 0) = true := decide_eq_true ht0
              clear htr
              go_wp2_with fail
              go_roundg (k - (c + 1))
              case measure => omega
              case rel => exact ⟨c + 1, sg, cp, L, by omega, by omega, by go_num, rfl, HL7, HR7⟩
            · obtain ⟨tn, htn⟩ : ∃ tn : Nat, t = (tn : Int) := ⟨t.toNat, by omega⟩
              subst htn
              have htl : tn < n := by omega
              have htI : (tn : Int) < (n : Int) := by omega
              have htp : (0 : Int) ≤ (tn : Int) := by omega
              have htd : decide ((tn : Int) < 0) = false := decide_eq_false ht0
              have p0 := HM.out.cn.prt.cell htl
              have hpt := HPR.out tn htl
              obtain ⟨pt, HPT⟩ := nameIt (P tn)
              rw [HPT.out] at p0 hpt
              clear ht0 htr
              by_cases hp0 : pt < 0
              · have hdd : deadP P (tn : Int) := .inr (by rw [Int.toNat_natCast, HPT.out]; exact hp0)
                have HR7 := Lib.hid (HDD.out hdd)
                have HL7 := Lib.hid (HLD.out hdd)
                have hpd : decide (pt < 0) = true := decide_eq_true hp0
                clear hdd
                go_wp2_with fail
                go_roundg (k - (c + 1))
                case measure => omega
                case rel => exact ⟨c + 1, sg, cp, L, by omega, by omega, by go_num, rfl, HL7, HR7⟩
              · have hpd : decide (pt < 0) = false := decide_eq_false hp0
                have hpt0 : 0 ≤ pt ∧ pt ≤ 1000 := by omega
                have hnd : ¬ deadP P (tn : Int) := by unfold deadP; rw [Int.toNat_natCast, HPT.out]; omega
                have hkey := keyIc hpt0
                have hlook := HM.out.cn.kmp.look intKc Try.underlying58 hkey
                obtain ⟨q0, qf⟩ := HM.out.at hck
                have HND := Lib.hid hnd
                by_cases hin : P tn ∈ (sT P r S0 c).map P
                · have e1 := (hlook.1 (((sT P r S0 c).map P).idxOf (P tn) : Int) (by simp only [FC]; rw [← HPT.out, if_pos hin])).1
                  have hst : sT P r S0 c = sT P r S0 (c + 1) := by rw [HNX.out]; unfold stepS; rw [if_pos (.inr (by rw [Int.toNat_natCast]; exact hin))]
                  have HR7 := Lib.hid ((HM.out.store hck (((sT P r S0 c).map P).idxOf (P tn) : Int)).fin hck HRL.out hst (by rw [HGR.out]; unfold valS; rw [if_neg HND.out, Int.toNat_natCast]))
                  have HL7 : Hid ((sT P r S0 (c + 1)).length = L) := by rw [← hst]; exact HL
                  obtain ⟨z, HZ⟩ := nameIt (((sT P r S0 c).map P).idxOf (P tn) : Int)
                  rw [HZ.out] at e1 HR7
                  clear hst hlook hkey hin hp0 hnd
                  go_wp2_with fail
                  go_roundg (k - (c + 1))
                  case measure => omega
                  case rel => exact ⟨c + 1, sg, cp, L, by omega, by omega, by go_num, rfl, HL7, HR7⟩
                · have e1 := hlook.2 (by simp only [FC]; rw [← HPT.out, if_neg hin])
                  have hst : sT P r S0 c ++ [tn] = sT P r S0 (c + 1) := by rw [HNX.out]; unfold stepS; rw [if_neg (fun h => h.elim HND.out (fun h => hin (by rw [Int.toNat_natCast] at h; exact h))), Int.toNat_natCast]
                  have hll : L + 1 ≤ n := by have h := (HDT.out (c + 1)).len; rw [show List.foldl (stepS P) S0 (r.take (c + 1)) = sT P r S0 (c + 1) from rfl, ← hst, List.length_append, HL.out] at h; exact h
                  obtain ⟨w7, hup, hk7, hg7⟩ := HM.out.cn.kmp.store intKc Try.underlying58 (by rw [HL.out]; unfold maxLen; omega) hkey (velInt (n := (L : Int)) (by simp [Lit.wf, IntKind.min, IntKind.max, IntKind.signed, IntKind.bits]; omega))
                  have HK7 : Hid (KMap 3 3 (ob + 1) (put (FC P (sT P r S0 c)) (.int .i64 (P tn)) (.int .i64 ((sT P r S0 c).length : Int))) ((sT P r S0 c).length + 1) w7) := by
                    rw [show (FC P (sT P r S0 c) (Lit.int .i64 pt)).isSome = false by simp only [FC]; rw [← HPT.out, if_neg hin]; rfl] at hk7
                    rw [HPT.out, HL.out]; rw [HL.out] at hk7; exact hk7
                  have HG7 := Lib.hid hg7
                  have HOW : Hid (w7.ownsRow (ob + 1 + 1) 3 1 (.slice (some ⟨sg, 0, none⟩) L cp) L (ints (nats (sT P r S0 c)))) := by
                    have h := HM.out.cn.st
                    rw [HL.out] at h
                    have h2 := h.lt
                    exact own_blk h fun g e => hg7.block g (h2 g e).2 (fun e2 => by have := (h2 g e).1; cases e2; omega)
                  have HSZ7 : Hid (ob + 1 + 1 ≤ w7.heap.size) := by
                    show _ ≤ _
                    have h2 := (HOW.out.lt sg rfl)
                    omega
                  have HIN := Lib.hid hin
                  have HST := Lib.hid hst
                  clear hst hlook hkey hin hp0 hnd hk7 hg7
                  go_wp2_with (at_builtin; refine wp_app1at elInt rfl _ _ rfl HOW.out rfl rfl (by simp) rfl rfl (by omega) (by unfold maxLen; omega) HSZ7.out ?_)
                  intro v' w8 ho hg8 hat
                  have hM8 := HM.out.add HIN.out HK7.out HG7.out (by rw [HL.out]; exact ho) hg8 hat
                  obtain ⟨g8, k8, rfl, -, -, -, -, -⟩ := own_at ho hat
                  obtain ⟨q0, qf⟩ := hM8.at hck
                  have HR9 := Lib.hid ((hM8.store hck (L : Int)).fin hck HRL.out HST.out (by
                    rw [HGR.out]; unfold valS; rw [if_neg HND.out, Int.toNat_natCast, List.map_append, List.idxOf_append, if_neg HIN.out]
                    simp [HL.out]))
                  have HL9 : Hid ((sT P r S0 (c + 1)).length = L + 1) := by rw [← HST.out, List.length_append, HL.out]; rfl
                  clear ho hg8 hat hM8 e1 hup
                  go_wp2_with fail
                  go_roundg (k - (c + 1))
                  case measure => omega
                  case rel => exact ⟨c + 1, _, _, _, by omega, by omega, by go_num, rfl, HL9, HR9⟩
          · obtain rfl : k = c := by omega
            have hck' : ¬ (k : Int) < (k : Int) := by omega
            have hsac : s < x.acc.length := by have h := HXX.out.accs; rw [HNN.out] at h; rw [h]; exact hsn
            have hil2 : i < (sT P r S0 k).length := Nat.lt_of_lt_of_le (by rw [← HS0.out]; exact hil) (HPF.out k).length_le
            have hin2 : i < n := Nat.lt_of_lt_of_le hil (HDO.out i).len
            have hiL2 : i < L := by rw [← HL.out]; exact hil2
            have hiI : (i : Int) < (L : Int) := by omega
            obtain ⟨ba, oa, hae2, hca⟩ := (HA0.out.keep HRI.out.cn.bel).at (k := s) hsn
            have cA := hca s (by rw [ints_len]; exact hsac)
            rw [ints_get] at cA
            have hgA : x.acc.getD s 0 = x.acc[s] := by rw [List.getD_eq_getElem?_getD, List.getElem?_eq_getElem hsac]; rfl
            obtain ⟨m, HMN⟩ := nameIt (x.acc[s]'hsac)
            rw [HMN.out] at cA hgA
            have cS : w5.cell? ⟨sg, i, none⟩ = some (.int .i64 (s : Int)) := by
              obtain ⟨bb, oo, e1, e2⟩ := (sl_of_own HRI.out.cn.st).at (k := i) hiL2
              cases e1
              have h1 := e2 i (by rw [ints_len, nats_len]; exact hil2)
              have h3 := get_prefix (HPF.out k) HSI.out
              obtain ⟨h4, h5⟩ := List.getElem?_eq_some_iff.1 h3
              rw [ints_get] at h1
              simp only [nats, List.getElem_map] at h1
              rw [show (sT P r S0 k)[i]'hil2 = s from h5, Nat.zero_add] at h1
              exact h1
            have hwhole := HRI.out.whole HRL.out (by unfold maxLen; omega) m
            have hxb := bx_keep HX0.out HRI.out.cn.bel
            have hbx := HRI.out.bx
            have hml := HRI.out.cn.kmp.lt
            obtain ⟨xs0, ow1, -⟩ := hwhole.rows
            obtain ⟨aR, cR, rfl, -, -⟩ := own_len ow1
            obtain ⟨aA, cA', rfl, -, -⟩ := own_len hwhole.acc
            rw [← HLR.out, HRWL.out, ← HLA.out, HACL.out] at hbx
            have HLRI : Hid (LR.length = i) := by show _ = _; rw [← HLR.out]; exact HRWL.out
            have HLAI : Hid (LA.length = i) := by show _ = _; rw [← HLA.out]; exact HACL.out
            have hPI := hwhole
            rw [HLRI.out, HLAI.out] at hPI
            obtain ⟨NR, HNR⟩ := nameIt (r.map (valS P (sT P r S0 k)))
            rw [HNR.out] at hPI
            have HPI := Lib.hid hPI
            have HBX := Lib.hid hbx
            have hblt := lt_of_cell (bx_cells3 hbx).1
            have HNEXT : Hid (∀ (W : World) (vR' vA' : Value), PX (fun q => (Value.slice (some ⟨sg, 0, none⟩) L cp).ownBlock = some q) (ob + 1 + 1) w5 NR m (LR ++ [NR]) (LA ++ [m]) vR' vA' none none none W → CanI x n P w0 pg ob (i + 1) (.slice (some ⟨sg, 0, none⟩) L cp) vR' vA' ((W.setCell ⟨ob, 2, none⟩ vR').setCell ⟨ob, 1, none⟩ vA')) := by
              intro W vR' vA' hp
              have h := HRI.out
              rw [← HS0.out, ← HLR.out, ← HLA.out] at h
              refine CanI.next h (s := s) (by rw [HS0.out]; exact HSI.out) HGD.out HRL.out HAL.out (r' := NR) (m := m) ?_
              rw [HS0.out, HLR.out, HLA.out, HNR.out, hgA]
              exact hp
            have HDN : Hid ((disc x P (i + 1)).length = L) := by
              show _ = _
              rw [← HL.out]
              show (match (disc x P i)[i]? with | none => disc x P i | some s => (x.next.getD s []).foldl (stepS P) (disc x P i)).length = _
              rw [HS0.out, HSI.out]
              show (List.foldl (stepS P) S0 (x.next.getD s [])).length = _
              rw [HGD.out]
              unfold sT
              rw [← HRL.out, List.take_length]
            have HAL2 : Hid (∀ q, q < i + 1 → q < (disc x P q).length) := fun q hq => by
              by_cases e : q = i
              · rw [e]; exact hil
              · exact HAL.out q (by omega)
            have HS2 : Hid (∀ W, Below (ob + 1 + 1) w5 W → W.heap[sg]? = w5.heap[sg]? → (fun w' => w'.cell? ⟨ob, 0 + 2, none⟩ = some (.slice aR i cR) ∧ w'.cell? ⟨ob, 0 + 1, none⟩ = some (.slice aA i cA') ∧ w'.cell? ⟨w.heap.size, 0 + 1, none⟩ = some (.slice (some ⟨ba, oa, none⟩) n ca) ∧ w'.cell? ⟨ba, oa + s, none⟩ = some (.int .i64 m) ∧ w'.cell? ⟨sg, i, none⟩ = some (.int .i64 (s : Int))) W) := by
              intro W hb hsgb
              have h0 := HRI.out.cn.lo
              have hws : w.heap.size < w0.heap.size := lt_of_cell (bx_cells3 HX0.out).1
              have hbs : ba < ob + 1 + 1 := by
                obtain ⟨ba', oa', e, h⟩ := HA0.out.at (k := s) hsn
                have := lt_of_cell (h s (by rw [ints_len]; exact hsac))
                rw [hae2] at e; cases e
                have h9 : ba < w0.heap.size := this
                omega
              have e3 := (hb.block ob (by omega)).trans HBX.out
              have e1 := (hb.block w.heap.size (by omega)).trans hxb
              obtain ⟨y0, y1, y2⟩ := bx_cells3 e3
              obtain ⟨z0, z1, z2⟩ := bx_cells3 e1
              rw [hae2] at z1
              exact ⟨y2, y1, z1, (hb.cell (p := ⟨ba, oa + s, none⟩) hbs).trans cA, cellBlk hsgb cS⟩
            subst hae2
            have HHR := HPI
            have hsz3 : ob + 1 + 1 ≤ w5.heap.size := hwhole.le
            clear hwhole hPI hbx hxb hca cA cS ow1 hgA hml hblt
            go_upto_region 24 with fail
            refine wp_region_U (S := (fun w' => w'.cell? ⟨ob, 0 + 2, none⟩ = some (.slice aR i cR) ∧ w'.cell? ⟨ob, 0 + 1, none⟩ = some (.slice aA i cA') ∧ w'.cell? ⟨w.heap.size, 0 + 1, none⟩ = some (.slice (some ⟨ba, oa, none⟩) n ca) ∧ w'.cell? ⟨ba, oa + s, none⟩ = some (.int .i64 m) ∧ w'.cell? ⟨sg, i, none⟩ = some (.int .i64 (s : Int)))) 18 (by kernel_rfl) (fun inv => ?_)
            refine wpU_take (i := 0) (v := .pointer (some ⟨ob, 0 + 2, none⟩)) rfl inv (by kernel_rfl) (by kernel_rfl) (by decide) (by decide) (by kernel_rfl) (by kernel_rfl) (by kernel_rfl) (fun _ _ _ h => h) (Or.inl ⟨by rfl, fun w' hw' => ?_⟩) (HS2.out _ (Below.refl _ _).drew rfl) (fun inv => ?_)
            · obtain ⟨h0, h1, h2, h3, h4⟩ := hw'
              go_simp
            try simp only [Act.put, List.setIfInBounds_toArray, List.set_cons_zero, List.set_cons_succ]
            refine wpU_take (i := 1) (v := .slice aR i cR) rfl inv (by kernel_rfl) (by kernel_rfl) (by decide) (by decide) (by kernel_rfl) (by kernel_rfl) (by kernel_rfl) (fun _ _ _ h => h) (Or.inl ⟨by rfl, fun w' hw' => ?_⟩) (HS2.out _ (Below.refl _ _).drew rfl) (fun inv => ?_)
            · obtain ⟨h0, h1, h2, h3, h4⟩ := hw'
              go_simp
            try simp only [Act.put, List.setIfInBounds_toArray, List.set_cons_zero, List.set_cons_succ]
            refine wpU_take (i := 2) (v := .slice (some ⟨g9, 0, none⟩) k k) rfl inv (by kernel_rfl) (by kernel_rfl) (by decide) (by decide) (by kernel_rfl) (by kernel_rfl) (by kernel_rfl) (fun _ _ _ h => h) (Or.inl ⟨by rfl, fun w' hw' => ?_⟩) (HS2.out _ (Below.refl _ _).drew rfl) (fun inv => ?_)
            · obtain ⟨h0, h1, h2, h3, h4⟩ := hw'
              go_simp
            try simp only [Act.put, List.setIfInBounds_toArray, List.set_cons_zero, List.set_cons_succ]
            refine wpU_take (i := 5) (v := .pointer (some ⟨ob, 0 + 1, none⟩)) rfl inv (by kernel_rfl) (by kernel_rfl) (by decide) (by decide) (by kernel_rfl) (by kernel_rfl) (by kernel_rfl) (fun _ _ _ h => h) (Or.inl ⟨by rfl, fun w' hw' => ?_⟩) (HS2.out _ (Below.refl _ _).drew rfl) (fun inv => ?_)
            · obtain ⟨h0, h1, h2, h3, h4⟩ := hw'
              go_simp
            try simp only [Act.put, List.setIfInBounds_toArray, List.set_cons_zero, List.set_cons_succ]
            refine wpU_take (i := 6) (v := .slice aA i cA') rfl inv (by kernel_rfl) (by kernel_rfl) (by decide) (by decide) (by kernel_rfl) (by kernel_rfl) (by kernel_rfl) (fun _ _ _ h => h) (Or.inl ⟨by rfl, fun w' hw' => ?_⟩) (HS2.out _ (Below.refl _ _).drew rfl) (fun inv => ?_)
            · obtain ⟨h0, h1, h2, h3, h4⟩ := hw'
              go_simp
            try simp only [Act.put, List.setIfInBounds_toArray, List.set_cons_zero, List.set_cons_succ]
            refine wpU_take (i := 7) (v := .pointer (some ⟨w.heap.size, 0 + 1, none⟩)) rfl inv (by kernel_rfl) (by kernel_rfl) (by decide) (by decide) (by kernel_rfl) (by kernel_rfl) (by kernel_rfl) (fun _ _ _ h => h) (Or.inl ⟨by rfl, fun w' hw' => ?_⟩) (HS2.out _ (Below.refl _ _).drew rfl) (fun inv => ?_)
            · obtain ⟨h0, h1, h2, h3, h4⟩ := hw'
              go_simp
            try simp only [Act.put, List.setIfInBounds_toArray, List.set_cons_zero, List.set_cons_succ]
            refine wpU_take (i := 8) (v := .slice (some ⟨ba, oa, none⟩) n ca) rfl inv (by kernel_rfl) (by kernel_rfl) (by decide) (by decide) (by kernel_rfl) (by kernel_rfl) (by kernel_rfl) (fun _ _ _ h => h) (Or.inl ⟨by rfl, fun w' hw' => ?_⟩) (HS2.out _ (Below.refl _ _).drew rfl) (fun inv => ?_)
            · obtain ⟨h0, h1, h2, h3, h4⟩ := hw'
              go_simp
            try simp only [Act.put, List.setIfInBounds_toArray, List.set_cons_zero, List.set_cons_succ]
            refine wpU_take (i := 9) (v := .slice (some ⟨sg, 0, none⟩) L cp) rfl inv (by kernel_rfl) (by kernel_rfl) (by decide) (by decide) (by kernel_rfl) (by kernel_rfl) (by kernel_rfl) (fun _ _ _ h => h) (Or.inl ⟨by rfl, fun w' hw' => ?_⟩) (HS2.out _ (Below.refl _ _).drew rfl) (fun inv => ?_)
            · obtain ⟨h0, h1, h2, h3, h4⟩ := hw'
              go_simp
            try simp only [Act.put, List.setIfInBounds_toArray, List.set_cons_zero, List.set_cons_succ]
            refine wpU_take (i := 10) (v := .int .i64 (i : Int)) rfl inv (by kernel_rfl) (by kernel_rfl) (by decide) (by decide) (by kernel_rfl) (by kernel_rfl) (by kernel_rfl) (fun _ _ _ h => h) (Or.inl ⟨by rfl, fun w' hw' => ?_⟩) (HS2.out _ (Below.refl _ _).drew rfl) (fun inv => ?_)
            · obtain ⟨h0, h1, h2, h3, h4⟩ := hw'
              go_simp
            try simp only [Act.put, List.setIfInBounds_toArray, List.set_cons_zero, List.set_cons_succ]
            refine wpU_take (i := 11) (v := .pointer (some ⟨sg, i, none⟩)) rfl inv (by kernel_rfl) (by kernel_rfl) (by decide) (by decide) (by kernel_rfl) (by kernel_rfl) (by kernel_rfl) (fun _ _ _ h => h) (Or.inl ⟨by rfl, fun w' hw' => ?_⟩) (HS2.out _ (Below.refl _ _).drew rfl) (fun inv => ?_)
            · obtain ⟨h0, h1, h2, h3, h4⟩ := hw'
              go_simp
            try simp only [Act.put, List.setIfInBounds_toArray, List.set_cons_zero, List.set_cons_succ]
            refine wpU_take (i := 12) (v := .int .i64 (s : Int)) rfl inv (by kernel_rfl) (by kernel_rfl) (by decide) (by decide) (by kernel_rfl) (by kernel_rfl) (by kernel_rfl) (fun _ _ _ h => h) (Or.inl ⟨by rfl, fun w' hw' => ?_⟩) (HS2.out _ (Below.refl _ _).drew rfl) (fun inv => ?_)
            · obtain ⟨h0, h1, h2, h3, h4⟩ := hw'
              go_simp
            try simp only [Act.put, List.setIfInBounds_toArray, List.set_cons_zero, List.set_cons_succ]
            refine wpU_take (i := 13) (v := .pointer (some ⟨ba, oa + s, none⟩)) rfl inv (by kernel_rfl) (by kernel_rfl) (by decide) (by decide) (by kernel_rfl) (by kernel_rfl) (by kernel_rfl) (fun _ _ _ h => h) (Or.inl ⟨by rfl, fun w' hw' => ?_⟩) (HS2.out _ (Below.refl _ _).drew rfl) (fun inv => ?_)
            · obtain ⟨h0, h1, h2, h3, h4⟩ := hw'
              go_simp
            try simp only [Act.put, List.setIfInBounds_toArray, List.set_cons_zero, List.set_cons_succ]
            refine wpU_take (i := 14) (v := .int .i64 m) rfl inv (by kernel_rfl) (by kernel_rfl) (by decide) (by decide) (by kernel_rfl) (by kernel_rfl) (by kernel_rfl) (fun _ _ _ h => h) (Or.inl ⟨by rfl, fun w' hw' => ?_⟩) (HS2.out _ (Below.refl _ _).drew rfl) (fun inv => ?_)
            · obtain ⟨h0, h1, h2, h3, h4⟩ := hw'
              go_simp
            try simp only [Act.put, List.setIfInBounds_toArray, List.set_cons_zero, List.set_cons_succ]
            have HP0 : Hid (PX (fun q => (Value.slice (some ⟨sg, 0, none⟩) L cp).ownBlock = some q) (ob + 1 + 1) w5 NR m LR LA (.slice aR i cR) (.slice aA i cA') (some (.slice (some ⟨g9, 0, none⟩) k k)) none none w5.drew) := HPI.out.keep (Below.refl _ _).drew
            refine wpU_two (i := 3) (j := 15) (by kernel_rfl) rfl rfl (fun K hK => ?_) (fun K hK => ?_)
            · replace inv := inv_setQ (i := 3) inv (by kernel_rfl) (by decide)
              go_simp
              have HP11 := Lib.hid ((HPI.out.bltB (g := w5.heap.size) rfl).keep (Below.refl _ _).drew)
              obtain ⟨w11, HW11⟩ := nameIt (w5.alloc (.cells #[.slice (some ⟨g9, 0, none⟩) k k] 22)).drew
              rw [HW11.out] at HP11 ⊢
              refine hK.out _ _ (fun _ => HS2.out _ HP11.out.bel (HP11.out.px sg rfl).2) ?_
              clear hK K
              try simp only [Act.put, List.setIfInBounds_toArray, List.set_cons_zero, List.set_cons_succ]
              refine wpU_two (i := 4) (j := 15) (by kernel_rfl) rfl rfl (fun K hK => ?_) (fun K hK => ?_)
              · replace inv := inv_setQ (i := 4) inv (by kernel_rfl) (by decide)
                obtain ⟨xs12, hx12, hy12⟩ := HP11.out.rows
                obtain ⟨hT12, v12, hv12, hbx12⟩ := HP11.out.bB _ rfl
                cases hv12
                rw [HLRI.out] at hx12
                refine step_appB elIntsP (by rfl) _ _ (by rfl) hx12 (by rfl) (by rfl) hbx12 (by rfl) (by rfl) (by omega) (by unfold maxLen; omega) HP11.out.size ?_
                intro g12 c12 w12 ho12 hg12 hat12 hlt12
                have HP12 := Lib.hid (HP11.out.appR (N := LR ++ [NR]) hy12 (by rw [HLRI.out]; exact ho12) hg12 (at_lies hat12) rfl)
                clear hx12 hy12 hT12 hbx12 ho12 hg12 hat12 hlt12
                refine hK.out _ _ (fun _ => HS2.out _ HP12.out.bel (HP12.out.px sg rfl).2) ?_
                clear hK K
                try simp only [Act.put, List.setIfInBounds_toArray, List.set_cons_zero, List.set_cons_succ]
                refine wpU_take (i := 17) (v := .pointer (some ⟨ob, 0 + 2, none⟩)) rfl inv (by kernel_rfl) (by kernel_rfl) (by decide) (by decide) (by kernel_rfl) (by kernel_rfl) (by kernel_rfl) (fun _ _ _ h => h) (Or.inl ⟨by rfl, fun w' hw' => ?_⟩) (HS2.out _ HP12.out.bel (HP12.out.px sg rfl).2) (fun inv => ?_)
                · obtain ⟨h0, h1, h2, h3, h4⟩ := hw'
                  go_simp
                try simp only [Act.put, List.setIfInBounds_toArray, List.set_cons_zero, List.set_cons_succ]
                refine wpU_one (i := 15) (by kernel_rfl) rfl (fun K hK => ?_)
                replace inv := inv_setQ (i := 15) inv (by kernel_rfl) (by decide)
                go_simp
                have HP13 := Lib.hid (HP12.out.bltA (g := w12.heap.size) rfl)
                obtain ⟨w13, HW13⟩ := nameIt (w12.alloc (.cells #[.int .i64 m] 3))
                rw [HW13.out] at HP13 ⊢
                refine hK.out _ _ (fun _ => HS2.out _ HP13.out.bel (HP13.out.px sg rfl).2) ?_
                clear hK K
                try simp only [Act.put, List.setIfInBounds_toArray, List.set_cons_zero, List.set_cons_succ]
                refine wpU_one (i := 16) (by kernel_rfl) rfl (fun K hK => ?_)
                replace inv := inv_setQ (i := 16) inv (by kernel_rfl) (by decide)
                have hx14 := HP13.out.acc
                obtain ⟨hT14, hbx14⟩ := HP13.out.bA _ rfl
                rw [HLAI.out] at hx14
                refine step_appB elInt (by rfl) _ _ (by rfl) hx14 (by rfl) (by rfl) hbx14 (by rfl) (by rfl) (by omega) (by unfold maxLen; omega) HP13.out.size ?_
                intro g14 c14 w14 ho14 hg14 hat14 hlt14
                have HP14 := Lib.hid (HP13.out.appA (N := LA ++ [m]) (by rw [HLAI.out]; exact ho14) hg14 (at_lies hat14) rfl)
                clear hx14 hT14 hbx14 ho14 hg14 hat14 hlt14
                refine hK.out _ _ (fun _ => HS2.out _ HP14.out.bel (HP14.out.px sg rfl).2) ?_
                clear hK K
                try simp only [Act.put, List.setIfInBounds_toArray, List.set_cons_zero, List.set_cons_succ]
                have HNX := Lib.hid (HNEXT.out _ _ _ HP14.out)
                have Z3 := (HP14.out.bel.block ob (by omega)).trans HBX.out
                obtain ⟨y0, y1, y2⟩ := bx_cells3 Z3
                obtain ⟨f0, f1, f2⟩ := bx_free3 Z3
                clear Z3
                refine wpU_one (i := 18) (by kernel_rfl) rfl (fun K hK => ?_)
                go_simp
                refine hK.out _ _ (fun h => absurd (show true = false from h) (by decide)) ?_
                clear hK K
                try simp only [Act.put, List.setIfInBounds_toArray, List.set_cons_zero, List.set_cons_succ]
                refine wpU_one (i := 19) (by kernel_rfl) rfl (fun K hK => ?_)
                go_simp
                refine hK.out _ _ (fun h => absurd (show true = false from h) (by decide)) ?_
                clear hK K
                try simp only [Act.put, List.setIfInBounds_toArray, List.set_cons_zero, List.set_cons_succ]
                refine wpU_one (i := 20) (by kernel_rfl) rfl (fun K hK => ?_)
                go_simp
                refine hK.out _ _ (fun h => absurd (show true = false from h) (by decide)) ?_
                clear hK K
                try simp only [Act.put, List.setIfInBounds_toArray, List.set_cons_zero, List.set_cons_succ]
                refine wpU_done (by kernel_rfl) ?_ _
                go_wp2_with fail
                go_roundg (n - (i + 1))
                case measure => omega
                case rel => exact ⟨i + 1, sg, cp, L, _, _, by omega, by omega, by omega, by go_num, rfl, HDN, HAL2, HNX⟩
              · replace inv := inv_setQ (i := 15) inv (by kernel_rfl) (by decide)
                go_simp
                have HP15 := Lib.hid (HP11.out.bltA (g := w11.heap.size) rfl)
                obtain ⟨w15, HW15⟩ := nameIt (w11.alloc (.cells #[.int .i64 m] 3))
                rw [HW15.out] at HP15 ⊢
                refine hK.out _ _ (fun _ => HS2.out _ HP15.out.bel (HP15.out.px sg rfl).2) ?_
                clear hK K
                try simp only [Act.put, List.setIfInBounds_toArray, List.set_cons_zero, List.set_cons_succ]
                refine wpU_one (i := 4) (by kernel_rfl) rfl (fun K hK => ?_)
                replace inv := inv_setQ (i := 4) inv (by kernel_rfl) (by decide)
                obtain ⟨xs16, hx16, hy16⟩ := HP15.out.rows
                obtain ⟨hT16, v16, hv16, hbx16⟩ := HP15.out.bB _ rfl
                cases hv16
                rw [HLRI.out] at hx16
                refine step_appB elIntsP (by rfl) _ _ (by rfl) hx16 (by rfl) (by rfl) hbx16 (by rfl) (by rfl) (by omega) (by unfold maxLen; omega) HP15.out.size ?_
                intro g16 c16 w16 ho16 hg16 hat16 hlt16
                have HP16 := Lib.hid (HP15.out.appR (N := LR ++ [NR]) hy16 (by rw [HLRI.out]; exact ho16) hg16 (at_lies hat16) rfl)
                clear hx16 hy16 hT16 hbx16 ho16 hg16 hat16 hlt16
                refine hK.out _ _ (fun _ => HS2.out _ HP16.out.bel (HP16.out.px sg rfl).2) ?_
                clear hK K
                try simp only [Act.put, List.setIfInBounds_toArray, List.set_cons_zero, List.set_cons_succ]
                refine wpU_take (i := 17) (v := .pointer (some ⟨ob, 0 + 2, none⟩)) rfl inv (by kernel_rfl) (by kernel_rfl) (by decide) (by decide) (by kernel_rfl) (by kernel_rfl) (by kernel_rfl) (fun _ _ _ h => h) (Or.inl ⟨by rfl, fun w' hw' => ?_⟩) (HS2.out _ HP16.out.bel (HP16.out.px sg rfl).2) (fun inv => ?_)
                · obtain ⟨h0, h1, h2, h3, h4⟩ := hw'
                  go_simp
                try simp only [Act.put, List.setIfInBounds_toArray, List.set_cons_zero, List.set_cons_succ]
                refine wpU_one (i := 16) (by kernel_rfl) rfl (fun K hK => ?_)
                replace inv := inv_setQ (i := 16) inv (by kernel_rfl) (by decide)
                have hx17 := HP16.out.acc
                obtain ⟨hT17, hbx17⟩ := HP16.out.bA _ rfl
                rw [HLAI.out] at hx17
                refine step_appB elInt (by rfl) _ _ (by rfl) hx17 (by rfl) (by rfl) hbx17 (by rfl) (by rfl) (by omega) (by unfold maxLen; omega) HP16.out.size ?_
                intro g17 c17 w17 ho17 hg17 hat17 hlt17
                have HP17 := Lib.hid (HP16.out.appA (N := LA ++ [m]) (by rw [HLAI.out]; exact ho17) hg17 (at_lies hat17) rfl)
                clear hx17 hT17 hbx17 ho17 hg17 hat17 hlt17
                refine hK.out _ _ (fun _ => HS2.out _ HP17.out.bel (HP17.out.px sg rfl).2) ?_
                clear hK K
                try simp only [Act.put, List.setIfInBounds_toArray, List.set_cons_zero, List.set_cons_succ]
                have HNX := Lib.hid (HNEXT.out _ _ _ HP17.out)
                have Z3 := (HP17.out.bel.block ob (by omega)).trans HBX.out
                obtain ⟨y0, y1, y2⟩ := bx_cells3 Z3
                obtain ⟨f0, f1, f2⟩ := bx_free3 Z3
                clear Z3
                refine wpU_one (i := 18) (by kernel_rfl) rfl (fun K hK => ?_)
                go_simp
                refine hK.out _ _ (fun h => absurd (show true = false from h) (by decide)) ?_
                clear hK K
                try simp only [Act.put, List.setIfInBounds_toArray, List.set_cons_zero, List.set_cons_succ]
                refine wpU_one (i := 19) (by kernel_rfl) rfl (fun K hK => ?_)
                go_simp
                refine hK.out _ _ (fun h => absurd (show true = false from h) (by decide)) ?_
                clear hK K
                try simp only [Act.put, List.setIfInBounds_toArray, List.set_cons_zero, List.set_cons_succ]
                refine wpU_one (i := 20) (by kernel_rfl) rfl (fun K hK => ?_)
                go_simp
                refine hK.out _ _ (fun h => absurd (show true = false from h) (by decide)) ?_
                clear hK K
                try simp only [Act.put, List.setIfInBounds_toArray, List.set_cons_zero, List.set_cons_succ]
                refine wpU_done (by kernel_rfl) ?_ _
                go_wp2_with fail
                go_roundg (n - (i + 1))
                case measure => omega
                case rel => exact ⟨i + 1, sg, cp, L, _, _, by omega, by omega, by omega, by go_num, rfl, HDN, HAL2, HNX⟩
            · replace inv := inv_setQ (i := 15) inv (by kernel_rfl) (by decide)
              go_simp
              have HP18 := Lib.hid ((HPI.out.bltA (g := w5.heap.size) rfl).keep (Below.refl _ _).drew)
              obtain ⟨w18, HW18⟩ := nameIt (w5.alloc (.cells #[.int .i64 m] 3)).drew
              rw [HW18.out] at HP18 ⊢
              refine hK.out _ _ (fun _ => HS2.out _ HP18.out.bel (HP18.out.px sg rfl).2) ?_
              clear hK K
              try simp only [Act.put, List.setIfInBounds_toArray, List.set_cons_zero, List.set_cons_succ]
              refine wpU_one (i := 3) (by kernel_rfl) rfl (fun K hK => ?_)
              replace inv := inv_setQ (i := 3) inv (by kernel_rfl) (by decide)
              go_simp
              have HP19 := Lib.hid (HP18.out.bltB (g := w18.heap.size) rfl)
              obtain ⟨w19, HW19⟩ := nameIt (w18.alloc (.cells #[.slice (some ⟨g9, 0, none⟩) k k] 22))
              rw [HW19.out] at HP19 ⊢
              refine hK.out _ _ (fun _ => HS2.out _ HP19.out.bel (HP19.out.px sg rfl).2) ?_
              clear hK K
              try simp only [Act.put, List.setIfInBounds_toArray, List.set_cons_zero, List.set_cons_succ]
              refine wpU_one (i := 4) (by kernel_rfl) rfl (fun K hK => ?_)
              replace inv := inv_setQ (i := 4) inv (by kernel_rfl) (by decide)
              obtain ⟨xs20, hx20, hy20⟩ := HP19.out.rows
              obtain ⟨hT20, v20, hv20, hbx20⟩ := HP19.out.bB _ rfl
              cases hv20
              rw [HLRI.out] at hx20
              refine step_appB elIntsP (by rfl) _ _ (by rfl) hx20 (by rfl) (by rfl) hbx20 (by rfl) (by rfl) (by omega) (by unfold maxLen; omega) HP19.out.size ?_
              intro g20 c20 w20 ho20 hg20 hat20 hlt20
              have HP20 := Lib.hid (HP19.out.appR (N := LR ++ [NR]) hy20 (by rw [HLRI.out]; exact ho20) hg20 (at_lies hat20) rfl)
              clear hx20 hy20 hT20 hbx20 ho20 hg20 hat20 hlt20
              refine hK.out _ _ (fun _ => HS2.out _ HP20.out.bel (HP20.out.px sg rfl).2) ?_
              clear hK K
              try simp only [Act.put, List.setIfInBounds_toArray, List.set_cons_zero, List.set_cons_succ]
              refine wpU_take (i := 17) (v := .pointer (some ⟨ob, 0 + 2, none⟩)) rfl inv (by kernel_rfl) (by kernel_rfl) (by decide) (by decide) (by kernel_rfl) (by kernel_rfl) (by kernel_rfl) (fun _ _ _ h => h) (Or.inl ⟨by rfl, fun w' hw' => ?_⟩) (HS2.out _ HP20.out.bel (HP20.out.px sg rfl).2) (fun inv => ?_)
              · obtain ⟨h0, h1, h2, h3, h4⟩ := hw'
                go_simp
              try simp only [Act.put, List.setIfInBounds_toArray, List.set_cons_zero, List.set_cons_succ]
              refine wpU_one (i := 16) (by kernel_rfl) rfl (fun K hK => ?_)
              replace inv := inv_setQ (i := 16) inv (by kernel_rfl) (by decide)
              have hx21 := HP20.out.acc
              obtain ⟨hT21, hbx21⟩ := HP20.out.bA _ rfl
              rw [HLAI.out] at hx21
              refine step_appB elInt (by rfl) _ _ (by rfl) hx21 (by rfl) (by rfl) hbx21 (by rfl) (by rfl) (by omega) (by unfold maxLen; omega) HP20.out.size ?_
              intro g21 c21 w21 ho21 hg21 hat21 hlt21
              have HP21 := Lib.hid (HP20.out.appA (N := LA ++ [m]) (by rw [HLAI.out]; exact ho21) hg21 (at_lies hat21) rfl)
              clear hx21 hT21 hbx21 ho21 hg21 hat21 hlt21
              refine hK.out _ _ (fun _ => HS2.out _ HP21.out.bel (HP21.out.px sg rfl).2) ?_
              clear hK K
              try simp only [Act.put, List.setIfInBounds_toArray, List.set_cons_zero, List.set_cons_succ]
              have HNX := Lib.hid (HNEXT.out _ _ _ HP21.out)
              have Z3 := (HP21.out.bel.block ob (by omega)).trans HBX.out
              obtain ⟨y0, y1, y2⟩ := bx_cells3 Z3
              obtain ⟨f0, f1, f2⟩ := bx_free3 Z3
              clear Z3
              refine wpU_one (i := 18) (by kernel_rfl) rfl (fun K hK => ?_)
              go_simp
              refine hK.out _ _ (fun h => absurd (show true = false from h) (by decide)) ?_
              clear hK K
              try simp only [Act.put, List.setIfInBounds_toArray, List.set_cons_zero, List.set_cons_succ]
              refine wpU_one (i := 19) (by kernel_rfl) rfl (fun K hK => ?_)
              go_simp
              refine hK.out _ _ (fun h => absurd (show true = false from h) (by decide)) ?_
              clear hK K
              try simp only [Act.put, List.setIfInBounds_toArray, List.set_cons_zero, List.set_cons_succ]
              refine wpU_one (i := 20) (by kernel_rfl) rfl (fun K hK => ?_)
              go_simp
              refine hK.out _ _ (fun h => absurd (show true = false from h) (by decide)) ?_
              clear hK K
              try simp only [Act.put, List.setIfInBounds_toArray, List.set_cons_zero, List.set_cons_succ]
              refine wpU_done (by kernel_rfl) ?_ _
              go_wp2_with fail
              go_roundg (n - (i + 1))
              case measure => omega
              case rel => exact ⟨i + 1, sg, cp, L, _, _, by omega, by omega, by omega, by go_num, rfl, HDN, HAL2, HNX⟩
      · have hlt' : ¬ (i : Int) < (L : Int) := by omega
        obtain rfl : i = L := by omega
        have HEND := rowsC_end (x := x) (P := P) (n := n) (i := i) (by rw [HL.out]; exact Nat.le_refl _) hin
        obtain ⟨xs, o1, o2⟩ := HC.out.px.rows
        obtain ⟨aR, cR, rfl, -, -⟩ := own_len o1
        obtain ⟨aA, cA', rfl, -, -⟩ := own_len HC.out.px.acc
        have hbx := HC.out.bx
        have hpl := HC.out.cn.lo
        have hws : w.heap.size + 1 < w0.heap.size := lt_of_cell (bx_cells3 HX1.out).1
        have hrd : Rd (fun q => w.heap.size ≤ q ∧ q ≠ w.heap.size + 1) wo (.sl ((rowsC x P i).map D.ints)) [.slice aR (rowsC x P i).length cR] := rd_of_own o1 (o2.mono fun q hq _ => by have := hq.1; show w.heap.size ≤ q ∧ q ≠ _; omega) (by simp) (fun q e => by have := (o1.lt q e).1; show w.heap.size ≤ q ∧ q ≠ _; omega)
        have hac := HC.out.px.acc
        have hcn : canonD x P n = ⟨0, accsC x P i, rowsC x P i⟩ := by unfold canonD; rw [HSN.out, Int.toNat_natCast, HPSN.out, if_neg (show ¬ ps < 0 by omega), HEND.1, HEND.2]
        have hbw := HB0.out.trans (HC.out.cn.bel.mono HB0.out.size)
        have hx1 := bx_keep HX1.out HC.out.cn.bel
        have HRD := Lib.hid hrd
        have HAC := Lib.hid hac
        have HCN := Lib.hid hcn
        have HBW := Lib.hid hbw
        have HX1B := Lib.hid hx1
        obtain ⟨kR, HKR⟩ := nameIt (rowsC x P i).length
        obtain ⟨kA, HKA⟩ := nameIt (accsC x P i).length
        rw [HKR.out, HKA.out] at hbx
        rw [HKR.out] at HRD
        rw [HKA.out] at HAC
        obtain ⟨y0, y1, y2⟩ := bx_cells3 hbx
        obtain ⟨z0, z1, z2⟩ := bx_cells3 hx1
        obtain ⟨f0, f1, f2⟩ := bx_free3 hx1
        clear hrd hac hcn hbw hx1 o1 HEND hbx
        go_wp2_with fail
        have hx6 := bx_set3 HX1B.out (.int .i64 0) (.slice aA kA cA') (.slice aR kR cR)
        obtain ⟨j0, j1, j2⟩ := bx_cells3 hx6
        refine bodyPost_ret (v := .agg #[.int .i64 0, .slice aA kA cA', .slice aR kR cR]) (by simp [results, Try.results18, go_sem, j0, j1, j2]) rfl ?_
        refine HFIN.out M jj _ _ cA' cR kA kR P _ HM.out HJJ.out HP.out (by rw [HCN.out]; exact HKA.out.symm) (by rw [HCN.out]; exact HKR.out.symm) ?_ ?_ (((HBW.out.setCell (p := ⟨w.heap.size + 1, 0, none⟩) (by show _ ≤ w.heap.size + 1; omega) _).setCell (p := ⟨w.heap.size + 1, 1, none⟩) (by show _ ≤ w.heap.size + 1; omega) _).setCell (p := ⟨w.heap.size + 1, 2, none⟩) (by show _ ≤ w.heap.size + 1; omega) _)
        · rw [HCN.out]
          exact rd_of_own (ds := (accsC x P i).map D.int) (own_blk HAC.out fun g e => (grown_box3 (w.heap.size + 1) wo _ _ _).block g (HAC.out.lt g e).2 (fun e2 => by have := (HAC.out.lt g e).1; cases e2; omega)) ((rdAll_ints _ _).2 rfl) (by rw [List.length_map]; exact HKA.out) (fun q e => by have := (HAC.out.lt q e).1; show _ ≤ q; omega)
        · rw [HCN.out]
          exact (Rd.keep (fun q hq hl => ⟨hq, (grown_box3 (w.heap.size + 1) wo _ _ _).block q hl (fun e => hq.2 (Option.some.inj e))⟩) _ _ HRD.out).mono fun q hq _ => hq.1
end Df
end Go.Proofs.Ytclpmmbclgihbaa
namespace Go.Proofs.Ytclpmmbclgihbaa
open Go.RowKit
namespace Df

end Df
end Go.Proofs.Ytclpmmbclgihbaa
namespace Go.Proofs.Ytclpmmbclgihbaa
open Go.RowKit
namespace Df

/-- an automaton that lies in memory -/
structure DfA (x : Dfa) (aa an : Option Addr) (ca cn : Nat) (w : World) : Prop where
  A : Sl w (.slice aa x.acc.length ca) (ints x.acc)
  N : Rd AnyB w (.sl (x.next.map D.ints)) [.slice an x.next.length cn]
theorem DfA.below {x : Dfa} {aa an : Option Addr} {ca cn : Nat} {w w' : World} (h : DfA x aa an ca cn w) (hb : Below w.heap.size w w') : DfA x aa an ca cn w' := ⟨h.A.keep hb, h.N.below hb⟩
end Df
end Go.Proofs.Ytclpmmbclgihbaa
namespace Go.Proofs.Ytclpmmbclgihbaa
open Go.RowKit
namespace Lr
open Df Km Cl

theorem inv_setO {md : Region.Mode} {ops : Array Oper} {n i : Nat} {listed : Array Bool} (inv : HeadInv md ops n listed) (hr : (Region.ready md ops listed).contains i = true) (hin : i < n) : HeadInv md ops n (listed.setIfInBounds i true) := inv.set (by simpa using hr) hin
def EqPost (Dt y : Dfa) (W : World) (e : Ending) (w' : World) : Prop := Below W.heap.size W w' ∧ ((∃ (u : List Nat) (a : Option Addr) (n cap : Nat), LeastW Dt y u ∧ e = .returned (.tuple #[.bool false, .slice a n cap]) ∧ Sl w' (.slice a n cap) (ints (castW u))) ∨ (SameL Dt y Dt.start y.start ∧ ∃ (a : Option Addr) (n cap : Nat), e = .returned (.tuple #[.bool true, .slice a n cap])))
/-- a function that compares with Dt -/
def EqFn (ef : Nat) (elb : Array Value) (Dt : Dfa) (w : World) : Prop := ∀ (W : World) (y : Dfa) (aa an : Option Addr) (ca cn : Nat), Right y → y.width = Dt.width → y.start = 0 → DfA y aa an ca cn W → Below w.heap.size w W → Calls Try.prog ef (#[.agg #[.int .i64 0, .slice aa y.acc.length ca, .slice an y.next.length cn]] ++ elb) W (EqPost Dt y W)
def LearnPost (Dt : Dfa) (w : World) (e : Ending) (w' : World) : Prop := ∃ (x : Dfa) (P : Nat → Int) (aa an : Option Addr) (ca cn : Nat), Right x ∧ Flat x ∧ x.width = Dt.width ∧ Num x P ∧ SameL Dt x Dt.start x.start ∧ e = .returned (.tuple #[.agg #[.int .i64 0, .slice aa (canonD x P x.next.length).acc.length ca, .slice an (canonD x P x.next.length).next.length cn], .int .i64 0]) ∧
  Sl w' (.slice aa (canonD x P x.next.length).acc.length ca) (ints (canonD x P x.next.length).acc) ∧ Rd AnyB w' (.sl ((canonD x P x.next.length).next.map D.ints)) [.slice an (canonD x P x.next.length).next.length cn] ∧ Below w.heap.size w w'
set_option maxHeartbeats 8000000 in
set_option maxRecDepth 100000 in
theorem learnE (mf ef : Nat) (mlb elb : Array Value) (Dt : Dfa) (hD : Right Dt) (hn60 : Dt.next.length ≤ 60) (k : Nat) (hkw : Dt.width = k) (hk : 1 ≤ k ∧ k ≤ 16) (w : World) (egm : ∀ args w, (callFunc mf args).run Try.prog w = .ok (.enter mf args) w) (ege : ∀ args w, (callFunc ef args).run Try.prog w = .ok (.enter ef args) w)
    (hf : ∀ W, Below w.heap.size w W → AskFn mf mlb (fD Dt) (k : Int) W) (hE : EqFn ef elb Dt w) :
    Calls Try.prog 4 #[.int .i64 (k : Int), .func (.func mf) #[] mlb, .func (.func ef) #[] elb] w (LearnPost Dt w) := by
  have hmk : ∀ W : World, (Instr.makeMap 40 none).run Try.prog W = .ok (.map (some W.heap.size)) (W.alloc (.map #[] 0)) := fun W => by
    simp [Instr.makeMap, run_underlying Try.underlying40]; try rfl
  obtain ⟨s0, HS0⟩ := nameIt w.heap.size
  obtain ⟨w1, HW1⟩ := nameIt (((((((w.alloc (.cells #[.int .i64 0, .slice none 0 0, .slice none 0 0] 25)).alloc (.map #[] 0)).alloc (.cells #[] 3)).alloc (.cells #[.slice (some ⟨s0 + 1 + 1, 0, none⟩) 0 0] 22)).alloc (.cells #[] 3)).alloc (.cells #[.slice (some ⟨s0 + 1 + 1 + 1 + 1, 0, none⟩) 0 0] 22)).alloc (.cells #[.int .i64 (k : Int), .func (.func mf) #[] mlb, .map (some (s0 + 1)), .slice (some ⟨s0 + 1 + 1 + 1, 0, none⟩) 1 1, .slice (some ⟨s0 + 1 + 1 + 1 + 1 + 1, 0, none⟩) 1 1, .map none] 43))
  have HI1 := Lib.hid (ofI_start (fD Dt) (.int .i64 (k : Int)) (.func (.func mf) #[] mlb) w s0 HS0.out w1 HW1.out.symm)
  have hk1 : ¬ (k : Int) < 1 := by omega
  have hk2 : ¬ (k : Int) > 16 := by omega
  have hd1 : decide ((k : Int) < 1) = false := decide_eq_false hk1
  have hd2 : decide ((16 : Int) < (k : Int)) = false := by apply decide_eq_false; omega
  have HDD := Lib.hid hD
  have HD60 := Lib.hid hn60
  have HKW := Lib.hid hkw
  have HK16 := Lib.hid hk
  have HAP := Lib.hid hf
  unfold EqFn at hE
  have HEQ := Lib.hid hE
  obtain ⟨bl, HBL⟩ := nameIt (s0 + 1 + 1 + 1 + 1 + 1 + 1)
  obtain ⟨mb, HMB⟩ := nameIt (s0 + 1)
  have HOK0 := Lib.hid (ok1 (fD Dt) k)
  have HONE0 : Hid (([[]] : List (List Int))[0]? = some []) := rfl
  have HT0 : Hid (∀ t ∈ ([[]] : List (List Int)), ovK (k : Int) t ∧ t.length ≤ 5000) := fun t ht => by simp at ht; subst ht; exact ⟨fun y hy => (by cases hy), (by simp)⟩
  obtain ⟨PST, HPS⟩ := nameIt (LearnPost Dt w)
  rw [HPS.out]
  clear hD hn60 hkw hf hE
  go_enter Try.func4, Try.ntmps4
  go_upto_region 4 with fail
  rw [HS0.out, HW1.out, HBL.out]
  rw [HBL.out, HMB.out] at HI1
  go_loopg [9, 10, 11, 12, 13] 62 (fun gg v9 v10 v11 v12 v13 wr => ∃ (T A0 : List (List Int)) (ta a0 : Option Addr) (m tc n0 c0 c rr : Nat) (rv : Value), m = rr + 1 ∧ rr ≤ 61 ∧ 62 - rr ≤ gg ∧ c ≤ 900000 * rr ∧ Hid (rr ≤ (discA (fD Dt) T k A0 200).length) ∧ Hid (T.length = m) ∧ Hid (A0.length = n0) ∧ Hid (OkA (fD Dt) T k A0) ∧ Hid (A0[0]? = some []) ∧ Hid (∀ t ∈ T, ovK (k : Int) t ∧ t.length ≤ 5000) ∧ Hid (OfI (fD Dt) w s0 bl mb (.int .i64 (k : Int)) (.func (.func mf) #[] mlb) T A0 (.slice ta m tc) (.slice a0 n0 c0) rv c wr))
  case atStart => exact ⟨[[]], [[]], _, _, 1, _, 1, _, 0, 0, _, rfl, by omega, by omega, by omega, Nat.zero_le _, rfl, rfl, HOK0, HONE0, HT0, HI1⟩
  case round =>
    clear HOK0 HONE0 HT0 HI1
    obtain ⟨T, A0, ta, a0, m, tc, n0, c0, c, rr, rv, hmr, hrr, hgg, hc, HRR, HTM, HAN, HOK, HONE, HTT, HI⟩ := hrel
    have hmr1 : m ≤ rr + 1 := by omega
    have hmr2 : rr + 1 ≤ m := by omega
    clear hmr
    obtain ⟨wo, rfl⟩ : ∃ ww : World, ww = wr := ⟨_, rfl⟩
    obtain ⟨A, LR, LA, x, hrf⟩ := rf_of HDD.out HD60.out HK16.out HOK.out HONE.out
    have HRF := Lib.hid hrf
    have hlo := HI.out.lo
    have hbl := (Array.getElem?_eq_some_iff.1 HI.out.ls.bx).1
    have hto := HI.out.tr
    obtain ⟨xsT, hto1, -⟩ := hto
    have htl := hto1.lt
    obtain ⟨xsA, hao1, -⟩ := HI.out.ls.ac
    have hal := hao1.lt
    have HBW := Lib.hid HI.out.bel
    have HCLO := Lib.hid (closeE mf mlb (fD Dt) T m HTM.out (by omega) k HTT.out HK16.out A0 n0 HAN.out HOK.out (fun A h => by have h1 := bdD HDD.out h; have h2 := HD60.out; omega) bl mb (s0 + 1) c (by omega) rv ta a0 tc c0 wo egm (fun W hW => HAP.out W ⟨hW.os.trans HBW.out.os, hW.tape.trans HBW.out.tape, hW.output.trans HBW.out.output, Nat.le_trans HBW.out.size hW.size, fun q hq => by
      rw [HS0.out] at hq
      rw [← HBW.out.block q hq]
      have h1 := HBW.out.size
      refine hW.block q (by omega) (fun e => ?_)
      rcases e with e | e | e
      · omega
      · omega
      · have := (hal q e).1; omega⟩) (fun q => (Value.slice ta m tc).ownBlock = some q) (fun q e => (htl q e).2) HI.out.ls (by omega))
    rw [hrf.a, hrf.r, hrf.c] at HCLO
    clear hrf hto1 htl hao1 hal hbl
    go_wp2_with fail
    with_reducible refine HCLO.out.mono ?_
    rintro e w2 ⟨aa, an, ca, cn, rb, c2, sv2, rfl, hl2, hc2, hra, hrn, hgr, hsv⟩
    have hi2 := HI.out.closed hl2 hgr hsv
    have hmw := HI.out.ls.kn.lt
    obtain ⟨xs2, ho2, -⟩ := hl2.ac
    obtain ⟨sa, sc, rfl, -, -⟩ := own_len ho2
    have hll : LA.length = LR.length := by rw [HRF.out.la, HRF.out.lr]
    have hal2 : A.length = LR.length := HRF.out.lr.symm
    rw [hll] at hra ⊢
    rw [hal2] at hi2 hrn hra hsv
    have hnn : x.next.length = LR.length := by rw [HRF.out.nx]
    obtain ⟨n, HN⟩ := nameIt LR.length
    rw [HN.out] at hra hrn hnn hi2 hsv ⊢
    rw [HN.out] at hal2
    have hb23 : Below w2.heap.size w2 (w2.alloc (.cells #[.int .i64 0, .slice aa n ca, .slice an n cn] 25)) := (Below.refl _ _).alloc (Nat.le_refl _) _
    obtain ⟨db, HDB⟩ := nameIt w2.heap.size
    have hdx : (w2.alloc (.cells #[.int .i64 0, .slice aa n ca, .slice an n cn] 25)).heap[db]? = some (.cells #[.int .i64 0, .slice aa n ca, .slice an n cn] 25 (0, 0)) := bx_new _ _ _ HDB.out.symm
    have hml2 := hi2.ls.kn.lt
    have hmd : mb < db := by have h1 : w2.heap.size = db := HDB.out; omega
    obtain ⟨w3, HW3⟩ := nameIt (w2.alloc (.cells #[.int .i64 0, .slice aa n ca, .slice an n cn] 25))
    rw [HW3.out] at hb23 hdx
    have HI3 := Lib.hid (hi2.below hb23)
    have HRA3 : Hid (Sl w3 (.slice aa n ca) (ints x.acc)) := by rw [HRF.out.ac]; exact (sl_rd hra).keep hb23
    have HRN3 : Hid (Rd (fun q => q ≠ mb) w3 (.sl (x.next.map D.ints)) [.slice an n cn]) := by
      rw [HRF.out.nx]
      exact (hrn.mono fun q hq _ => by have h1 := hq.1; show q ≠ mb; omega).below hb23
    have HLO : Hid (∀ v ∈ x.acc, v ≤ 9223372036854775807) := fun v hv => by have := HRF.out.flat v hv; omega
    have HNN := Lib.hid hnn
    have HAL2 := Lib.hid hal2
    have HCAN : Hid (∀ W, Below w3.heap.size w3 W → Calls Try.prog 18 #[.agg #[.int .i64 0, .slice aa n ca, .slice an n cn]] W (CanonPost x n W)) := fun W hb => by
      have h := canonE x HRF.out.right HLO.out aa an ca cn n HNN.out W (HRA3.out.keep hb) ((HRN3.out.any).below hb)
      rw [HRF.out.st] at h
      exact h
    have HDX := Lib.hid hdx
    obtain ⟨x0, x1, x2⟩ := bx_cells3 hdx
    have HMD := Lib.hid hmd
    have HTDB : Hid ((Value.slice ta m tc).ownBlock ≠ some db) := fun e => by
      obtain ⟨ys, hys, -⟩ := hi2.tr
      have h1 := (hys.lt db e).2
      have h2 : w2.heap.size = db := HDB.out
      omega
    clear hl2 hra hrn hgr hsv hi2 hll hal2 hnn hb23 hdx ho2 hml2 hmd hmw
    go_upto_region 7 with fail
    rw [HDB.out, HW3.out]
    go_wp2_with fail
    with_reducible refine (HCAN.out w3 (Below.refl _ _)).mono ?_
    rintro e w4 ⟨M4, j4, aa4, an4, ca4, cn4, hM4, hst4, rfl, hA4, hN4, hb4⟩
    have hnum := num_of HRF.out.right HRF.out.flat HNN.out hM4 hst4
    have HNUM := Lib.hid hnum
    obtain ⟨P, HPP⟩ := nameIt (ptI x M4 n (j4 + 1))
    rw [HPP.out] at HNUM hA4 hN4 ⊢
    have hcr := canon_right HRF.out.right HNUM.out
    have hcl := fun u hu => canon_lang HRF.out.right HNUM.out u hu
    rw [HNN.out] at hcr
    simp only [HNN.out] at hcl
    have HCL := Lib.hid hcl
    obtain ⟨y, HY⟩ := nameIt (canonD x P n)
    rw [HY.out] at hcr hA4 hN4 ⊢
    simp only [HY.out] at HCL
    obtain ⟨hyr, hyw, hys, -⟩ := hcr
    have HYR := Lib.hid hyr
    have HYW := Lib.hid hyw
    have HYS := Lib.hid hys
    have hbw4 : Below w.heap.size w w4 := by
      have h1 := HI3.out.bel
      have h2 := h1.size
      rw [HS0.out]
      exact h1.trans (hb4.mono (by rw [HS0.out] at h2; exact h2))
    have HEQ4 := Lib.hid (HEQ.out w4 y aa4 an4 ca4 cn4 hyr (by rw [hyw, HRF.out.width, HKW.out]) hys ⟨sl_rd hA4, hN4.any⟩ hbw4)
    have HB4 := Lib.hid hb4
    obtain ⟨la4, HLA4⟩ := nameIt y.acc.length
    obtain ⟨ln4, HLN4⟩ := nameIt y.next.length
    rw [HLA4.out, HLN4.out] at HEQ4 ⊢
    clear hnum hcl hyr hyw hys hbw4 hb4 hA4 hN4 hM4 hst4 x0 x1 x2
    go_wp2_with fail
    with_reducible refine HEQ4.out.mono ?_
    rintro e w5 ⟨hb5, hpost⟩
    have hb35 := HB4.out.trans (hb5.mono HB4.out.size)
    have HB35 := Lib.hid hb35
    rcases hpost with ⟨u, a5, n5, c5, hL, rfl, hs5⟩ | ⟨hsame, a5, n5, c5, rfl⟩
    · have hul := leastW_len HDD.out HYR.out hL
      have hyst := HYR.out.states
      have hul2 : u.length ≤ 2000 := by have h1 := HD60.out; omega
      have hn5 : n5 = u.length := by have h1 := hs5.len.1; rw [ints_len, castW_len] at h1; exact h1
      have hov : Bf.over k u := by have h1 := hL.1; rw [HKW.out] at h1; exact h1
      have hbadl : lg Dt Dt.start u ≠ lg x x.start u := by
        have h1 := (bad_lg _ _ _).1 hL.2.1
        rw [HYS.out, HCL.out u (by rw [HRF.out.width]; exact hov)] at h1
        exact h1
      obtain ⟨hwr, hg0, hg1, hlst⟩ := HRF.out.bad u hov hul2 hbadl
      have hcov := castW_ov hov
      have hnu : (castW u).length = n5 := by rw [castW_len]; exact hn5.symm
      rw [← hn5] at hg1 hlst hul2
      obtain ⟨uu, HUU⟩ := nameIt (castW u)
      rw [HUU.out] at hs5 hwr hg0 hg1 hlst hcov hnu
      have HWR0 := Lib.hid hwr
      have HG0 := Lib.hid hg0
      have HG1 := Lib.hid hg1
      have HLST := Lib.hid hlst
      have HCOV := Lib.hid hcov
      have HNU := Lib.hid hnu
      have HI5 := Lib.hid (HI3.out.below hb35)
      have HCLN := Lib.hid (clone_int _ uu w5 hs5 (by rw [hnu]; omega))
      clear hul hyst hn5 hov hbadl hwr hg0 hg1 hlst hcov hnu hs5 hL hb5 hb35
      go_wp2_with fail
      with_reducible refine HCLN.out.mono ?_
      rintro e w6 ⟨a6, c6, rfl, ho6, hb6⟩
      have hb36 := HB35.out.trans (hb6.mono HB35.out.size)
      have hs6 := sl_of_own ho6
      rw [HNU.out] at hs6 ⊢
      have HI6 := Lib.hid (HI5.out.below hb6)
      have hbw6 : Below w.heap.size w w6 := by rw [HS0.out]; exact HI6.out.bel
      have HWR := Lib.hid (wrongE mf mlb (fD Dt) bl mb c2 (by omega) k (.slice sa n sc) (.slice ta m tc) (.map (some rb)) x HRF.out.right HRF.out.full HRF.out.width uu n5 HNU.out a6 c6 aa an ca cn n HNN.out w6 egm (fun W hW => HAP.out W (hbw6.trans (hW.mono hbw6.size))) HI6.out.ls.bx HI6.out.ls.kn hs6 (HRA3.out.keep hb36) (HRN3.out.any.below hb36))
      rw [HRF.out.st, HWR0.out] at HWR
      have HS6 := Lib.hid hs6
      have HB36 := Lib.hid hb36
      obtain ⟨x0, x1, x2⟩ := bx_cells3 (bx_keep HDX.out hb36)
      clear hb36 hs6 ho6 hb6 hbw6
      go_wp2_with fail
      with_reducible refine HWR.out.mono ?_
      rintro e w7 ⟨rfl, c7, hk7, hc7, hg7⟩
      have HI7 := Lib.hid (HI6.out.call hg7 hk7)
      have HS7 := Lib.hid (sl_map HS6.out HI6.out.ls.kn hg7)
      have hmd := HMD.out
      have hlo := HI7.out.lo
      have hdx7 : w7.heap[db]? = _ := (hg7.block db (Array.getElem?_eq_some_iff.1 (bx_keep HDX.out HB36.out)).1 (fun e => by have e2 := Option.some.inj e; omega)).trans (bx_keep HDX.out HB36.out)
      have HDX7 := Lib.hid hdx7
      have HRN7 : Hid (Rd (fun q => q ≠ mb) w7 (.sl (x.next.map D.ints)) [.slice an n cn]) := Rd.keep (fun q hq hl => ⟨hq, hg7.block q hl (fun e => hq (Option.some.inj e))⟩) _ _ (HRN3.out.below HB36.out)
      have HSPL : Hid (∀ W, Below w7.heap.size w7 W → Calls Try.prog 21 #[.pointer (some ⟨bl, 0, none⟩), .agg #[.int .i64 0, .slice aa n ca, .slice an n cn], .slice a6 n5 c6] W fun e w' => ∃ (j n3 c3 c' : Nat) (a3 : Option Addr), j < n5 ∧ gS (fD Dt) x A uu j = fD Dt uu ∧ gS (fD Dt) x A uu (j + 1) ≠ fD Dt uu ∧ e = .returned (.slice a3 n3 c3) ∧ Rd (fun q => W.heap.size ≤ q) w' (D.ints (uu.drop (j + 1))) [.slice a3 n3 c3] ∧ KN (fD Dt) mb c' w' ∧ c' ≤ c7 + 10000 ∧ W.grownBy w' (some mb)) := fun W hb => by
        have hI := HI7.out.below hb
        have hbw : Below w.heap.size w W := by rw [HS0.out]; exact hI.bel
        exact splitE mf mlb (fD Dt) bl mb c7 (by omega) k HK16.out.2 sa n sc (.slice ta m tc) (.map (some rb)) x HRF.out.right HRF.out.full HRF.out.width HRF.out.st A HAL2.out HNN.out (fun a ha => ⟨HRF.out.ok.sym a ha, by have h1 := HRF.out.ok.len a ha; have h2 := HRF.out.le; have h3 := HD60.out; omega⟩) uu n5 HNU.out (by omega) HCOV.out a6 aa an c6 ca cn HG0.out HG1.out W egm (fun W' hW' => HAP.out W' (hbw.grown hW' hbw.size (fun q e => by have e2 := Option.some.inj e; rw [HS0.out]; omega))) hI.ls.bx hI.ls.kn hI.ls.ne (hI.ls.ac.rdS (fun q h => h.2.1) (fun q e => (hI.ls.so q e).2.1)) (HS7.out.keep hb) (HRN7.out.below hb)
      have HMM2 : Hid (m ≤ 62) := by show _ ≤ _; omega
      have hib := HI7.out.ls.bx
      obtain ⟨z0, z1, z2, z3, z4, z5⟩ := bx_cells6 hib
      obtain ⟨d0, d1, d2⟩ := bx_cells3 hdx7
      have HSS : Hid (∀ W : World, W.heap[bl]? = w7.heap[bl]? → W.heap[db]? = w7.heap[db]? → (fun (w' : World) => w'.cell? ⟨bl, 0 + 4, none⟩ = some (.slice ta m tc) ∧ w'.cell? ⟨db, 0, none⟩ = some (.int .i64 0) ∧ w'.cell? ⟨db, 0 + 1, none⟩ = some (.slice aa n ca) ∧ w'.cell? ⟨db, 0 + 2, none⟩ = some (.slice an n cn)) W) := fun W h1 h2 => ⟨cellBlk h1 z4, cellBlk h2 d0, cellBlk h2 d1, cellBlk h2 d2⟩
      have hbl7 : bl < w7.heap.size := (Array.getElem?_eq_some_iff.1 hib).1
      have hdb7 : db < w7.heap.size := (Array.getElem?_eq_some_iff.1 hdx7).1
      have hbm := HI7.out.ls.ne
      have HTD := HTDB
      clear x0 x1 x2 hk7 hg7 hdx7 hib
      go_upto_region 14 with fail
      refine wp_region_U (S := (fun (w' : World) => w'.cell? ⟨bl, 0 + 4, none⟩ = some (.slice ta m tc) ∧ w'.cell? ⟨db, 0, none⟩ = some (.int .i64 0) ∧ w'.cell? ⟨db, 0 + 1, none⟩ = some (.slice aa n ca) ∧ w'.cell? ⟨db, 0 + 2, none⟩ = some (.slice an n cn))) 13 (by kernel_rfl) (fun inv => ?_)
      refine wpU_take (i := 0) (v := .pointer (some ⟨bl, 0, none⟩)) rfl inv (by kernel_rfl) (by kernel_rfl) (by decide) (by decide) (by kernel_rfl) (by kernel_rfl) (by kernel_rfl) (fun _ _ _ h => h) (Or.inl ⟨by rfl, fun w' hw' => ?_⟩) (HSS.out _ rfl rfl) (fun inv => ?_)
      · obtain ⟨h0, h1, h2, h3⟩ := hw'
        go_simp
      try simp only [Act.put, List.setIfInBounds_toArray, List.set_cons_zero, List.set_cons_succ]
      refine wpU_take (i := 1) (v := .pointer (some ⟨bl, 0, none⟩)) rfl inv (by kernel_rfl) (by kernel_rfl) (by decide) (by decide) (by kernel_rfl) (by kernel_rfl) (by kernel_rfl) (fun _ _ _ h => h) (Or.inl ⟨by rfl, fun w' hw' => ?_⟩) (HSS.out _ rfl rfl) (fun inv => ?_)
      · obtain ⟨h0, h1, h2, h3⟩ := hw'
        go_simp
      try simp only [Act.put, List.setIfInBounds_toArray, List.set_cons_zero, List.set_cons_succ]
      refine wpU_take (i := 2) (v := .pointer (some ⟨bl, 0, none⟩)) rfl inv (by kernel_rfl) (by kernel_rfl) (by decide) (by decide) (by kernel_rfl) (by kernel_rfl) (by kernel_rfl) (fun _ _ _ h => h) (Or.inl ⟨by rfl, fun w' hw' => ?_⟩) (HSS.out _ rfl rfl) (fun inv => ?_)
      · obtain ⟨h0, h1, h2, h3⟩ := hw'
        go_simp
      try simp only [Act.put, List.setIfInBounds_toArray, List.set_cons_zero, List.set_cons_succ]
      refine wpU_take (i := 3) (v := .pointer (some ⟨bl, 0 + 4, none⟩)) rfl inv (by kernel_rfl) (by kernel_rfl) (by decide) (by decide) (by kernel_rfl) (by kernel_rfl) (by kernel_rfl) (fun _ _ _ h => h) (Or.inl ⟨by rfl, fun w' hw' => ?_⟩) (HSS.out _ rfl rfl) (fun inv => ?_)
      · obtain ⟨h0, h1, h2, h3⟩ := hw'
        go_simp
      try simp only [Act.put, List.setIfInBounds_toArray, List.set_cons_zero, List.set_cons_succ]
      refine wpU_take (i := 4) (v := .slice ta m tc) rfl inv (by kernel_rfl) (by kernel_rfl) (by decide) (by decide) (by kernel_rfl) (by kernel_rfl) (by kernel_rfl) (fun _ _ _ h => h) (Or.inl ⟨by rfl, fun w' hw' => ?_⟩) (HSS.out _ rfl rfl) (fun inv => ?_)
      · obtain ⟨h0, h1, h2, h3⟩ := hw'
        go_simp
      try simp only [Act.put, List.setIfInBounds_toArray, List.set_cons_zero, List.set_cons_succ]
      refine wpU_take (i := 5) (v := .pointer (some ⟨bl, 0, none⟩)) rfl inv (by kernel_rfl) (by kernel_rfl) (by decide) (by decide) (by kernel_rfl) (by kernel_rfl) (by kernel_rfl) (fun _ _ _ h => h) (Or.inl ⟨by rfl, fun w' hw' => ?_⟩) (HSS.out _ rfl rfl) (fun inv => ?_)
      · obtain ⟨h0, h1, h2, h3⟩ := hw'
        go_simp
      try simp only [Act.put, List.setIfInBounds_toArray, List.set_cons_zero, List.set_cons_succ]
      refine wpU_take (i := 6) (v := .agg #[.int .i64 0, .slice aa n ca, .slice an n cn]) rfl inv (by kernel_rfl) (by kernel_rfl) (by decide) (by decide) (by kernel_rfl) (by kernel_rfl) (by kernel_rfl) (fun _ _ _ h => h) (Or.inl ⟨by rfl, fun w' hw' => ?_⟩) (HSS.out _ rfl rfl) (fun inv => ?_)
      · obtain ⟨h0, h1, h2, h3⟩ := hw'
        go_simp
      try simp only [Act.put, List.setIfInBounds_toArray, List.set_cons_zero, List.set_cons_succ]
      refine wpU_take (i := 7) (v := .slice a6 n5 c6) rfl inv (by kernel_rfl) (by kernel_rfl) (by decide) (by decide) (by kernel_rfl) (by kernel_rfl) (by kernel_rfl) (fun _ _ _ h => h) (Or.inl ⟨by rfl, fun w' hw' => ?_⟩) (HSS.out _ rfl rfl) (fun inv => ?_)
      · obtain ⟨h0, h1, h2, h3⟩ := hw'
        go_simp
      try simp only [Act.put, List.setIfInBounds_toArray, List.set_cons_zero, List.set_cons_succ]
      refine wpU_one (i := 8) (by kernel_rfl) rfl (fun K hK => ?_)
      replace inv := inv_setO (i := 8) inv (by kernel_rfl) (by decide)
      go_simp
      refine (HSPL.out _ (Below.refl _ _).drew).mono ?_
      rintro e w8 ⟨j, n3, c3, c8, a3, hj, hj1, hj2, rfl, hr8, hk8, hc8, hg8⟩
      have hg78 : w7.grownBy w8 (some mb) := grown_trans (grown_drew _ _) hg8
      have HI8 := Lib.hid (HI7.out.call hg78 hk8)
      have HR8 := Lib.hid hr8
      have HE8 : Hid (w8.heap[bl]? = w7.heap[bl]? ∧ w8.heap[db]? = w7.heap[db]?) := ⟨hg78.block bl hbl7 (fun e => hbm (Option.some.inj e)), hg78.block db hdb7 (fun e => by have e2 := Option.some.inj e; omega)⟩
      have HZ8 : Hid (w7.heap.size ≤ w8.heap.size) := hg78.size
      have HJ := Lib.hid (HLST.out j hj hj1 hj2)
      clear hr8 hk8 hg8 hg78 hj1 hj2
      refine hK.out _ _ (fun _ => HSS.out _ HE8.out.1 HE8.out.2) ?_
      clear hK K
      try simp only [Act.put, List.setIfInBounds_toArray, List.set_cons_zero, List.set_cons_succ]
      refine wpU_one (i := 9) (by kernel_rfl) rfl (fun K hK => ?_)
      replace inv := inv_setO (i := 9) inv (by kernel_rfl) (by decide)
      go_simp
      have hb9 : Below w8.heap.size w8 (w8.alloc (.cells #[.slice a3 n3 c3] 22)) := (Below.refl _ _).alloc (Nat.le_refl _) _
      have HI9 := Lib.hid (HI8.out.below hb9)
      have HL9 : Hid ((w8.alloc (.cells #[.slice a3 n3 c3] 22)).heap[w8.heap.size]? = some (.cells #[.slice a3 n3 c3] 22 (0, 0))) := bx_new _ _ _ rfl
      have HR9 := Lib.hid (HR8.out.below hb9)
      have HE9 : Hid ((w8.alloc (.cells #[.slice a3 n3 c3] 22)).heap[bl]? = w7.heap[bl]? ∧ (w8.alloc (.cells #[.slice a3 n3 c3] 22)).heap[db]? = w7.heap[db]?) := ⟨(hb9.block bl (by have h1 : w7.heap.size ≤ w8.heap.size := HZ8.out; omega)).trans HE8.out.1, (hb9.block db (by have h1 : w7.heap.size ≤ w8.heap.size := HZ8.out; omega)).trans HE8.out.2⟩
      have HZ9 : Hid (w7.heap.size ≤ (w8.alloc (.cells #[.slice a3 n3 c3] 22)).heap.size) := Nat.le_trans HZ8.out hb9.size
      obtain ⟨w9, HW9⟩ := nameIt (w8.alloc (.cells #[.slice a3 n3 c3] 22))
      rw [HW9.out] at HI9 HL9 HR9 HE9 HZ9 ⊢
      clear hb9
      refine hK.out _ _ (fun _ => HSS.out _ HE9.out.1 HE9.out.2) ?_
      clear hK K
      try simp only [Act.put, List.setIfInBounds_toArray, List.set_cons_zero, List.set_cons_succ]
      refine wpU_one (i := 10) (by kernel_rfl) rfl (fun K hK => ?_)
      replace inv := inv_setO (i := 10) inv (by kernel_rfl) (by decide)
      obtain ⟨xs9, ho9, hr9⟩ := HI9.out.tr
      rw [HTM.out] at ho9
      have HO9 := Lib.hid ho9
      have HRR9 := Lib.hid hr9
      have hsz9 : s0 + 1 ≤ w9.heap.size := by have h1 : w7.heap.size ≤ w9.heap.size := HZ9.out; omega
      refine step_appB elIntsP (by rfl) _ _ (by rfl) HO9.out (by rfl) (by rfl) HL9.out (by rfl) (by rfl) (by have h1 : m ≤ 62 := HMM2.out; omega) (by unfold maxLen; have h1 : m ≤ 62 := HMM2.out; omega) hsz9 ?_
      intro g10 c10 w10 ho10 hg10 hat10 hlt10
      have hown9 := HO9.out.lt
      have htn := HI9.out.tn
      have HX9 : Hid (Rd (fun q => (q ≠ bl ∧ q ≠ mb ∧ (Value.slice sa n sc).ownBlock ≠ some q) ∧ (Value.slice ta m tc).ownBlock ≠ some q) w9 (D.ints (uu.drop (j + 1))) [.slice a3 n3 c3]) := by
        obtain ⟨ys, hys, -⟩ := HI7.out.ls.ac
        obtain ⟨zs, hzs, -⟩ := HI7.out.tr
        have h1 := hys.lt
        have h2 := hzs.lt
        refine HR9.out.mono fun q hq _ => ?_
        have hq2 : w7.heap.size ≤ q := hq
        refine ⟨⟨by omega, by omega, fun e => ?_⟩, fun e => ?_⟩
        · have := (h1 q e).2; omega
        · have := (h2 q e).2; omega
      have HI10 := Lib.hid (HI9.out.push HRR9.out HX9.out (by rw [HTM.out]; exact ho10) hg10 (at_lies hat10))
      have HE10 : Hid (w10.heap[bl]? = w7.heap[bl]? ∧ w10.heap[db]? = w7.heap[db]?) := ⟨(hg10.block bl (by have h1 : w7.heap.size ≤ w9.heap.size := HZ9.out; omega) (fun e => (htn bl e.symm).1 rfl)).trans HE9.out.1, (hg10.block db (by have h1 : w7.heap.size ≤ w9.heap.size := HZ9.out; omega) (fun e => HTD.out e.symm)).trans HE9.out.2⟩
      clear ho9 hr9 ho10 hg10 hat10 hlt10 hown9 htn hsz9
      refine hK.out _ _ (fun _ => HSS.out _ HE10.out.1 HE10.out.2) ?_
      clear hK K
      try simp only [Act.put, List.setIfInBounds_toArray, List.set_cons_zero, List.set_cons_succ]
      refine wpU_take (i := 11) (v := .pointer (some ⟨bl, 0, none⟩)) rfl inv (by kernel_rfl) (by kernel_rfl) (by decide) (by decide) (by kernel_rfl) (by kernel_rfl) (by kernel_rfl) (fun _ _ _ h => h) (Or.inl ⟨by rfl, fun w' hw' => ?_⟩) (HSS.out _ HE10.out.1 HE10.out.2) (fun inv => ?_)
      · obtain ⟨h0, h1, h2, h3⟩ := hw'
        go_simp
      try simp only [Act.put, List.setIfInBounds_toArray, List.set_cons_zero, List.set_cons_succ]
      refine wpU_take (i := 12) (v := .pointer (some ⟨bl, 0 + 4, none⟩)) rfl inv (by kernel_rfl) (by kernel_rfl) (by decide) (by decide) (by kernel_rfl) (by kernel_rfl) (by kernel_rfl) (fun _ _ _ h => h) (Or.inl ⟨by rfl, fun w' hw' => ?_⟩) (HSS.out _ HE10.out.1 HE10.out.2) (fun inv => ?_)
      · obtain ⟨h0, h1, h2, h3⟩ := hw'
        go_simp
      try simp only [Act.put, List.setIfInBounds_toArray, List.set_cons_zero, List.set_cons_succ]
      have hib10 := HE10.out.1.trans HI7.out.ls.bx
      obtain ⟨y0, y1, y2, y3, y4, y5⟩ := bx_cells6 hib10
      obtain ⟨f0, f1, f2, f3, f4, f5⟩ := bx_free6 hib10
      clear hib10
      refine wpU_one (i := 13) (by kernel_rfl) rfl (fun K hK => ?_)
      go_simp
      refine hK.out _ _ (fun h => absurd (show true = false from h) (by decide)) ?_
      clear hK K
      try simp only [Act.put, List.setIfInBounds_toArray, List.set_cons_zero, List.set_cons_succ]
      refine wpU_done (by kernel_rfl) ?_ _
      have HRR2 : Hid (rr + 1 ≤ (discA (fD Dt) (T ++ [uu.drop (j + 1)]) k A 200).length) := by
        have h1 := HRR.out
        rw [HRF.out.a] at h1
        have h2 := HJ.out
        show _ ≤ _
        omega
      have HOK2 := Lib.hid (okA_more HRF.out.ok (uu.drop (j + 1)))
      have hr61 : rr + 1 ≤ 61 := by
        have h1 := bdD HDD.out (discA_ok HOK2.out 200)
        have h2 := HRR2.out
        have h3 := HD60.out
        omega
      have HTT2 : Hid (∀ t ∈ T ++ [uu.drop (j + 1)], ovK (k : Int) t ∧ t.length ≤ 5000) := fun t ht => by
        rcases List.mem_append.1 ht with ht | ht
        · exact HTT.out t ht
        · simp at ht
          subst ht
          exact ⟨fun y hy => HCOV.out y (List.mem_of_mem_drop hy), by rw [List.length_drop, HNU.out]; omega⟩
      have HTM2 : Hid ((T ++ [uu.drop (j + 1)]).length = m + 1) := by show _ = _; rw [List.length_append, HTM.out]; rfl
      have HONE2 : Hid (A[0]? = some []) := HRF.out.one
      clear y0 y1 y2 y3 y4 y5 f0 f1 f2 f3 f4 f5 z0 z1 z2 z3 z4 z5 d0 d1 d2
      go_wp2_with fail
      go_roundg (62 - (rr + 1))
      case measure => omega
      case rel => exact ⟨_, A, some ⟨g10, 0, none⟩, sa, m + 1, c10, n, sc, c8, rr + 1, _, by omega, hr61, by omega, by omega, HRR2, HTM2, HAL2, HOK2, HONE2, HTT2, HI10⟩
    · have HI5 := Lib.hid (HI3.out.below hb35)
      have HSAME := Lib.hid hsame
      obtain ⟨x0, x1, x2⟩ := bx_cells3 (bx_keep HDX.out hb35)
      have HC5 := Lib.hid (HCAN.out w5 hb35)
      clear hsame hb5 hb35
      go_wp2_with fail
      with_reducible refine HC5.out.mono ?_
      rintro e w6 ⟨M6, j6, aa6, an6, ca6, cn6, hM6, hst6, rfl, hA6, hN6, hb6⟩
      have HNUM6 := Lib.hid (num_of HRF.out.right HRF.out.flat HNN.out hM6 hst6)
      obtain ⟨P6, HP6⟩ := nameIt (ptI x M6 n (j6 + 1))
      rw [HP6.out] at HNUM6 hA6 hN6 ⊢
      have HI6 := Lib.hid (HI5.out.below hb6)
      have hrx := HI6.out.rbx
      have HRX := Lib.hid hrx
      have HA6 := Lib.hid hA6
      have HN6 := Lib.hid hN6
      have HB6 := Lib.hid hb6
      obtain ⟨la6, HLA6⟩ := nameIt (canonD x P6 n).acc.length
      obtain ⟨ln6, HLN6⟩ := nameIt (canonD x P6 n).next.length
      rw [HLA6.out, HLN6.out]
      obtain ⟨y0, y1, y2⟩ := bx_cells3 hrx
      obtain ⟨f0, f1, f2⟩ := bx_free3 hrx
      clear hM6 hst6 hA6 hN6 hb6 hrx x0 x1 x2
      go_wp2_with fail
      obtain ⟨j0, j1, j2⟩ := bx_cells3 (bx_set3 HRX.out (.int .i64 0) (.slice aa6 la6 ca6) (.slice an6 ln6 cn6))
      refine bodyPost_ret (v := .tuple #[.agg #[.int .i64 0, .slice aa6 la6 ca6, .slice an6 ln6 cn6], .int .i64 0]) (by simp [results, Try.results4, go_sem, j0, j1, j2]) rfl ?_
      have hs0 : w.heap.size = s0 := HS0.out
      have hz4 := HB35.out.size
      have hz3 := HI3.out.bel.size
      have hz5 := HI5.out.bel.size
      have hlt0 := (Array.getElem?_eq_some_iff.1 HI5.out.rbx).1
      have g3 := grown_box3 s0 w6 (.int .i64 0) (.slice aa6 la6 ca6) (.slice an6 ln6 cn6)
      rw [← HPS.out]
      refine ⟨x, P6, aa6, an6, ca6, cn6, HRF.out.right, HRF.out.flat, (by rw [HRF.out.width, HKW.out]), HNUM6.out, fun u hu => ?_, (by rw [HNN.out, HLA6.out, HLN6.out]), ?_, ?_, ?_⟩
      · have h1 := HSAME.out u hu
        rw [HYS.out, HCL.out u (by rw [HRF.out.width, ← HKW.out]; exact hu)] at h1
        exact h1
      · rw [HNN.out, HLA6.out]
        have h1 := HA6.out
        rw [HLA6.out] at h1
        exact sl_rd (Rd.keep (S' := AnyB) (fun q hq hl => ⟨trivial, g3.block q hl (fun e => by have e2 := Option.some.inj e; have h2 : w5.heap.size ≤ q := hq; omega)⟩) _ _ h1)
      · rw [HNN.out, HLN6.out]
        have h1 := HN6.out
        rw [HLN6.out] at h1
        exact Rd.keep (S' := AnyB) (fun q hq hl => ⟨trivial, g3.block q hl (fun e => by have e2 := Option.some.inj e; have h2 : w5.heap.size ≤ q := hq; omega)⟩) _ _ h1
      · rw [hs0]
        exact ((HI6.out.bel.setCell (p := ⟨s0, 0, none⟩) (Nat.le_refl _) _).setCell (p := ⟨s0, 1, none⟩) (Nat.le_refl _) _).setCell (p := ⟨s0, 2, none⟩) (Nat.le_refl _) _
end Lr
end Go.Proofs.Ytclpmmbclgihbaa
