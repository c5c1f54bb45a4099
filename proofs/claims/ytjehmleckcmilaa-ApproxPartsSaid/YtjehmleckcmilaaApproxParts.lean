/- The walk of the law ApproxParts. -/
import Derived.Test.YtjehmleckcmilaaGroupsWalk
import Derived.Test.YtjehmleckcmilaaPlain
import Derived.Deep.RegionHeld3
namespace Go.Proofs.Ytjehmleckcmilaa
open Go.RowKit

def compsOf (g : Gram) : List Comp := if checkG g = 0 then compsN g.rules (gEdges g) g.nons.toNat g.nons.toNat else []
def CompsPost2 (g : Gram) (w : World) (e : Ending) (w' : World) : Prop :=
  ∃ v, e = .returned (.tuple #[v, .int .i64 (checkG g)]) ∧ Rd AnyB w' (.sl ((compsOf g).map Comp.d)) [v] ∧ Below w.heap.size w w'

set_option maxHeartbeats 1000000 in
set_option maxRecDepth 100000 in
theorem components2 (g : Gram) (ar : Option Addr) (cr : Nat) (w : World) (hr : Rd AnyB w (.sl (g.rules.map Rule.d)) [.slice ar g.rules.length cr]) :
    Calls Try.prog 52 #[.agg #[.int .i64 g.terms, .int .i64 g.nons, .int .i64 g.start, .slice ar g.rules.length cr]] w (CompsPost2 g w) := by
  obtain ⟨w0, HW0⟩ := nameIt (w.alloc (.cells #[.int .i64 g.terms, .int .i64 g.nons, .int .i64 g.start, .slice ar g.rules.length cr] 77))
  have HB0 : Hid (Below w.heap.size w w0) := by rw [← HW0.out]; exact (Below.refl _ _).alloc (Nat.le_refl _) _
  have X1 : Hid (w0.heap[w.heap.size]? = some (.cells #[.int .i64 g.terms, .int .i64 g.nons, .int .i64 g.start, .slice ar g.rules.length cr] 77 (0, 0))) := by rw [← HW0.out]; exact bx_new _ _ _ rfl
  have HCK := Lib.hid (checkE g ar cr w0 (hr.below HB0.out))
  have HCO := Lib.hid (fun (hg : checkG g = 0) W (hb : Below w0.heap.size w0 W) => componentsE g hg ar cr W ((hr.below HB0.out).below hb))
  have HFIN : Hid (∀ v W, Rd AnyB W (.sl ((compsOf g).map Comp.d)) [v] → Below w.heap.size w W → CompsPost2 g w (.returned (.tuple #[v, .int .i64 (checkG g)])) W) := fun v W h1 h2 => ⟨v, rfl, h1, h2⟩
  have HC0 : Hid (∀ h : checkG g = 0, compsOf g = compsN g.rules (gEdges g) g.nons.toNat g.nons.toNat) := fun h => by unfold compsOf; rw [if_pos h]
  have HC1 : Hid (∀ h : checkG g ≠ 0, compsOf g = []) := fun h => by unfold compsOf; rw [if_neg h]
  have HCP : Hid (∀ W0 e W, CompsPost g W0 e W → ∃ v, e = .returned v ∧ Rd AnyB W (.sl ((compsN g.rules (gEdges g) g.nons.toNat g.nons.toNat).map Comp.d)) [v] ∧ Below W0.heap.size W0 W) := fun W0 e W h => h
  obtain ⟨gt, HGT⟩ := nameIt g.terms
  obtain ⟨gn, HGN⟩ := nameIt g.nons
  obtain ⟨gs, HGS⟩ := nameIt g.start
  obtain ⟨nk, HNK⟩ := nameIt g.rules.length
  obtain ⟨ck, HC⟩ := nameIt (checkG g)
  rw [HGT.out, HGN.out, HGS.out, HNK.out] at X1 HW0 HCK HCO
  rw [HC.out] at HCK HCO HFIN HC0 HC1
  rw [HGT.out, HGN.out, HGS.out, HNK.out]
  obtain ⟨x0, x1, x2, x3⟩ := bx_cells4 X1.out
  clear hr
  go_enter Try.func52, Try.ntmps52
  go_upto_region 1 with fail
  rw [HW0.out]
  go_wp2_with fail
  refine HCK.out.mono ?_
  rintro e w1 ⟨rfl, hb1⟩
  have HB1 := Lib.hid hb1
  have X2 := Lib.hid (bx_keep X1.out hb1)
  clear hb1 x0 x1 x2 x3
  obtain ⟨x0, x1, x2, x3⟩ := bx_cells4 X2.out
  by_cases hz : ck = 0
  · have hzb : (ck != 0) = false := by simpa using hz
    have HCC := Lib.hid (HC0.out hz)
    have HCV := Lib.hid (HCO.out hz w1 HB1.out)
    have HZ := Lib.hid hz
    clear hz
    go_wp2_with fail
    refine HCV.out.mono ?_
    intro e w2 hpost
    obtain ⟨v, rfl, hv, hb2⟩ := HCP.out w1 e w2 hpost
    have HV := Lib.hid hv
    have HB2 := Lib.hid hb2
    obtain ⟨av, nv, cv, rfl⟩ : ∃ x y z, v = Value.slice x y z := by obtain ⟨x, z, e, _⟩ := hv.form; exact ⟨_, _, _, e⟩
    clear hpost hv hb2
    go_wp2_with fail
    refine bodyPost_ret (results_tmp2 Try.results52 _ _ _) rfl ?_
    have h := HB0.out.trans (HB1.out.mono HB0.out.size)
    have h2 := HFIN.out _ w2 (by rw [HCC.out]; exact HV.out) (h.trans (HB2.out.mono h.size))
    rw [HZ.out] at h2
    exact h2
  · have hzb : (ck != 0) = true := by simpa using hz
    have HCC := Lib.hid (HC1.out hz)
    clear hz
    go_wp2_with fail
    refine bodyPost_ret (results_tmp2 Try.results52 _ _ _) rfl ?_
    refine HFIN.out _ w1 (by rw [HCC.out]; exact ⟨none, 0, [], rfl, by simp, by simp [maxLen], fun _ => rfl, fun i hi => by simp at hi, rfl⟩) (HB0.out.trans (HB1.out.mono HB0.out.size))
theorem plG_comps : compsOf plG = [⟨0, [0]⟩] := by
  unfold compsOf
  rw [if_pos plG_ok]
  rfl

theorem Rd.ints_at {S : Nat → Prop} {w : World} {l : List (List Int)} {a : Option Addr} {n cap i : Nat} (h : Rd S w (.sl (l.map D.ints)) [.slice a n cap]) (hi : i < l.length) :
    ∃ b off u, a = some ⟨b, off, none⟩ ∧ b < w.heap.size ∧ w.cell? ⟨b, off + i, none⟩ = some u ∧ Rd S w (D.ints l[i]) [u] := by
  obtain ⟨b, off, cs, ha, hS, hlt, hr, hl, hc⟩ := h.at (k := 1) (fun d hd => by simp at hd; obtain ⟨t, _, rfl⟩ := hd; simp [D.ints, D.cells]) (by decide) (i := i) (by simpa using hi)
  simp at hr
  match cs, hl with
  | [u], _ => exact ⟨b, off, u, ha, hlt, by simpa using hc 0 (by simp), hr⟩

set_option maxHeartbeats 4000000 in
set_option maxRecDepth 100000 in
theorem lawAP (g : Gram) (u : Value) (w : World) (hr : Rd AnyB w (.sl (g.rules.map Rule.d)) [u]) :
    Calls Try.prog 8 #[.agg #[.int .i64 g.terms, .int .i64 g.nons, .int .i64 g.start, u]] w fun e w' => e = .returned (.bool true) ∧ Below w.heap.size w w' := by
  obtain ⟨ar, cr, rfl, hc1, hc2⟩ := hr.form
  rw [List.length_map] at hr hc1
  rw [List.length_map]
  obtain ⟨w0, HW0⟩ := nameIt (w.alloc (.cells #[.int .i64 g.terms, .int .i64 g.nons, .int .i64 g.start, .slice ar g.rules.length cr] 77))
  have HB0 : Hid (Below w.heap.size w w0) := by rw [← HW0.out]; exact (Below.refl _ _).alloc (Nat.le_refl _) _
  have X1 : Hid (w0.heap[w.heap.size]? = some (.cells #[.int .i64 g.terms, .int .i64 g.nons, .int .i64 g.start, .slice ar g.rules.length cr] 77 (0, 0))) := by rw [← HW0.out]; exact bx_new _ _ _ rfl
  have HCO := Lib.hid (fun W (hb : Below w0.heap.size w0 W) => components2 g ar cr W ((hr.below HB0.out).below hb))
  have HRF := Lib.hid (fun W (hb : Below w0.heap.size w0 W) => ruleFault g ar cr W ((hr.below HB0.out).below hb))
  have HGR := Lib.hid (fun (hg : checkG g = 0) W (hb : Below w0.heap.size w0 W) => groupsE g hg ar cr W ((hr.below HB0.out).below hb))
  have HC0 : Hid (∀ h : checkG g = 0, compsOf g = compsN g.rules (gEdges g) g.nons.toNat g.nons.toNat) := fun h => by unfold compsOf; rw [if_pos h]
  have HC1 : Hid (∀ h : checkG g ≠ 0, compsOf g = []) := fun h => by unfold compsOf; rw [if_neg h]
  have HGP : Hid (∀ (_ : checkG g = 0) W0 e W, GroupsPost g W0 e W → ∃ v5 v6, e = .returned (.tuple #[v5, v6]) ∧ Rd AnyB W (.sl (((compsOf g).map Comp.nons).map D.ints)) [v5] ∧ Sl W v6 (ints ((compsOf g).map Comp.kind)) ∧ Below W0.heap.size W0 W) := by
    rintro hz W0 e W ⟨v5, v6, h1, h2, h3, h4⟩
    refine ⟨v5, v6, h1, ?_, ?_, h4⟩
    · rw [HC0.out hz, List.map_map]; exact h2
    · rw [HC0.out hz]; exact h3
  have HPL := Lib.hid plE
  have HPC := Lib.hid (fun (v : Value) W (h : Rd AnyB W (.sl (plG.rules.map Rule.d)) [v]) => (by
    obtain ⟨a, c, rfl, _⟩ := h.form
    rw [List.length_map] at h
    exact components2 plG a c W h : Calls Try.prog 52 #[.agg #[.int .i64 plG.terms, .int .i64 plG.nons, .int .i64 plG.start, v]] W (CompsPost2 plG W)))
  obtain ⟨gt, HGT⟩ := nameIt g.terms
  obtain ⟨gn, HGN⟩ := nameIt g.nons
  obtain ⟨gs, HGS⟩ := nameIt g.start
  obtain ⟨nk, HNK⟩ := nameIt g.rules.length
  obtain ⟨ck, HC⟩ := nameIt (checkG g)
  obtain ⟨CS, HCS⟩ := nameIt (compsOf g)
  have HCD : Hid (∀ W0 e W, CompsPost2 g W0 e W → ∃ v, e = .returned (.tuple #[v, .int .i64 ck]) ∧ Rd AnyB W (.sl (CS.map Comp.d)) [v] ∧ Below W0.heap.size W0 W) := by
    rintro W0 e W ⟨v, h1, h2, h3⟩
    rw [HC.out] at h1
    rw [HCS.out] at h2
    exact ⟨v, h1, h2, h3⟩
  rw [HGT.out, HGN.out, HGS.out, HNK.out] at X1 HW0 HCO HRF HGR
  rw [HC.out] at HRF HGR HC1 HGP
  rw [HCS.out] at HC1 HGP
  rw [HGT.out, HGN.out, HGS.out, HNK.out]
  clear hr hc1 hc2
  go_enter Try.func8, Try.ntmps8
  go_upto_region 1 with fail
  rw [HW0.out]
  go_wp2_with fail
  refine (HPL.out w0).mono ?_
  rintro e w1 ⟨v1, rfl, hv1, hb1⟩
  have HV1 := Lib.hid hv1
  have HB1 := Lib.hid hb1
  obtain ⟨a1, n1, c1, rfl⟩ : ∃ x y z, v1 = Value.slice x y z := by obtain ⟨x, z, e, _⟩ := hv1.form; exact ⟨_, _, _, e⟩
  clear hv1 hb1
  go_wp2_with fail
  refine (HPC.out _ w1 HV1.out).mono ?_
  rintro e w2 ⟨v2, rfl, hv2, hb2⟩
  rw [plG_ok]
  rw [plG_comps] at hv2
  have HB2 : Hid (Below w0.heap.size w0 w2) := HB1.out.trans (hb2.mono HB1.out.size)
  obtain ⟨a2, c2, rfl, -, -⟩ := hv2.form
  obtain ⟨b2, o2, u2, he2, -, -, k0, k1, -⟩ := hv2.comp_at (i := 0) (by simp)
  simp only [List.getElem_cons_zero, Nat.zero_mul, Nat.add_zero] at k0
  subst he2
  obtain ⟨x0, x1, x2, x3⟩ := bx_cells4 (bx_keep X1.out HB2.out)
  simp only [List.map_cons, List.map_nil, List.length_cons, List.length_nil]
  clear hv2 hb2 k1
  go_wp2_with fail
  refine (HCO.out w2 HB2.out).mono ?_
  intro e w3 hpost
  obtain ⟨v3, rfl, hv3, hb3⟩ := HCD.out w2 e w3 hpost
  have HB3 : Hid (Below w0.heap.size w0 w3) := HB2.out.trans (hb3.mono HB2.out.size)
  have HV3 := Lib.hid hv3
  obtain ⟨a3, c3, rfl, h31, h32⟩ := hv3.form
  rw [List.length_map] at h31 HV3
  rw [List.length_map]
  unfold maxLen at h32
  clear hpost hv3 hb3 x0 x1 x2 x3 k0
  obtain ⟨x0, x1, x2, x3⟩ := bx_cells4 (bx_keep X1.out HB3.out)
  go_wp2_with fail
  refine (HRF.out w3 HB3.out).mono ?_
  rintro e w4 ⟨rfl, hb4⟩
  have HB4 : Hid (Below w0.heap.size w0 w4) := HB3.out.trans (hb4.mono HB3.out.size)
  have HV4 := Lib.hid (HV3.out.below hb4)
  clear hb4 x0 x1 x2 x3
  obtain ⟨x0, x1, x2, x3⟩ := bx_cells4 (bx_keep X1.out HB4.out)
  by_cases hz : ck = 0
  · have hzb : (ck != 0) = false := by simpa using hz
    have HGV := Lib.hid (HGR.out hz w4 HB4.out)
    have HGQ := Lib.hid (HGP.out hz)
    have hzb2 : (ck == 0) = true := by simpa using hz
    clear hz
    obtain ⟨n, HN⟩ := nameIt CS.length
    rw [HN.out] at h31 HV4
    rw [HN.out]
    go_wp2_with fail
    refine HGV.out.mono ?_
    intro e w5 hpost
    obtain ⟨v5, v6, rfl, hv5, hv6, hb5⟩ := HGQ.out w4 e w5 hpost
    have HB5 : Hid (Below w0.heap.size w0 w5) := HB4.out.trans (hb5.mono HB4.out.size)
    have HV5 := Lib.hid hv5
    have HV6 := Lib.hid hv6
    have HVC := Lib.hid (HV4.out.below hb5)
    obtain ⟨a5, c5, rfl, h51, h52⟩ := hv5.form
    obtain ⟨a6, c6, rfl⟩ := hv6.form
    have h61 := hv6.len
    rw [List.length_map, List.length_map, HN.out] at h51 HV5
    rw [List.length_map, List.length_map, HN.out]
    rw [ints_len, List.length_map, HN.out] at HV6 h61
    rw [ints_len, List.length_map, HN.out]
    unfold maxLen at h52 h61
    have hnn : ((n : Int) != (n : Int)) = false := by simp
    clear hpost hv5 hv6 hb5 x0 x1 x2 x3
    go_wp2_with fail
    go_loopg [64] n (fun gg v64 wr => ∃ i : Nat, i ≤ n ∧ n - i ≤ gg ∧ v64 = .int .i64 i ∧ Hid (Below w5.heap.size w5 wr))
    case atStart => exact ⟨0, by omega, by omega, rfl, Below.refl _ _⟩
    case round =>
      obtain ⟨i, hi, hgi, rfl, HBI⟩ := hrel
      by_cases hin : i < n
      · have hin' : (i : Int) < (n : Int) := by omega
        have hi0 : (0 : Int) ≤ (i : Int) := by omega
        have hil : i < CS.length := by rw [HN.out]; exact hin
        obtain ⟨bc, oc, uc, hec, -, hbcl, k0, k1, hku⟩ := (HVC.out.below HBI.out).comp_at hil
        obtain ⟨bs, os, us, hes, hbsl, s0, hsu⟩ := (HV5.out.below HBI.out).ints_at (i := i) (by simpa using hil)
        obtain ⟨bk, ok, hek, hkc⟩ := (HV6.out.keep HBI.out).at (k := i) hin
        have q0 := hkc i (by rw [ints_len, List.length_map]; exact hil)
        rw [ints_get] at q0
        simp only [List.getElem_map] at q0 hsu
        have HKU := Lib.hid (sl_rd hku)
        have HSU := Lib.hid (sl_rd hsu)
        obtain ⟨kd, HKD⟩ := nameIt (CS[i]'hil).kind
        rw [HKD.out] at k0 q0
        obtain ⟨au, nu, cu, rfl⟩ : ∃ x y z, uc = Value.slice x y z := by obtain ⟨x, z, e, _⟩ := hku.form; exact ⟨_, _, _, e⟩
        obtain ⟨as', ns, cs', rfl⟩ : ∃ x y z, us = Value.slice x y z := by obtain ⟨x, z, e, _⟩ := hsu.form; exact ⟨_, _, _, e⟩
        obtain ⟨w6, HW6⟩ := nameIt (wr.alloc (.cells #[.int .i64 kd, .slice au nu cu] 98))
        have hb6 : Below wr.heap.size wr w6 := by rw [← HW6.out]; exact (Below.refl _ _).alloc (Nat.le_refl _) _
        have X6 : Hid (w6.heap[wr.heap.size]? = some (.cells #[.int .i64 kd, .slice au nu cu] 98 (0, 0))) := by rw [← HW6.out]; exact bx_new _ _ _ rfl
        have HEQ := Lib.hid (fun W (hb : Below w6.heap.size w6 W) => equal _ _ _ _ W ((HKU.out.keep hb6).keep hb) ((HSU.out.keep hb6).keep hb))
        simp only [beq_self_eq_true] at HEQ
        have HB6 : Hid (Below w5.heap.size w5 w6) := HBI.out.trans (hb6.mono HBI.out.size)
        have t0 := (hb6.cell (p := ⟨bk, ok + i, none⟩) (lt_of_cell q0)).trans q0
        have t1 := (hb6.cell (p := ⟨bs, os + i, none⟩) (lt_of_cell s0)).trans s0
        obtain ⟨y0, y1⟩ := bx_cells2 X6.out
        have hkk : (kd != kd) = false := by simp
        subst hec hes hek
        clear hku hsu hkc hb6
        go_upto_region 14 with fail
        rw [HW6.out]
        clear k0 k1 q0 s0
        go_cut [85] (fun tt wx => tt = .bool false ∧ Hid (Below w6.heap.size w6 wx))
        case first =>
          go_region_held3 (fun w' => w'.cell? ⟨wr.heap.size, 0, none⟩ = some (.int .i64 kd) ∧ w'.cell? ⟨wr.heap.size, 0 + 1, none⟩ = some (.slice au nu cu) ∧ w'.cell? ⟨bk, ok + i, none⟩ = some (.int .i64 kd) ∧ w'.cell? ⟨bs, os + i, none⟩ = some (.slice as' ns cs')) (first | go_keep | exact ⟨K0, K1, K2, K3⟩ | fail)
            (first
              | (go_at_call 22; (with_reducible refine (HEQ.out _ (by first | exact (Below.refl _ _).drew | exact Below.refl _ _)).mono ?_); rintro e w7 ⟨rfl, hb7⟩; have HB7 : Hid (Below w6.heap.size w6 w7) := (Below.refl _ _).drew.trans hb7; have K0 := (HB7.out.cell (p := ⟨wr.heap.size, 0, none⟩) (lt_of_cell y0)).trans y0; have K1 := (HB7.out.cell (p := ⟨wr.heap.size, 0 + 1, none⟩) (lt_of_cell y1)).trans y1; have K2 := (HB7.out.cell (p := ⟨bk, ok + i, none⟩) (lt_of_cell t0)).trans t0; have K3 := (HB7.out.cell (p := ⟨bs, os + i, none⟩) (lt_of_cell t1)).trans t1; clear hb7)
              | fail)
          all_goals
            go_wp2_with fail
            go_meet
            exact ⟨rfl, HB7⟩
        case rest =>
          obtain ⟨rfl, HC8⟩ := hcut
          have HB8 : Hid (Below w5.heap.size w5 wc) := HB6.out.trans (HC8.out.mono HB6.out.size)
          clear y0 y1 t0 t1
          go_wp2_with fail
          go_roundg (n - (i + 1))
          case measure => omega
          case rel => exact ⟨i + 1, by omega, by omega, by go_num, HB8⟩
      · have hin' : ¬ (i : Int) < (n : Int) := by omega
        go_wp2_with fail
        go_ret
        have h := HB0.out.trans (HB5.out.mono HB0.out.size)
        exact ⟨rfl, h.trans (HBI.out.mono h.size)⟩
  · have hzb : (ck != 0) = true := by simpa using hz
    have hcs := HC1.out hz
    have hck : (ck == ck) = true := by simp
    rw [hcs]
    simp only [List.length_nil]
    clear hz hcs
    go_wp2_with fail
    go_ret
    exact ⟨rfl, HB0.out.trans (HB4.out.mono HB0.out.size)⟩
end Go.Proofs.Ytjehmleckcmilaa
