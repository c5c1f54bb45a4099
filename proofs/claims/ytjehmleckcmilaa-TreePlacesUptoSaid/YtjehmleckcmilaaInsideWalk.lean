/- The contract of Inside. -/
import Derived.Test.YtjehmleckcmilaaCoverWalk
import Derived.Test.YtjehmleckcmilaaRangeWalk
namespace Go.Proofs.Ytjehmleckcmilaa
open Go.RowKit

theorem belowT_append : ∀ (t : Tree) (p q : List Int), belowT t (p ++ q) = (belowT t p).bind fun k => belowT k q
  | t, [], q => by simp [belowT]
  | t, i :: p, q => by
    rw [List.cons_append, belowT, belowT]
    cases kidAt t i with
    | none => rfl
    | some k => simp only [Option.bind_some]; exact belowT_append k p q
theorem rangeT_append : ∀ (p : List Int) (t c : Tree) (q : List Int), belowT t p = some c → rangeT t (p ++ q) = shift (rangeT t p).1 (rangeT c q) ∧ (rangeT t p).2 = (rangeT t p).1 + lv c
  | [], t, c, q, h => by
    rw [belowT] at h
    cases h
    simp [rangeT_nil, shift]
  | i :: p, t, c, q, h => by
    obtain ⟨j, rfl, hr, hj, hb⟩ := below_kid h
    have hk : t.kids[j]? = some t.kids[j] := by simp
    obtain ⟨h1, h2⟩ := rangeT_append p t.kids[j] c q hb
    rw [List.cons_append, rangeT_cons hk, rangeT_cons hk, h1, shift_shift]
    exact ⟨rfl, by simp [shift, h2]; omega⟩

structure InsRel (t : Tree) (f tz : Nat) (w : World) (c : Tree) (P : List Int) (pv : Value) (wr : World) : Prop where
  box : ∃ v, wr.heap[w.heap.size]? = some (.cells #[.int .i64 t.rule, .int .i64 t.term, v] 43 (0, 0)) ∧ Rd AnyB w (.sl (t.kids.map Tree.d)) [v]
  sl : Sl wr pv (ints P)
  bel : Below w.heap.size w wr
  ex : belowT t P = some c
  eq : P ++ coverP c (rangeT t P).1 f tz = coverP t 0 f tz
  lt : (rangeT t P).1 + lv c ≤ lv t
  len : P.length + (nodes c).length ≤ (nodes t).length

set_option maxHeartbeats 2000000 in
set_option maxRecDepth 100000 in
theorem insideE (t : Tree) (v : Value) (f0 t0 : Nat) (w : World) (hv : Rd AnyB w (.sl (t.kids.map Tree.d)) [v]) (hN : (nodes t).length ≤ 1099511627776) :
    Calls Try.prog 31 #[.agg #[.int .i64 t.rule, .int .i64 t.term, v], .int .i64 f0, .int .i64 t0] w (IntsPost (coverP t 0 f0 t0) w) := by
  obtain ⟨a, nk, cap, rfl⟩ := treeBox hv
  have HV := Lib.hid hv
  have HNN := Lib.hid hN
  have HLV := Lib.hid (Nat.le_trans (lv_le t) hN)
  obtain ⟨tr, HTR⟩ := nameIt t.rule
  obtain ⟨tt, HTT⟩ := nameIt t.term
  rw [HTR.out, HTT.out]
  obtain ⟨w0, HW0⟩ := nameIt (w.alloc (.cells #[.int .i64 tr, .int .i64 tt, .slice a nk cap] 43))
  have HR0 : Hid (InsRel t f0 t0 w t [] (.slice none 0 0) w0) := by
    rw [← HW0.out]
    refine ⟨⟨_, by rw [HTR.out, HTT.out]; exact bx_new _ _ _ rfl, hv⟩, ⟨none, 0, rfl, by simp [ints], by simp, fun _ => rfl, fun i hi => by simp [ints] at hi⟩, (Below.refl _ _).alloc (Nat.le_refl _) _, rfl, by simp [rangeT_nil], by simp [rangeT_nil], by simp⟩
  clear hv hN
  go_enter Try.func31, Try.ntmps31
  go_wp2_with fail
  rw [HW0.out]
  go_loopg [7] (nodes t).length (fun gg v7 wr => ∃ (c : Tree) (P : List Int), (nodes c).length ≤ gg ∧ Hid (InsRel t f0 t0 w c P v7 wr))
  case atStart => exact ⟨t, [], Nat.le_refl _, HR0⟩
  case round =>
    clear HR0 HW0
    obtain ⟨wz, rfl⟩ : ∃ wz : World, wz = wr := ⟨_, rfl⟩
    obtain ⟨c, P, hg, HR⟩ := hrel
    obtain ⟨vb, hbox, hvb⟩ := HR.out.box
    obtain ⟨ab, nb, cb, rfl⟩ := treeBox hvb
    have HBOX := Lib.hid hbox
    have HVB := Lib.hid hvb
    obtain ⟨ap, cp, rfl⟩ := HR.out.sl.form
    rw [ints_len] at HR
    rw [ints_len]
    have hpb := HR.out.sl.len
    unfold maxLen at hpb
    obtain ⟨-, hpb1, hpb2⟩ := hpb
    have hbc := belowE t _ ap cp P wz (hvb.below HR.out.bel) HR.out.sl
    rw [HR.out.ex] at hbc
    rw [HTR.out, HTT.out] at hbox hbc
    have HBC := Lib.hid hbc
    obtain ⟨x0, x1, x2⟩ := bx_cells3 hbox
    have hwr : w.heap.size < wz.heap.size := (Array.getElem?_eq_some_iff.1 hbox).1
    clear hbox hvb hbc
    go_wp2_with fail
    refine HBC.out.mono ?_
    rintro e w1 ⟨v1, rfl, hr1, hb1⟩
    simp only [Option.getD_some, foundB, Option.isSome_some] at hr1 ⊢
    obtain ⟨a1, n1, c1, rfl⟩ := treeBox hr1
    have hb1' := Lib.hid hb1
    obtain ⟨wo, HWO⟩ := nameIt (w1.alloc (.cells #[.int .i64 c.rule, .int .i64 c.term, .slice a1 n1 c1] 43))
    have HBO : Hid (Below wz.heap.size wz wo) := by rw [← HWO.out]; exact hb1.trans ((Below.refl _ _).alloc hb1.size _)
    have HNC : Hid (c.kids.length = n1) := by show _ = _; have := hr1.bounds.1; simpa using this.symm
    have hncb : n1 ≤ 9223372036854775807 := by have := hr1.bounds; unfold maxLen at this; omega
    have HSO := Lib.hid (HR.out.sl.keep HBO.out)
    obtain ⟨r, HXr⟩ := nameIt c.rule
    obtain ⟨tm, HXt⟩ := nameIt c.term
    rw [HXr.out, HXt.out] at HWO
    rw [HXr.out, HXt.out]
    have HBWO := Lib.hid (HR.out.bel.trans (HBO.out.mono HR.out.bel.size))
    clear hr1 hb1 x0 x1 x2 HBC
    by_cases hr : r = -1
    · have hrb : (r == -1) = true := by simpa using hr
      have HE : Hid (P = coverP t 0 f0 t0) := by
        show _ = _
        rw [← HR.out.eq, coverP_eq, kidsOf, HXr.out, if_pos hr, coverPL]; simp
      clear hr
      go_wp2_with fail
      go_ret
      refine ⟨_, rfl, ?_, by rw [HWO.out]; exact HBWO.out⟩
      rw [← HE.out, HWO.out]
      exact HSO.out
    · have hrb : (r == -1) = false := by simpa using hr
      have HCR : Hid (c.rule ≠ -1) := by show _ ≠ _; rw [HXr.out]; exact hr
      have HKE : Hid (kidsOf c = c.kids) := by show _ = _; rw [kidsOf, HXr.out, if_neg hr]
      clear hr
      go_wp2_with fail
      rw [HWO.out]
      go_loopg [7, 30] n1 (fun gg' v7 v30 wq => ∃ i : Nat, i ≤ n1 ∧ n1 - i ≤ gg' ∧ v30 = .int .i64 i ∧ v7 = .slice ap P.length cp ∧ Hid (coverPL i (c.kids.drop i) ((rangeT t P).1 + lvs (c.kids.take i)) f0 t0 = coverPL 0 c.kids (rangeT t P).1 f0 t0 ∧ Below wo.heap.size wo wq))
      case atStart => exact ⟨0, by omega, by omega, rfl, rfl, by simp [lvs], Below.refl _ _⟩
      case round =>
        obtain ⟨i, hi, hgi, rfl, rfl, HM⟩ := hrel
        have hlvs : (rangeT t P).1 + lvs c.kids ≤ 1099511627776 := by
          have h1 := HR.out.lt
          have h2 := HLV.out
          have h3 := lv_inner HCR.out
          omega
        have HBW := Lib.hid (HBWO.out.trans (HM.out.2.mono (Nat.le_trans HR.out.bel.size HBO.out.size)))
        by_cases hlt : i < n1
        · have hlt' : (i : Int) < (n1 : Int) := by omega
          have hik : i < c.kids.length := by rw [HNC.out]; exact hlt
          have HSL := Lib.hid (HSO.out.keep HM.out.2)
          have hpl : P.length + 1 ≤ 1099511627776 := by
            have h1 := HR.out.len
            have h2 := HNN.out
            have h3 := nodes_pos c
            omega
          have HD := Lib.hid (coverPL_drop (n := (rangeT t P).1 + lvs (c.kids.take i)) (f := f0) (t := t0) hik)
          have hbk : belowT t (P ++ [(i : Int)]) = some c.kids[i] := by
            rw [belowT_append, HR.out.ex]
            simp [belowT, kidAt_in HCR.out hik]
          have hra : rangeT t (P ++ [(i : Int)]) = ((rangeT t P).1 + lvs (c.kids.take i), (rangeT t P).1 + lvs (c.kids.take i) + lv c.kids[i]) := by
            rw [(rangeT_append P t c [(i : Int)] HR.out.ex).1, rangeT_cons (k := c.kids[i]) (by simp), rangeT_nil, shift_shift]
            simp [shift]
          have HLK := Lib.hid (lv_kid_le HCR.out hik)
          have HTS := Lib.hid (lvs_take_succ hik)
          have HNX := Lib.hid (kid_nodes_lt HCR.out hik)
          have hlvx : (rangeT t P).1 + lvs (c.kids.take i) + lv c.kids[i] ≤ 1099511627776 := by
            have h1 := HR.out.lt
            have h2 := HLV.out
            have h3 := HLK.out
            omega
          obtain ⟨x, HX⟩ := nameIt (c.kids[i]'hik)
          rw [HX.out] at hbk hra HD HLK HTS HNX hlvx
          have HBK := Lib.hid hbk
          have HRA := Lib.hid hra
          obtain ⟨s, HS⟩ := nameIt ((rangeT t P).1 + lvs (c.kids.take i))
          rw [HS.out] at HRA HD hlvx
          obtain ⟨lx, HLX⟩ := nameIt (lv x)
          rw [HLX.out] at HRA HD hlvx
          clear hbk hra
          have HCL := Lib.hid (clone_int _ P wr HSL.out (by omega))
          go_wp2_with fail
          refine HCL.out.mono ?_
          rintro e w2 ⟨a2, c2, rfl, ho2, hb2⟩
          have HO2 := Lib.hid ho2
          have HB2 := Lib.hid hb2
          have hs2 : wr.heap.size ≤ w2.heap.size := hb2.size
          clear ho2 hb2 HCL
          go_wp2_with (at_builtin; refine wp_app1at elInt rfl _ _ rfl HO2.out rfl rfl (by simp) rfl rfl (by omega) (by unfold maxLen; omega) (by omega) ?_)
          intro v' w' ho hg2 hat
          obtain ⟨a', c', rfl, -, -⟩ := own_len ho
          have HB' : Hid (Below wr.heap.size wr w') := HB2.out.grown hg2 (by omega) (fun z e => (HO2.out.lt _ e).1)
          have hsl' : Sl w' (.slice a' (P ++ [(i : Int)]).length c') (ints (P ++ [(i : Int)])) := by
            rw [ints_append, List.length_append]; exact sl_of_own ho
          have hbx := bx_keep (bx_keep (bx_keep HBOX.out HBO.out) HM.out.2) HB'.out
          have HBX := Lib.hid hbx
          rw [HTR.out, HTT.out] at hbx
          obtain ⟨x0, x1, x2⟩ := bx_cells3 hbx
          have HBT := Lib.hid (HBW.out.trans (HB'.out.mono HBW.out.size))
          have hrg := rangeE t x _ a' c' (P ++ [(i : Int)]) w' (HVB.out.below HBT.out) hsl' HBK.out HNN.out
          unfold RangePost at hrg
          rw [HRA.out, HTR.out, HTT.out] at hrg
          have HSL' := Lib.hid hsl'
          have hPl : (P ++ [(i : Int)]).length = P.length + 1 := by simp
          rw [hPl] at hrg
          have HRG := Lib.hid hrg
          clear ho hg2 hat hsl' hbx hrg hPl
          go_wp2_with fail
          refine HRG.out.mono ?_
          rintro e w3 ⟨rfl, hb3⟩
          simp only []
          have HB3 := Lib.hid hb3
          clear hb3 x0 x1 x2 HRG
          have HM3 : Hid (Below wo.heap.size wo w3) := (HM.out.2.trans (HB'.out.mono HM.out.2.size)).trans (HB3.out.mono (Nat.le_trans HM.out.2.size HB'.out.size))
          by_cases hm : s ≤ f0 ∧ t0 ≤ s + lx
          · have hm1 : (s : Int) ≤ (f0 : Int) := by omega
            have hm2 : (t0 : Int) ≤ ((s + lx : Nat) : Int) := by omega
            have hne : ((P.length : Int) + 1 == (P.length : Int)) = false := by simp; omega
            have HR' : Hid (InsRel t f0 t0 w x (P ++ [(i : Int)]) (.slice a' (P.length + 1) c') w3) := by
              have hbz := HBT.out.trans (HB3.out.mono HBT.out.size)
              refine ⟨⟨_, bx_keep HBX.out HB3.out, HVB.out⟩, ?_, hbz, HBK.out, ?_, ?_, ?_⟩
              · have := HSL'.out.keep HB3.out
                simpa using this
              · rw [HRA.out]
                have h1 := HD.out
                rw [if_pos hm] at h1
                rw [← HR.out.eq, coverP_eq c, HKE.out, ← HM.out.1, HS.out, h1]
                simp
              · rw [HRA.out, HLX.out]
                have h1 := HLK.out
                have h2 := HR.out.lt
                have h3 := HS.out
                have h4 := HLX.out
                show s + lx ≤ lv t
                omega
              · have h1 := HNX.out
                have h2 := HR.out.len
                simp; omega
            go_wp2_with fail
            go_roundg (nodes x).length
            case measure => have := HNX.out; omega
            case rel => exact ⟨x, _, Nat.le_refl _, HR'⟩
          · have HM' : Hid (coverPL (i + 1) (c.kids.drop (i + 1)) ((rangeT t P).1 + lvs (c.kids.take (i + 1))) f0 t0 = coverPL 0 c.kids (rangeT t P).1 f0 t0 ∧ Below wo.heap.size wo w3) := by
              refine ⟨?_, HM3.out⟩
              rw [HTS.out, ← HM.out.1, HS.out, HD.out, if_neg hm, ← Nat.add_assoc, HS.out, HLX.out]
            by_cases hm1 : (s : Int) ≤ (f0 : Int)
            · have hm2 : ¬ (t0 : Int) ≤ ((s + lx : Nat) : Int) := by omega
              go_wp2_with fail
              go_roundg (n1 - (i + 1))
              case measure => omega
              case rel => exact ⟨i + 1, by omega, by omega, by go_num, rfl, HM'⟩
            · go_wp2_with fail
              go_roundg (n1 - (i + 1))
              case measure => omega
              case rel => exact ⟨i + 1, by omega, by omega, by go_num, rfl, HM'⟩
        · have hlt' : ¬ (i : Int) < (n1 : Int) := by omega
          have HE : Hid (P = coverP t 0 f0 t0) := by
            show _ = _
            rw [← HR.out.eq, coverP_eq c, HKE.out, ← HM.out.1, List.drop_of_length_le (by have := HNC.out; omega), coverPL]
            simp
          have hnb : ((P.length : Int) == (P.length : Int)) = true := by simp
          go_wp2_with fail
          go_ret
          refine ⟨_, rfl, ?_, HBW.out⟩
          rw [← HE.out]
          exact HSO.out.keep HM.out.2
end Go.Proofs.Ytjehmleckcmilaa
