/- The walk of the law TreePlaces. -/
import Derived.Test.YtjehmleckcmilaaPlaceHits
import Derived.Test.YtjehmleckcmilaaTwoT
import Derived.Deep.RegionHeld3
namespace Go.Proofs.Ytjehmleckcmilaa
open Go.RowKit
namespace TreePlaces

theorem placeNe (a b c d : Int) (w : World) : (binOp .neq 48 (.agg #[.int .i64 a, .int .i64 b]) (.agg #[.int .i64 c, .int .i64 d])).run Try.prog w = .ok (.bool (!(a == c && b == d))) w := by
  have h1 : Try.prog.underlying 48 = some (.struct (Try.prog.fieldsOf 48)) := by kernel_rfl
  have h2 : Try.prog.stoodInHeld 48 = false := by kernel_rfl
  have h3 := Try.underlying48
  have h5 := Try.underlying3
  rw [run_neq_struct, run_equalIn_agg (d := 9999) _ _ _ _ h1 h2]
  simp only [Program.fieldsOf, h3]
  by_cases hac : a = c <;> by_cases hbd : b = d <;> simp [Op.eqFields, go_sem, h5, hac, hbd]

theorem placeC_get {l : List (Nat × Nat)} {i : Nat} (h : i < l.length) : (placeC l)[i * 2]? = some (.int .i64 l[i].1) ∧ (placeC l)[i * 2 + 1]? = some (.int .i64 l[i].2) := by
  have e : l = l.take i ++ l[i] :: l.drop (i + 1) := by rw [List.getElem_cons_drop]; simp
  have hl : (l.take i).length = i := by simp; omega
  obtain ⟨x, hx⟩ : ∃ x, x = l[i] := ⟨_, rfl⟩
  rw [← hx] at e ⊢
  constructor
  · conv => lhs; rw [e]
    rw [placeC_append, List.getElem?_append_right (by rw [placeC_len, hl]; omega), placeC_len, hl]
    simp [placeC]
  · conv => lhs; rw [e]
    rw [placeC_append, List.getElem?_append_right (by rw [placeC_len, hl]; omega), placeC_len, hl, show i * 2 + 1 - i * 2 = 1 by omega]
    simp [placeC]

structure Mid (t : Tree) (w0 : World) (x y : Value) (wx : World) : Prop where
  pl : ∃ g cap, x = .slice (some ⟨g, 0, none⟩) (paths t).length cap ∧ wx.ownsRow w0.heap.size 48 2 x (paths t).length (placeC (pl t 0))
  ps : ∃ a cap, y = .slice a (paths t).length cap ∧ Rd AnyB wx (.sl ((paths t).map D.ints)) [y]
  bel : Below w0.heap.size w0 wx

theorem two_pl : pl twoT 0 = [(0, 2), (0, 1), (0, 1), (1, 2)] := by decide

set_option maxHeartbeats 4000000 in
set_option maxRecDepth 100000 in
theorem walk (t : Tree) (v : Value) (n f tz : Int) (w : World) (hv : Rd AnyB w (.sl (t.kids.map Tree.d)) [v]) (hN : (nodes t).length ≤ 1099511627776) :
    Calls Try.prog 4 #[.agg #[.int .i64 t.rule, .int .i64 t.term, v], .int .i64 n, .int .i64 f, .int .i64 tz] w fun e w' => e = .returned (.bool true) ∧ Below w.heap.size w w' := by
  obtain ⟨a, nk, cap, rfl⟩ := treeBox hv
  obtain ⟨w0, HW0⟩ := nameIt (w.alloc (.cells #[.int .i64 t.rule, .int .i64 t.term, .slice a nk cap] 43))
  have HB : Hid (Below w.heap.size w w0) := by rw [← HW0.out]; exact (Below.refl _ _).alloc (Nat.le_refl _) _
  have X0 : Hid (w0.heap[w.heap.size]? = some (.cells #[.int .i64 t.rule, .int .i64 t.term, .slice a nk cap] 43 (0, 0))) := by rw [← HW0.out]; exact bx_new _ _ _ rfl
  have HV := Lib.hid (hv.below HB.out)
  have HNN := Lib.hid hN
  have C1 := Lib.hid (fun W (hb : Below w0.heap.size w0 W) => placesE t _ W (HV.out.below hb) hN)
  have C2 := Lib.hid (fun W (hb : Below w0.heap.size w0 W) => pathsE _ t _ W (Nat.le_refl _) (HV.out.below hb) hN)
  have P0 : Hid (∀ W a c, Rd AnyB W (.sl (twoT.kids.map Tree.d)) [.slice a 2 c] → Calls Try.prog 23 #[.agg #[.int .i64 0, .int .i64 0, .slice a 2 c]] W (PlacesPost [(0, 2), (0, 1), (0, 1), (1, 2)] W)) := by
    intro W a c hr
    rw [← two_pl]
    exact placesE twoT _ W hr (by decide)
  have TW : Hid (∀ W, Calls Try.prog 24 #[] W fun e w' => ∃ a c, e = .returned (.agg #[.int .i64 0, .int .i64 0, .slice a 2 c]) ∧ Rd AnyB w' (.sl (twoT.kids.map Tree.d)) [.slice a 2 c] ∧ Below W.heap.size W w') := by
    intro W
    refine (twoE W).mono ?_
    rintro e w' ⟨v, rfl, hr, hb⟩
    obtain ⟨a, c, rfl, -, -⟩ := hr.form
    exact ⟨a, c, rfl, hr, hb⟩
  clear hv hN
  obtain ⟨tr, HTR⟩ := nameIt t.rule
  obtain ⟨tt, HTT⟩ := nameIt t.term
  rw [HTR.out, HTT.out] at HW0 C1 C2 X0
  rw [HTR.out, HTT.out]
  go_enter Try.func4, Try.ntmps4
  go_wp2_with fail
  rw [HW0.out]
  refine (TW.out _).mono ?_
  rintro e w1 ⟨a1, c1, rfl, hr1, hb1⟩
  have HP1 := Lib.hid (P0.out _ _ _ hr1)
  have HB1 := Lib.hid hb1
  clear hr1 hb1
  go_wp2_with fail
  refine HP1.out.mono ?_
  rintro e w2 ⟨g2, c2, rfl, ho2, hb2⟩
  have HB2 : Hid (Below w0.heap.size w0 w2) := HB1.out.trans (hb2.mono HB1.out.size)
  have l2 := ho2.cellAt 2 (by decide)
  have l3 := ho2.cellAt 3 (by decide)
  simp [placeC] at l2 l3
  have hpn := placeNe 0 1 0 1
  have heg : Try.prog.eqGuardType Try.prog.depth 48 = false := by kernel_rfl
  rw [show (!((0 : Int) == 0 && (1 : Int) == 1)) = false by decide] at hpn
  have hc2 : 4 ≤ c2 ∧ c2 ≤ 9223372036854775807 := by have := own_len ho2; obtain ⟨_, _, e, h1, h2⟩ := this; cases e; unfold maxLen at h2; exact ⟨h1, h2⟩
  simp only [List.length_cons, List.length_nil, Nat.zero_add, Nat.reduceAdd]
  clear ho2 hb2 HP1 TW P0
  obtain ⟨x0, x1, x2⟩ := bx_cells3 (bx_keep X0.out HB2.out)
  go_upto_region 4 with fail
  go_cut [10, 11] (fun x y wx => Hid (Mid t w0 x y wx))
  case first =>
    go_region_held3 (fun w' => w'.cell? ⟨w.heap.size, 0, none⟩ = some (.int .i64 tr) ∧ w'.cell? ⟨w.heap.size, 0 + 1, none⟩ = some (.int .i64 tt) ∧ w'.cell? ⟨w.heap.size, 0 + 2, none⟩ = some (.slice a nk cap))
      (first | exact bx_cells3 (bx_keep X0.out HB2.out.drew) | exact bx_cells3 (bx_keep X0.out HB4.out) | exact bx_cells3 (bx_keep X0.out HB3.out) | fail)
      (first
        | (go_at_call 23; (with_reducible refine (C1.out _ HB2.out.drew).mono ?_); rintro e w3 ⟨g3, c3, rfl, ho3, hb3⟩; have HO3 := Lib.hid ho3; have HB3 : Hid (Below w0.heap.size w0 w3) := HB2.out.drew.trans (hb3.mono HB2.out.size); clear ho3 hb3)
        | (go_at_call 25; (with_reducible refine (C2.out _ HB3.out).mono ?_); rintro e w4 ⟨v4, rfl, hr4, hb4⟩; have HR4 := Lib.hid hr4; have HO4 := Lib.hid (own_keep HO3.out hb4); have HB4 : Hid (Below w0.heap.size w0 w4) := HB3.out.trans (hb4.mono HB3.out.size); clear hr4 hb4)
        | fail)
    go_wp2_with fail
    go_meet
    have hl : (pl t 0).length = (paths t).length := by rw [pl_len, paths_len]
    have h3 := HO4.out
    rw [hl] at h3
    rw [hl]
    obtain ⟨a4, c4, rfl, -, -⟩ := HR4.out.form
    have h4 := HR4.out.any
    rw [List.length_map] at h4 ⊢
    exact ⟨⟨g3, c3, rfl, ownsRow_le' h3 (by have := HB2.out.size; simpa using this)⟩, ⟨a4, c4, rfl, h4⟩, HB4.out⟩
  case rest =>
    clear x0 x1 x2 l2 l3 C1 C2 hpn
    obtain ⟨g3, c3, rfl, ho3⟩ := hcut.out.pl
    obtain ⟨a4, c4, rfl, hr4⟩ := hcut.out.ps
    have HBC := Lib.hid hcut.out.bel
    have hb3 := own_len ho3
    obtain ⟨_, _, e3, hl3, hc3⟩ := hb3
    cases e3
    have hb4 := hr4.bounds
    unfold maxLen at hc3 hb4
    obtain ⟨-, hb41, hb42⟩ := hb4
    have HPR : Hid (pl t 0 = (paths t).map (rangeT t)) := pl_range t
    have HPB : Hid (∀ p ∈ paths t, ∃ x, belowT t p = some x) := paths_below t
    have HFA : Hid (found t n (paths t) = if 0 ≤ n ∧ n < lv t then some (leafP t n.toNat) else none) := found_all t n
    have HPN : Hid ((paths t).length ≤ 1099511627776) := by show _ ≤ _; rw [paths_len]; exact HNN.out
    rw [HPR.out] at ho3
    have HO3 := Lib.hid ho3
    have HR4 := Lib.hid hr4
    obtain ⟨ps, HPS⟩ := nameIt (paths t)
    rw [HPS.out] at HO3 HR4 hl3 hb41 HPB HFA HPN
    rw [HPS.out]
    have hpn := HPN.out
    have hlen : ((ps.length : Int) != (ps.length : Int)) = false := by simp
    have HV2 : Hid (∀ W, Below wc.heap.size wc W → Rd AnyB W (.sl (t.kids.map Tree.d)) [.slice a nk cap]) := fun W hb => (HV.out.below HBC.out).below hb
    have HX2 : Hid (∀ W, Below wc.heap.size wc W → W.heap[w.heap.size]? = some (.cells #[.int .i64 tr, .int .i64 tt, .slice a nk cap] 43 (0, 0))) := fun W hb => bx_keep (bx_keep X0.out HBC.out) hb
    have HS0 : Hid (Sl wc (.slice none 0 0) (ints ((found t n (ps.take 0)).getD [])) ∧ Below wc.heap.size wc wc) := ⟨⟨none, 0, rfl, by simp [found, ints], by simp, fun _ => rfl, fun i hi => by simp [found, ints] at hi⟩, Below.refl _ _⟩
    clear hcut ho3 hr4 HB1 HB2
    go_wp2_with fail
    go_loopg [12, 13, 47] ps.length (fun gg v12 v13 v47 wr => ∃ i : Nat, i ≤ ps.length ∧ ps.length - i ≤ gg ∧ v47 = .int .i64 i ∧ v13 = .bool (found t n (ps.take i)).isSome ∧ Hid (Sl wr v12 (ints ((found t n (ps.take i)).getD [])) ∧ Below wc.heap.size wc wr))
    case atStart => exact ⟨0, by omega, by omega, rfl, by simp [found], HS0⟩
    case round =>
      clear HS0
      obtain ⟨i, hi, hg, rfl, rfl, HJ⟩ := hrel
      obtain ⟨al, cl, rfl⟩ := HJ.out.1.form
      obtain ⟨ll, HLL⟩ := nameIt (ints ((found t n (ps.take i)).getD [])).length
      rw [HLL.out] at HJ
      rw [HLL.out]
      by_cases hlt : i < ps.length
      · have hlt' : (i : Int) < (ps.length : Int) := by omega
        obtain ⟨b1, off1, cs, hae1, -, hb1l, hcs, hcl, hcc⟩ := (HR4.out.below HJ.out.2).at (intsD_cells ps) (by decide) (i := i) (by simpa using hlt)
        rw [List.getElem_map] at hcs
        obtain ⟨pv, rfl⟩ := List.length_eq_one_iff.1 hcl
        have d0 := hcc 0 (by simp)
        simp only [Nat.mul_one, Nat.add_zero, List.getElem_cons_zero] at d0
        have hsl := sl_rd hcs
        obtain ⟨ap, cp, rfl⟩ := hsl.form
        rw [ints_len] at hsl d0
        obtain ⟨x, hx⟩ := HPB.out ps[i] (List.getElem_mem hlt)
        have hgt := placeC_get (l := ps.map (rangeT t)) (i := i) (by simpa using hlt)
        rw [List.getElem_map] at hgt
        have hoq := own_keep HO3.out HJ.out.2
        have q0 := hoq.cellAt (i * 2) (by omega)
        have q1 := hoq.cellAt (i * 2 + 1) (by omega)
        rw [hgt.1] at q0
        rw [hgt.2] at q1
        have HFS : Hid (found t n (ps.take (i + 1)) = if hit t n ps[i] then some ps[i] else found t n (ps.take i)) := by
          show _ = _
          rw [List.take_succ_eq_append_getElem hlt, found_snoc]
        have HHT : Hid (hit t n ps[i] = (x.rule == -1 && decide (((rangeT t ps[i]).1 : Int) = n))) := by
          show _ = _
          unfold hit leafAt; rw [hx]
        obtain ⟨p, HP⟩ := nameIt (ps[i]'hlt)
        rw [HP.out] at hsl d0 hx q0 q1 HFS HHT
        have hrg := rangeE t x _ ap cp p wr (HV2.out _ HJ.out.2) hsl hx HNN.out
        unfold RangePost at hrg
        rw [HTR.out, HTT.out] at hrg
        obtain ⟨ra, HRA⟩ := nameIt (rangeT t p).1
        obtain ⟨rb, HRB⟩ := nameIt (rangeT t p).2
        rw [HRA.out] at q0 hrg HHT
        rw [HRB.out] at q1 hrg
        have HRG := Lib.hid hrg
        have HSL := Lib.hid hsl
        have HXB := Lib.hid hx
        obtain ⟨x0, x1, x2⟩ := bx_cells3 (HX2.out _ HJ.out.2)
        subst hae1
        clear hcs hcl hcc hsl hgt hoq hrg hx
        go_wp2_with fail
        refine HRG.out.mono ?_
        rintro e w5 ⟨rfl, hb5⟩
        simp only []
        have HB5 := Lib.hid (HJ.out.2.trans (hb5.mono HJ.out.2.size))
        have HB5' := Lib.hid hb5
        have p0 := (hb5.cell (p := ⟨g3, i * 2, none⟩) (lt_of_cell q0)).trans q0
        have p1 := (hb5.cell (p := ⟨g3, i * 2 + 1, none⟩) (lt_of_cell q1)).trans q1
        have hne := placeNe ra rb ra rb
        rw [show (!((ra : Int) == ra && (rb : Int) == rb)) = false by simp] at hne
        have hbc := belowE t _ ap cp p w5 (HV2.out _ HB5.out) (HSL.out.keep hb5)
        rw [HXB.out, HTR.out, HTT.out] at hbc
        have HBC2 := Lib.hid hbc
        clear x0 x1 x2 q0 q1 hb5 HRG d0 hbc
        obtain ⟨x0, x1, x2⟩ := bx_cells3 (HX2.out _ HB5.out)
        go_wp2_with fail
        refine HBC2.out.mono ?_
        rintro e w6 ⟨v6, rfl, hr6, hb6⟩
        simp only [Option.getD_some, foundB, Option.isSome_some] at hr6 ⊢
        obtain ⟨a6, n6, c6, rfl⟩ := treeBox hr6
        obtain ⟨w7, HW7⟩ := nameIt (w6.alloc (.cells #[.int .i64 x.rule, .int .i64 x.term, .slice a6 n6 c6] 43))
        have HB7 : Hid (Below w5.heap.size w5 w7) := by rw [← HW7.out]; exact hb6.trans ((Below.refl _ _).alloc hb6.size _)
        obtain ⟨xr, HXR⟩ := nameIt x.rule
        obtain ⟨xt, HXT⟩ := nameIt x.term
        rw [HXR.out] at HHT HW7
        rw [HXT.out] at HW7
        rw [HXR.out, HXT.out]
        have HB8 := Lib.hid (HB5.out.trans (HB7.out.mono HB5.out.size))
        clear hr6 hb6 x0 x1 x2 HBC2 p0 p1 hne
        by_cases hm : xr = -1 ∧ (ra : Int) = n
        · obtain ⟨hm1, hm2⟩ := hm
          have hb1 : (xr == -1) = true := by simpa using hm1
          have hb2 : ((ra : Int) == n) = true := by simpa using hm2
          have HF' : Hid (found t n (ps.take (i + 1)) = some p) := by
            show _ = _
            rw [HFS.out, HHT.out, if_pos (by simp [hm1, hm2])]
          have HJ' : Hid (Sl w7 (.slice ap p.length cp) (ints ((found t n (ps.take (i + 1))).getD [])) ∧ Below wc.heap.size wc w7) := by
            rw [HF'.out]
            exact ⟨(HSL.out.keep HB5'.out).keep HB7.out, HB8.out⟩
          clear hm1 hm2
          go_wp2_with fail
          rw [HW7.out]
          go_roundg (ps.length - (i + 1))
          case measure => omega
          case rel => exact ⟨i + 1, by omega, by omega, by go_num, by rw [HF'.out]; rfl, HJ'⟩
        · have HF' : Hid (found t n (ps.take (i + 1)) = found t n (ps.take i)) := by
            show _ = _
            rw [HFS.out, HHT.out, if_neg (by simpa using hm)]
          have HJ' : Hid (Sl w7 (.slice al ll cl) (ints ((found t n (ps.take (i + 1))).getD [])) ∧ Below wc.heap.size wc w7) := by
            rw [HF'.out]
            exact ⟨(HJ.out.1.keep HB5'.out).keep HB7.out, HB8.out⟩
          by_cases hm1 : xr = -1
          · have hb1 : (xr == -1) = true := by simpa using hm1
            have hb2 : ((ra : Int) == n) = false := by simpa using fun h => hm ⟨hm1, h⟩
            clear hm hm1
            go_wp2_with fail
            rw [HW7.out]
            go_roundg (ps.length - (i + 1))
            case measure => omega
            case rel => exact ⟨i + 1, by omega, by omega, by go_num, by rw [HF'.out], HJ'⟩
          · have hb1 : (xr == -1) = false := by simpa using hm1
            clear hm hm1
            go_wp2_with fail
            rw [HW7.out]
            go_roundg (ps.length - (i + 1))
            case measure => omega
            case rel => exact ⟨i + 1, by omega, by omega, by go_num, by rw [HF'.out], HJ'⟩
      · have hlt' : ¬ (i : Int) < (ps.length : Int) := by omega
        obtain rfl : i = ps.length := by omega
        rw [List.take_length] at HJ
        rw [List.take_length]
        have HLF : Hid (∀ W, Below wc.heap.size wc W → Calls Try.prog 28 #[.agg #[.int .i64 tr, .int .i64 tt, .slice a nk cap], .int .i64 n] W fun e w' => ∃ v, e = .returned (.tuple #[v, .int .i64 (if (found t n ps).isSome then 0 else 5)]) ∧ Sl w' v (ints ((found t n ps).getD [])) ∧ Below W.heap.size W w') := by
          intro W hb
          have h := leafE t _ n W (HV2.out W hb) HNN.out
          rw [HTR.out, HTT.out] at h
          refine h.mono ?_
          rintro e w' ⟨h1, h2⟩
          rw [HFA.out]
          by_cases hn : 0 ≤ n ∧ n < lv t
          · rw [if_pos hn] at h2 ⊢
            obtain ⟨v, rfl, h3⟩ := h2
            exact ⟨v, rfl, h3, h1⟩
          · rw [if_neg hn] at h2 ⊢
            subst h2
            exact ⟨_, rfl, ⟨none, 0, rfl, by simp [ints], by simp, fun _ => rfl, fun i hi => by simp [ints] at hi⟩, h1⟩
        have HCV : Hid (∀ W, Below wc.heap.size wc W → Calls Try.prog 29 #[.agg #[.int .i64 tr, .int .i64 tt, .slice a nk cap], .int .i64 f, .int .i64 tz] W (CoverPost t f tz W)) := by
          intro W hb
          have h := coverE t _ f tz W (HV2.out W hb) HNN.out
          rw [HTR.out, HTT.out] at h
          exact h
        have HYI : Hid (∀ W, Below wc.heap.size wc W → Calls Try.prog 30 #[.agg #[.int .i64 tr, .int .i64 tt, .slice a nk cap]] W fun e w' => ∃ a c, e = .returned (.slice a (lv t) c) ∧ Below W.heap.size W w') := by
          intro W hb
          have h := yieldE t _ W (HV2.out W hb) HNN.out
          rw [HTR.out, HTT.out] at h
          refine h.mono ?_
          rintro e w' ⟨v, rfl, h1, h2⟩
          obtain ⟨a, c, rfl⟩ := h1.form
          rw [ints_len]
          exact ⟨a, c, rfl, h2⟩
        have HIN : Hid (∀ W (f0 t0 : Nat), Below wc.heap.size wc W → Calls Try.prog 31 #[.agg #[.int .i64 tr, .int .i64 tt, .slice a nk cap], .int .i64 f0, .int .i64 t0] W (IntsPost (coverP t 0 f0 t0) W)) := by
          intro W f0 t0 hb
          have h := insideE t _ f0 t0 W (HV2.out W hb) HNN.out
          rw [HTR.out, HTT.out] at h
          exact h
        have HLV : Hid (lv t ≤ 1099511627776) := Nat.le_trans (lv_le t) HNN.out
        obtain ⟨F, HF⟩ := nameIt (found t n ps)
        rw [HF.out] at HLF HJ
        rw [HF.out]
        obtain ⟨fb, HFB⟩ := nameIt F.isSome
        rw [HFB.out] at HLF
        rw [HFB.out]
        obtain ⟨x0, x1, x2⟩ := bx_cells3 (HX2.out _ HJ.out.2)
        go_wp2_with fail
        refine (HLF.out _ HJ.out.2).mono ?_
        rintro e w5 ⟨v5, rfl, hs5, hb5⟩
        simp only []
        obtain ⟨a5, c5, rfl⟩ := hs5.form
        have HB5 := Lib.hid (HJ.out.2.trans (hb5.mono HJ.out.2.size))
        have HEQ := Lib.hid (equal _ _ _ _ w5 hs5 (HJ.out.1.keep hb5))
        rw [show (F.getD [] == F.getD []) = true by simp] at HEQ
        obtain ⟨l5, HL5⟩ := nameIt (ints (F.getD [])).length
        rw [HL5.out] at HEQ
        rw [HL5.out]
        clear hs5 hb5 x0 x1 x2 HLF
        go_upto_region 20 with fail
        go_cut [105] (fun p wx => Hid (p = .bool false ∧ Below w5.heap.size w5 wx))
        case first =>
          cases fb with
          | true =>
            simp only [if_true]
            go_wp2_with fail
            refine HEQ.out.mono ?_
            rintro e w6 ⟨rfl, hb6⟩
            have HB6 := Lib.hid hb6
            clear hb6
            go_wp2_with fail
            go_meet
            exact ⟨rfl, HB6.out⟩
          | false =>
            go_wp2_with fail
            refine HEQ.out.mono ?_
            rintro e w6 ⟨rfl, hb6⟩
            have HB6 := Lib.hid hb6
            clear hb6
            go_wp2_with fail
            go_meet
            exact ⟨rfl, HB6.out⟩
        case rest =>
          obtain ⟨rfl, hb6⟩ := hcut.out
          have HB6 := Lib.hid (HB5.out.trans (hb6.mono HB5.out.size))
          have HFIN : Hid (∀ W, Below wc.heap.size wc W → Below w.heap.size w W) := by
            intro W hb
            have h1 := HB.out.trans (HBC.out.mono HB.out.size)
            have h2 := h1.trans (HB6.out.mono h1.size)
            exact h2.trans (hb.mono h2.size)
          obtain ⟨x0, x1, x2⟩ := bx_cells3 (HX2.out _ HB6.out)
          have hlv := HLV.out
          obtain ⟨ev, HEV⟩ := nameIt (if fb = true then (0 : Int) else 5)
          rw [HEV.out]
          clear hcut hb6 HEQ
          go_wp2_with fail
          refine (HCV.out _ HB6.out).mono ?_
          rintro e w7 ⟨hb7, h7⟩
          have HB7 := Lib.hid (HB6.out.trans (hb7.mono HB6.out.size))
          have HB7' := Lib.hid hb7
          clear x0 x1 x2 hb7
          obtain ⟨x0, x1, x2⟩ := bx_cells3 (HX2.out _ HB7.out)
          by_cases hc : f < 0 ∨ tz < f ∨ (lv t : Int) < tz
          · rw [if_pos hc] at h7
            subst h7
            simp only []
            obtain ⟨lt, HLT⟩ := nameIt (lv t)
            rw [HLT.out] at HYI hc hlv
            by_cases h1 : f < 0
            · have hb1 : decide (f < 0) = true := by simpa using h1
              go_wp2_with fail
              go_ret
              exact ⟨rfl, HFIN.out _ HB7'.out⟩
            · have hb1 : decide (f < 0) = false := by simpa using h1
              by_cases h2 : tz < f
              · have hb2 : decide (tz < f) = true := by simpa using h2
                go_wp2_with fail
                go_ret
                exact ⟨rfl, HFIN.out _ HB7'.out⟩
              · have hb2 : decide (tz < f) = false := by simpa using h2
                have h3 : (lt : Int) < tz := by omega
                go_wp2_with fail
                refine (HYI.out _ HB7.out).mono ?_
                rintro e w8 ⟨a8, c8, rfl, hb8⟩
                have HB8 := Lib.hid (HB7'.out.trans (hb8.mono HB7'.out.size))
                clear hb8 x0 x1 x2
                go_wp2_with fail
                go_ret
                exact ⟨rfl, HFIN.out _ HB8.out⟩
          · rw [if_neg hc] at h7
            obtain ⟨v7, rfl, hs7⟩ := h7
            simp only []
            obtain ⟨f0, rfl⟩ : ∃ k : Nat, f = (k : Int) := ⟨f.toNat, by omega⟩
            obtain ⟨t0, rfl⟩ : ∃ k : Nat, tz = (k : Int) := ⟨tz.toNat, by omega⟩
            simp only [Int.toNat_natCast] at hs7
            obtain ⟨a7, c7, rfl⟩ := hs7.form
            obtain ⟨l7, HL7⟩ := nameIt (ints (coverP t 0 f0 t0)).length
            rw [HL7.out] at hs7
            rw [HL7.out]
            have HS7 := Lib.hid hs7
            obtain ⟨lt, HLT⟩ := nameIt (lv t)
            rw [HLT.out] at HYI hc hlv
            have hb1 : decide ((f0 : Int) < 0) = false := by simp
            have hb2 : decide ((t0 : Int) < (f0 : Int)) = false := by simp; omega
            have h3 : ¬ (lt : Int) < (t0 : Int) := by omega
            have h3' : (t0 : Int) ≤ (lt : Int) := by omega
            have h4 : ¬ (t0 : Int) < (f0 : Int) := by omega
            have h4' : (f0 : Int) ≤ (t0 : Int) := by omega
            have h5 : f0 ≤ t0 := by omega
            have h6 : ¬ t0 < f0 := by omega
            have h7 : t0 ≤ lt := by omega
            have h8 : ¬ lt < t0 := by omega
            clear hs7 hc
            go_wp2_with fail
            refine (HYI.out _ HB7.out).mono ?_
            rintro e w8 ⟨a8, c8, rfl, hb8⟩
            have HB8 := Lib.hid (HB7.out.trans (hb8.mono HB7.out.size))
            have HB8' := Lib.hid (HB7'.out.trans (hb8.mono HB7'.out.size))
            have HS8 := Lib.hid (HS7.out.keep hb8)
            clear hb8 x0 x1 x2
            obtain ⟨x0, x1, x2⟩ := bx_cells3 (HX2.out _ HB8.out)
            go_wp2_with fail
            refine (HIN.out _ f0 t0 HB8.out).mono ?_
            rintro e w9 ⟨v9, rfl, hs9, hb9⟩
            obtain ⟨a9, c9, rfl⟩ := hs9.form
            have HEQ := Lib.hid (equal _ _ _ _ w9 (HS8.out.keep hb9) hs9)
            rw [show (coverP t 0 f0 t0 == coverP t 0 f0 t0) = true by simp, HL7.out] at HEQ
            rw [HL7.out]
            have HB9' := Lib.hid (HB8'.out.trans (hb9.mono HB8'.out.size))
            clear hs9 hb9 x0 x1 x2
            go_wp2_with fail
            refine HEQ.out.mono ?_
            rintro e wA ⟨rfl, hbA⟩
            have HBA' := Lib.hid (HB9'.out.trans (hbA.mono HB9'.out.size))
            clear hbA
            go_wp2_with fail
            go_ret
            exact ⟨rfl, HFIN.out _ HBA'.out⟩
end TreePlaces
end Go.Proofs.Ytjehmleckcmilaa
