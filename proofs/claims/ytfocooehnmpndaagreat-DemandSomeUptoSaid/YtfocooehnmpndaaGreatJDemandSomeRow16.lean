/- The contract of the reference's Worth. parlref4.World.Values. parlref4.World.Rows. parllaw4.sameRows of equal tables. The contract of attr.Find. The contract of sameExpr, of two expressions that are the same. The walk of the law AttrChecks. The law DemandAll. Sets of places in memory: map[demand.Place]bool, map[parlref4.Inst]bool; the number of elements is exact. Plain: what is counted; a set that is closed. (*Eval).count. Plain: the node at a path. -/
import Derived.Test.YtfocooehnmpndaaGreatJDemandSomeRow8
import Derived.Test.YtfocooehnmpndaaGreatJDemandSomeRow15
import Derived.Test.YtfocooehnmpndaaGreatJDemandSomeRow9
import Derived.Test.YtfocooehnmpndaaGreatJDemandSomeRow1
import Derived.Deep.LoopGhost
import Derived.Test.YtfocooehnmpndaaGreatJDemandSomeRow7
import Derived.Test.YtfocooehnmpndaaGreatJDemandSomeRow6
import Derived.Test.YtfocooehnmpndaaGreatJDemandSomeRow10
import Derived.Test.YtfocooehnmpndaaGreatJDemandSomeRow12
import Derived.Test.YtfocooehnmpndaaGreatJDemandSomeRow13
namespace Go.Proofs.YtfocooehnmpndaaGreat
open Go.RowKit
namespace At
set_option maxHeartbeats 8000000 in
set_option maxRecDepth 100000 in
theorem worthE (RP : Ref → Prop) (g : Nat) (lb : Array Value) (get : Ref → Int) (hget : ∀ r, RP r → inM (get r)) (eg : ∀ args w, (callFunc g args).run Tryz.prog w = .ok (.enter g args) w) : ∀ (m : Nat) (x : Expr) (v : Value) (w : World), x.size ≤ m → okX RP x → GetAt RP g lb get w → Rd AnyB w (.sl (x.args.map Expr.d)) [v] → x.size ≤ 100000 →
    Calls Tryz.prog 45 #[.agg #[.int .i64 x.kind, .int .i64 x.n, .int .i64 x.ref.at', .int .i64 x.ref.attr, v], .func (.func g) #[] lb] w (fun e w' => e = .returned (.int .i64 (worth get x)) ∧ Below w.heap.size w w') := by
  intro m
  induction m with
  | zero => intro x v w hm; have := x.size_pos; omega
  | succ m ih =>
  intro x v w hm hx hgf hv hbig
  obtain ⟨a, cap, rfl, hc1, hc2⟩ := hv.form
  rw [List.length_map] at hc1 hv ⊢
  unfold maxLen at hc2
  have HV := Lib.hid hv
  have HM := Lib.hid hm
  have HSZ := Lib.hid x.size_eq
  have HXS := Lib.hid hx.self
  have hkn : x.args.length ≤ 100000 := by have := sizeL_len x.args; rw [Expr.size_eq] at hbig; omega
  have IH := Lib.hid (fun y u W h1 h2 h3 h4 => ih y u W h1 h2 h3 h4)
  have HOK := Lib.hid (fun y (hy : y ∈ x.args) => hx.kid hy)
  have HWE := Lib.hid (worth_eq get x)
  have HVM := Lib.hid (worthL_inM hget hx)
  have HVI := Lib.hid (fun (i : Nat) (h : i < x.args.length) => show ∀ h2, (worthL get x.args)[i]'h2 = worth get x.args[i] from fun h2 => by simp [worthL_map])
  have HVL : Hid ((worthL get x.args).length = x.args.length) := by show _ = _; rw [worthL_map, List.length_map]
  have HGR := Lib.hid (hget x.ref)
  have HKBIG := Lib.hid (fun y (hy : y ∈ x.args) => show y.size ≤ 100000 by
    obtain ⟨i, hi, rfl⟩ := List.getElem_of_mem hy
    have := sizeL_kid hi
    rw [Expr.size_eq] at hbig
    omega)
  obtain ⟨w0, HW0⟩ := nameIt (w.alloc (.cells #[.int .i64 x.kind, .int .i64 x.n, .int .i64 x.ref.at', .int .i64 x.ref.attr, .slice a x.args.length cap] 86))
  have HB0 : Hid (Below w.heap.size w w0) := by rw [← HW0.out]; exact (Below.refl _ _).alloc (Nat.le_refl _) _
  have X0 : Hid (w0.heap[w.heap.size]? = some (.cells #[.int .i64 x.kind, .int .i64 x.n, .int .i64 x.ref.at', .int .i64 x.ref.attr, .slice a x.args.length cap] 86 (0, 0))) := by rw [← HW0.out]; exact bx_new _ _ _ rfl
  have HS0 : Hid (w0.heap.size = w.heap.size + 1) := by show _ = _; rw [← HW0.out]; simp
  have HGF := Lib.hid (fun (W : World) (hb : Below w0.heap.size w0 W) => (hgf.below HB0.out).below hb)
  obtain ⟨V, HVV⟩ := nameIt (worthL get x.args)
  obtain ⟨K, HKN⟩ := nameIt x.args
  simp only [HVV.out] at HWE HVM HVI HVL
  simp only [HKN.out] at HVI HVL HKBIG HOK HV HSZ
  obtain ⟨kn, HKL⟩ := nameIt K.length
  obtain ⟨q0, HQ0⟩ := nameIt x.kind
  obtain ⟨q1, HQ1⟩ := nameIt x.n
  obtain ⟨q2, HQ2⟩ := nameIt x.ref.at'
  obtain ⟨q3, HQ3⟩ := nameIt x.ref.attr
  obtain ⟨gr, HGRR⟩ := nameIt (get x.ref)
  obtain ⟨rs, HRS⟩ := nameIt (worth get x)
  rw [HKN.out, HKL.out] at hc1 X0 HW0 hkn ⊢
  rw [HKL.out] at HV HVL
  rw [HQ0.out, HQ1.out, HQ2.out, HQ3.out] at X0 HW0 ⊢
  rw [HRS.out, HQ0.out, HQ1.out, HGRR.out] at HWE
  rw [HGRR.out] at HGR
  rw [HRS.out]
  have HOA : Hid (okArgs q0 kn = true) := by have h := HXS.out.1; rw [HQ0.out, HKN.out, HKL.out] at h; exact h
  have HO1R : Hid (q0 = 1 → RP x.ref) := fun h => HXS.out.2.2 (by rw [HQ0.out]; exact h)
  have HO0 : Hid (w0.ownsRow (w.heap.size + 1) 3 1 (.slice none 0 0) 0 (ints (V.take 0))) := World.ownsRow_nil _ _ _ _
  have HB00 := Lib.hid (Below.refl w0.heap.size w0)
  have HGC := Lib.hid (fun (W : World) (hb : Below w0.heap.size w0 W) (h : q0 = 1) => HGF.out W hb W x.ref (HO1R.out h) (Below.refl _ _))
  rw [HQ2.out, HQ3.out, HGRR.out] at HGC
  obtain ⟨x0, x1, x2, x3, x4⟩ := bx_cells5 X0.out
  have HEG := Lib.hid eg
  have HHG := Lib.hid hget
  clear hm hx hgf hv ih hbig hget
  go_enter Tryz.func45, Tryz.ntmps45
  go_upto_region 1 with fail
  rw [HW0.out]
  go_wp2_with fail
  clear x0 x1 x2 x3 x4
  go_loopg [5, 20] kn (fun gg vl vc wr => ∃ i : Nat, i ≤ kn ∧ kn - i ≤ gg ∧ vc = .int .i64 i ∧ Hid (wr.ownsRow (w.heap.size + 1) 3 1 vl i (ints (V.take i))) ∧ Hid (Below w0.heap.size w0 wr))
  case atStart => exact ⟨0, by omega, by omega, rfl, HO0, HB00⟩
  case round =>
    clear HO0 HB00
    obtain ⟨i, hi, hg, rfl, HO, HB⟩ := hrel
    by_cases hlt : i < kn
    · have hlt' : (i : Int) < (kn : Int) := by omega
      have hltK : i < K.length := by rw [HKL.out]; exact hlt
      have hbw : Below w.heap.size w wr := HB0.out.trans (HB.out.mono HB0.out.size)
      obtain ⟨b, off, v, hae, -, hbl, e0, e1, e2, e3, e4, hkid⟩ := Rd.arg (HV.out.below hbw) hltK
      obtain ⟨av, cv, rfl, -, -⟩ := hkid.form
      rw [List.length_map] at e4 hkid
      have hms : K[i].size ≤ m := by
        have h1 := HM.out
        rw [HSZ.out] at h1
        have := sizeL_kid hltK
        omega
      have hvi : i < V.length := by rw [HVL.out]; exact hlt
      have HVT : Hid (V.take (i + 1) = V.take i ++ [worth get (K[i]'hltK)]) := by
        show _ = _
        rw [List.take_succ_eq_append_getElem hvi]
        congr 2
        rw [HVI.out i hltK hvi]
      obtain ⟨w1, HW1⟩ := nameIt (wr.alloc (.cells #[.int .i64 K[i].kind, .int .i64 K[i].n, .int .i64 K[i].ref.at', .int .i64 K[i].ref.attr, .slice av K[i].args.length cv] 86))
      have hb1 : Below wr.heap.size wr w1 := by rw [← HW1.out]; exact (Below.refl _ _).alloc (Nat.le_refl _) _
      have X1 : Hid (w1.heap[wr.heap.size]? = some (.cells #[.int .i64 K[i].kind, .int .i64 K[i].n, .int .i64 K[i].ref.at', .int .i64 K[i].ref.attr, .slice av K[i].args.length cv] 86 (0, 0))) := by rw [← HW1.out]; exact bx_new _ _ _ rfl
      have HB1 : Hid (Below w0.heap.size w0 w1) := HB.out.trans (hb1.mono HB.out.size)
      have hih := IH.out K[i] _ w1 hms (HOK.out _ (List.getElem_mem hltK)) (HGF.out w1 HB1.out) (hkid.below hb1) (HKBIG.out _ (List.getElem_mem hltK))
      obtain ⟨kid, HKI⟩ := nameIt (K[i]'hltK)
      rw [HKI.out] at e0 e1 e2 e3 e4 hih HVT X1 HW1
      obtain ⟨q0, HQ0⟩ := nameIt kid.kind
      obtain ⟨q1, HQ1⟩ := nameIt kid.n
      obtain ⟨q2, HQ2⟩ := nameIt kid.ref.at'
      obtain ⟨q3, HQ3⟩ := nameIt kid.ref.attr
      obtain ⟨qn, HQN⟩ := nameIt kid.args.length
      obtain ⟨val, HVAL⟩ := nameIt (worth get kid)
      rw [HVAL.out] at hih HVT
      rw [HQ0.out, HQ1.out, HQ2.out, HQ3.out, HQN.out] at hih X1 HW1
      rw [HQ0.out] at e0
      rw [HQ1.out] at e1
      rw [HQ2.out] at e2
      rw [HQ3.out] at e3
      rw [HQN.out] at e4
      have HC := Lib.hid hih
      have HO1 := Lib.hid (own_keep HO.out hb1)
      obtain ⟨ar, cr, hvr, hr1, hr2⟩ := own_len HO1.out
      obtain ⟨y0, y1, y2, y3, y4⟩ := bx_cells5 X1.out
      subst hae hvr
      clear hih hkid hms hb1 hbw hvi
      go_upto_region 5 with fail
      rw [HW1.out]
      clear e0 e1 e2 e3 e4
      go_wp2_with fail
      refine HC.out.mono ?_
      rintro e w2 ⟨rfl, hb2⟩
      have HB2 : Hid (Below w0.heap.size w0 w2) := HB1.out.trans (hb2.mono HB1.out.size)
      have HO2 := Lib.hid (own_keep HO1.out hb2)
      have hle2 : w.heap.size + 1 ≤ w2.heap.size := by have := HB2.out.size; have := HS0.out; omega
      clear hb2 y0 y1 y2 y3 y4
      go_wp2_with (at_builtin; refine wp_app1at elInt rfl _ _ rfl HO2.out rfl rfl (by simp) rfl rfl (by omega) (by unfold maxLen; omega) (by omega) ?_)
      intro v3 w3 ho3 hg3 hat3
      have HO3 : Hid (w3.ownsRow (w.heap.size + 1) 3 1 v3 (i + 1) (ints (V.take (i + 1)))) := by
        show w3.ownsRow _ _ _ _ _ _
        rw [HVT.out]
        simpa [ints] using ho3
      have HB3 : Hid (Below w0.heap.size w0 w3) := HB2.out.grown hg3 HB2.out.size (fun k e => by have := (HO2.out.lt k e).1; have := HS0.out; omega)
      obtain ⟨a3, c3, rfl, -, -⟩ := own_len ho3
      clear ho3 hg3 hat3
      go_wp2_with fail
      go_roundg (kn - (i + 1))
      case measure => omega
      case rel => exact ⟨i + 1, by omega, by omega, by go_num, HO3, HB3⟩
    · have hlt' : ¬ (i : Int) < (kn : Int) := by omega
      have HO5 : Hid (wr.ownsRow (w.heap.size + 1) 3 1 u5 kn (ints V)) := by
        have h := HO.out
        rw [List.take_of_length_le (by rw [HVL.out]; omega)] at h
        have e : i = kn := by omega
        rw [e] at h
        exact h
      obtain ⟨ar, cr, hvr, hr1, hr2⟩ := own_len HO5.out
      subst hvr
      have HSL : Hid (Sl wr (.slice ar V.length cr) (ints V)) := by rw [HVL.out]; exact sl_of_own HO5.out
      have HBW : Hid (Below w.heap.size w wr) := HB0.out.trans (HB.out.mono HB0.out.size)
      have XK := Lib.hid (bx_keep X0.out HB.out)
      obtain ⟨x0, x1, x2, x3, x4⟩ := bx_cells5 XK.out
      by_cases e1 : q0 = 1
      · subst e1
        have HE : Hid (rs = gr) := by show _ = _; rw [HWE.out, comb_1]
        have HC := Lib.hid (HGC.out wr HB.out rfl)
        go_wp2_with fail
        refine HC.out.mono ?_
        rintro e w7 ⟨rfl, hb7⟩
        have HB7 := Lib.hid hb7
        clear hb7
        go_wp2_with fail
        go_ret
        exact ⟨by rw [HE.out]; rfl, HBW.out.trans (HB7.out.mono HBW.out.size)⟩
      by_cases e2 : q0 = 2
      · subst e2
        have HZ0 : Hid ((V.take 0).sum = (0 : Int)) := by show _ = _; simp
        go_wp2_with fail
        go_loopg [8, 43] kn (fun gg vs vc wq => ∃ (i : Nat) (z : Int), i ≤ kn ∧ kn - i ≤ gg ∧ vc = .int .i64 i ∧ vs = .int .i64 z ∧ wq = wr ∧ Hid ((V.take i).sum = z))
        case atStart => exact ⟨0, _, by omega, by omega, rfl, rfl, rfl, HZ0⟩
        case round =>
          clear HZ0
          obtain ⟨j, z, hj, hgj, rfl, rfl, rfl, HZ⟩ := hrel
          by_cases hjn : j < kn
          · have hjn' : (j : Int) < (kn : Int) := by omega
            have hjV : j < V.length := by rw [HVL.out]; exact hjn
            obtain ⟨bl, ol, hal, hcl⟩ := HSL.out.at hjV
            have c1 := hcl j (by rw [ints_len]; exact hjV)
            rw [ints_get] at c1
            have hv := HVM.out _ (List.getElem_mem hjV)
            have hzr := sum_range HVM.out j (by rw [HVL.out]; omega)
            rw [HZ.out] at hzr
            have HST : Hid ((V.take (j + 1)).sum = z + V[j]) := by show _ = _; rw [sum_take hjV, ← HZ.out]
            obtain ⟨u, HU⟩ := nameIt (V[j]'hjV)
            rw [HU.out] at c1 hv HST
            obtain ⟨hv0, hv1⟩ := hv
            obtain ⟨hz0, hz1⟩ := hzr
            obtain ⟨z2, HZ2⟩ := nameIt (z + u)
            have HST2 : Hid ((V.take (j + 1)).sum = z2) := by show _ = _; rw [HST.out, HZ2.out]
            have m3 : z + u = z2 := HZ2.out
            have hz20 : 0 ≤ z2 ∧ z2 ≤ 1000000000000 := by omega
            have mw : IntKind.i64.wrap (z + u) = z2 := by rw [m3]; exact IntWalk.i64_in _ (by omega)
            clear m3
            subst hal
            clear hcl
            go_wp2_with fail
            go_roundg (kn - (j + 1))
            case measure => omega
            case rel => exact ⟨j + 1, z2, by omega, by omega, by go_num, rfl, rfl, HST2⟩
          · have hjn' : ¬ (j : Int) < (kn : Int) := by omega
            have hzr := sum_range HVM.out j (by rw [HVL.out]; omega)
            rw [HZ.out] at hzr
            have HE : Hid (rs = z % 1000003) := by show _ = _; rw [HWE.out, ← HZ.out, comb_2]; rw [List.take_of_length_le (show V.length ≤ j by rw [HVL.out]; omega)]
            obtain ⟨hz0, hz1⟩ := hzr
            have m4 : z.tmod 1000003 = rs := by rw [tmod_nn hz0]; exact HE.out.symm
            have m5 : z % 1000003 = rs := HE.out.symm
            go_wp2_with fail
            go_ret
            exact ⟨rfl, HBW.out⟩
      by_cases e3 : q0 = 3
      · subst e3
        have HZ0 : Hid ((V.take 0).foldl (fun a v => a * v % 1000003) 1 = (1 : Int)) := by show _ = _; rfl
        go_wp2_with fail
        go_loopg [11, 57] kn (fun gg vs vc wq => ∃ (i : Nat) (z : Int), i ≤ kn ∧ kn - i ≤ gg ∧ vc = .int .i64 i ∧ vs = .int .i64 z ∧ wq = wr ∧ Hid ((V.take i).foldl (fun a v => a * v % 1000003) 1 = z))
        case atStart => exact ⟨0, _, by omega, by omega, rfl, rfl, rfl, HZ0⟩
        case round =>
          clear HZ0
          obtain ⟨j, z, hj, hgj, rfl, rfl, rfl, HZ⟩ := hrel
          by_cases hjn : j < kn
          · have hjn' : (j : Int) < (kn : Int) := by omega
            have hjV : j < V.length := by rw [HVL.out]; exact hjn
            obtain ⟨bl, ol, hal, hcl⟩ := HSL.out.at hjV
            have c1 := hcl j (by rw [ints_len]; exact hjV)
            rw [ints_get] at c1
            have hv := HVM.out _ (List.getElem_mem hjV)
            have hzr : inM z := by rw [← HZ.out]; exact fold_mul_inM _ _ ⟨by decide, by decide⟩ (fun q hq => HVM.out q (List.mem_of_mem_take hq))
            have HST : Hid ((V.take (j + 1)).foldl (fun a v => a * v % 1000003) 1 = z * V[j] % 1000003) := by show _ = _; rw [fold_take hjV, HZ.out]
            obtain ⟨u, HU⟩ := nameIt (V[j]'hjV)
            rw [HU.out] at c1 hv HST
            obtain ⟨hv0, hv1⟩ := hv
            obtain ⟨hz0, hz1⟩ := hzr
            obtain ⟨z2, HZ2⟩ := nameIt (z * u % 1000003)
            have HST2 : Hid ((V.take (j + 1)).foldl (fun a v => a * v % 1000003) 1 = z2) := by show _ = _; rw [HST.out, HZ2.out]
            have hp0 : 0 ≤ z * u := Int.mul_nonneg hz0 hv0
            have hp1 : z * u ≤ 1000003 * 1000003 := Int.mul_le_mul (by omega) (by omega) hv0 (by omega)
            have hz2 := emod_inM (z * u)
            rw [HZ2.out] at hz2
            obtain ⟨hz20, hz21⟩ := hz2
            have m1 : u.tmod 1000003 = u := by rw [tmod_nn hv0]; exact Int.emod_eq_of_lt hv0 hv1
            have m2 : u % 1000003 = u := Int.emod_eq_of_lt hv0 hv1
            have m3 : z * u % 1000003 = z2 := HZ2.out
            have m4 : (z * u).tmod 1000003 = z2 := by rw [tmod_nn hp0]; exact m3
            have m5 : (z2 + 1000003) % 1000003 = z2 := by rw [Int.add_emod_right]; exact Int.emod_eq_of_lt hz20 hz21
            have m6 : (z2 + 1000003).tmod 1000003 = z2 := by rw [tmod_nn (by omega)]; exact m5
            have m7 : z2 % 1000003 = z2 := Int.emod_eq_of_lt hz20 hz21
            have mw : IntKind.i64.wrap (z * u) = z * u := IntWalk.i64_in _ (by omega)
            subst hal
            clear hcl
            go_wp2_with fail
            go_roundg (kn - (j + 1))
            case measure => omega
            case rel => exact ⟨j + 1, z2, by omega, by omega, by go_num, rfl, rfl, HST2⟩
          · have hjn' : ¬ (j : Int) < (kn : Int) := by omega
            have HE : Hid (rs = z) := by show _ = _; rw [HWE.out, ← HZ.out, comb_3]; rw [List.take_of_length_le (show V.length ≤ j by rw [HVL.out]; omega)]
            go_wp2_with fail
            go_ret
            exact ⟨by rw [HE.out]; rfl, HBW.out⟩
      by_cases e4 : q0 = 4
      · subst e4
        have hk1 : 0 < V.length := by have h : 1 ≤ kn := (by simpa [okArgs] using HOA.out); rw [HVL.out]; omega
        have HHD : Hid (V[0]'hk1 = V.headD 0) := by
          show _ = _
          have h : ∀ (l : List Int) (h : 0 < l.length), l[0]'h = l.headD 0 := fun l h => by
            cases l with
            | nil => simp at h
            | cons a l => rfl
          exact h V hk1
        obtain ⟨b0, o0, ha0, hc0⟩ := HSL.out.at (k := 0) hk1
        have c0 := hc0 0 (by rw [ints_len]; exact hk1)
        rw [ints_get, HHD.out, Nat.add_zero] at c0
        have HE : Hid (rs = maxF V) := by show _ = _; rw [HWE.out, comb_4]
        have HME : Hid (maxF V = V.foldl max (V.headD 0)) := rfl
        obtain ⟨h0, HH0⟩ := nameIt (V.headD 0)
        rw [HH0.out] at c0 HME
        have hkn0 : (0 : Int) < (kn : Int) := by rw [HVL.out] at hk1; omega
        subst ha0
        clear hc0
        have HZ0 : Hid ((V.take 0).foldl max h0 = h0) := by show _ = _; rfl
        go_wp2_with fail
        go_loopg [14, 74] kn (fun gg vs vc wq => ∃ (i : Nat) (z : Int), i ≤ kn ∧ kn - i ≤ gg ∧ vc = .int .i64 i ∧ vs = .int .i64 z ∧ wq = wr ∧ Hid ((V.take i).foldl max h0 = z))
        case atStart => exact ⟨0, _, by omega, by omega, rfl, rfl, rfl, HZ0⟩
        case round =>
          clear HZ0
          obtain ⟨j, z, hj, hgj, rfl, rfl, rfl, HZ⟩ := hrel
          by_cases hjn : j < kn
          · have hjn' : (j : Int) < (kn : Int) := by omega
            have hjV : j < V.length := by rw [HVL.out]; exact hjn
            obtain ⟨bl, ol, hal, hcl⟩ := HSL.out.at hjV
            have c1 := hcl j (by rw [ints_len]; exact hjV)
            rw [ints_get] at c1
            have hv := HVM.out _ (List.getElem_mem hjV)
            have HST : Hid ((V.take (j + 1)).foldl max h0 = max z (V[j])) := by show _ = _; rw [fold_take hjV, HZ.out]
            obtain ⟨u, HU⟩ := nameIt (V[j]'hjV)
            rw [HU.out] at c1 hv HST
            obtain ⟨hv0, hv1⟩ := hv
            obtain ⟨z2, HZ2⟩ := nameIt (max z u)
            have HST2 : Hid ((V.take (j + 1)).foldl max h0 = z2) := by show _ = _; rw [HST.out, HZ2.out]
            have hmx : max z u = z2 := HZ2.out
            cases hal
            clear hcl
            go_wp2_with fail
            go_roundg (kn - (j + 1))
            case measure => omega
            case rel => exact ⟨j + 1, z2, by omega, by omega, by go_num, rfl, rfl, HST2⟩
          · have hjn' : ¬ (j : Int) < (kn : Int) := by omega
            have HEE : Hid (rs = z) := by show _ = _; rw [HE.out, HME.out, ← HZ.out]; rw [List.take_of_length_le (show V.length ≤ j by rw [HVL.out]; omega)]
            go_wp2_with fail
            go_ret
            exact ⟨by rw [HEE.out]; rfl, HBW.out⟩
      by_cases e5 : q0 = 5
      · subst e5
        have hk2 : kn = 2 := by have h := HOA.out; simpa [okArgs] using h
        obtain ⟨bl, ol, hal, hcl⟩ := HSL.out.at (k := 0) (by rw [HVL.out]; omega)
        have c0 := hcl 0 (by rw [ints_len, HVL.out]; omega)
        rw [ints_get] at c0
        have HG0 : Hid (V[0]?.getD 0 = V[0]'(by rw [HVL.out]; omega)) := by show _ = _; rw [List.getElem?_eq_getElem (by rw [HVL.out]; omega)]; rfl
        have c1 := hcl 1 (by rw [ints_len, HVL.out]; omega)
        rw [ints_get] at c1
        have HG1 : Hid (V[1]?.getD 0 = V[1]'(by rw [HVL.out]; omega)) := by show _ = _; rw [List.getElem?_eq_getElem (by rw [HVL.out]; omega)]; rfl
        obtain ⟨u0, HU0⟩ := nameIt (V[0]'(by rw [HVL.out]; omega))
        rw [HU0.out] at c0 HG0
        obtain ⟨u1, HU1⟩ := nameIt (V[1]'(by rw [HVL.out]; omega))
        rw [HU1.out] at c1 HG1
        rw [Nat.add_zero] at c0
        subst hal
        clear hcl
        have HE : Hid (rs = if u0 < u1 then 1 else 0) := by show _ = _; rw [HWE.out, comb_5, HG0.out, HG1.out]
        subst hk2
        by_cases hlt2 : u0 < u1
        · have hd2 : decide (u0 < u1) = true := by simpa using hlt2
          have HE2 : Hid (rs = 1) := by show _ = _; rw [HE.out, if_pos hlt2]
          clear hlt2
          go_upto_region 35 with fail
          go_quiet (fail)
          go_wp2_with fail
          go_ret
          exact ⟨by rw [HE2.out]; rfl, HBW.out.trans ((below_drewN _ _).mono HBW.out.size)⟩
        · have hd2 : decide (u0 < u1) = false := by simpa using hlt2
          have HE2 : Hid (rs = 0) := by show _ = _; rw [HE.out, if_neg hlt2]
          clear hlt2
          go_upto_region 35 with fail
          go_quiet (fail)
          go_wp2_with fail
          go_ret
          exact ⟨by rw [HE2.out]; rfl, HBW.out.trans ((below_drewN _ _).mono HBW.out.size)⟩
      by_cases e6 : q0 = 6
      · subst e6
        have hk3 : kn = 3 := by have h := HOA.out; simpa [okArgs] using h
        obtain ⟨bl, ol, hal, hcl⟩ := HSL.out.at (k := 0) (by rw [HVL.out]; omega)
        have c0 := hcl 0 (by rw [ints_len, HVL.out]; omega)
        rw [ints_get] at c0
        have HG0 : Hid (V[0]?.getD 0 = V[0]'(by rw [HVL.out]; omega)) := by show _ = _; rw [List.getElem?_eq_getElem (by rw [HVL.out]; omega)]; rfl
        have c1 := hcl 1 (by rw [ints_len, HVL.out]; omega)
        rw [ints_get] at c1
        have HG1 : Hid (V[1]?.getD 0 = V[1]'(by rw [HVL.out]; omega)) := by show _ = _; rw [List.getElem?_eq_getElem (by rw [HVL.out]; omega)]; rfl
        have c2 := hcl 2 (by rw [ints_len, HVL.out]; omega)
        rw [ints_get] at c2
        have HG2 : Hid (V[2]?.getD 0 = V[2]'(by rw [HVL.out]; omega)) := by show _ = _; rw [List.getElem?_eq_getElem (by rw [HVL.out]; omega)]; rfl
        obtain ⟨u0, HU0⟩ := nameIt (V[0]'(by rw [HVL.out]; omega))
        rw [HU0.out] at c0 HG0
        obtain ⟨u1, HU1⟩ := nameIt (V[1]'(by rw [HVL.out]; omega))
        rw [HU1.out] at c1 HG1
        obtain ⟨u2, HU2⟩ := nameIt (V[2]'(by rw [HVL.out]; omega))
        rw [HU2.out] at c2 HG2
        rw [Nat.add_zero] at c0
        subst hal
        clear hcl
        have HE : Hid (rs = if u0 ≠ 0 then u1 else u2) := by show _ = _; rw [HWE.out, comb_6, HG0.out, HG1.out, HG2.out]
        subst hk3
        by_cases hz3 : u0 = 0
        · subst hz3
          have HE2 : Hid (rs = u2) := by show _ = _; rw [HE.out, if_neg (by simp)]
          go_wp2_with fail
          go_ret
          exact ⟨by rw [HE2.out]; rfl, HBW.out⟩
        · have hb3 : (u0 == 0) = false := by simpa using hz3
          have hb4 : (u0 != 0) = true := by simpa using hz3
          have HE2 : Hid (rs = u1) := by show _ = _; rw [HE.out, if_pos hz3]
          clear hz3
          go_wp2_with fail
          go_ret
          exact ⟨by rw [HE2.out]; rfl, HBW.out⟩
      have e0 : q0 = 0 := by
        have h := HOA.out
        unfold okArgs at h
        by_cases e0 : q0 = 0
        · exact e0
        · rw [if_neg (by omega), if_neg (by omega), if_neg e4, if_neg e5, if_neg e6] at h
          cases h
      subst e0
      have HE : Hid (rs = q1) := by show _ = _; rw [HWE.out, comb_0]
      clear e1 e2 e3 e4 e5 e6
      go_wp2_with fail
      go_ret
      exact ⟨by rw [HE.out]; rfl, HBW.out⟩
end At
end Go.Proofs.YtfocooehnmpndaaGreat
namespace Go.Proofs.YtfocooehnmpndaaGreat
open Go.RowKit
namespace Dm
open At (Ref refsS worth inM)
theorem attrsAt_nodup (g : Gram) (s : At.Sys) (L : List Nd) (n : Nat) : (attrsAt g s L n).Nodup := by
  unfold attrsAt attrsOf
  split
  · exact List.nodup_nil
  · exact List.Pairwise.filter _ List.nodup_range
theorem allI_nodup (g : Gram) (s : At.Sys) (L : List Nd) : (allI g s L).Nodup := by
  unfold allI
  have h : ∀ m, ((List.range m).flatMap fun n => (attrsAt g s L n).map fun a => (n, a)).Nodup := fun m => by
    induction m with
    | zero => exact List.nodup_nil
    | succ m ih =>
      rw [List.range_succ, List.flatMap_append, List.nodup_append]
      refine ⟨ih, ?_, fun x hx y hy e => ?_⟩
      · rw [List.flatMap_cons, List.flatMap_nil, List.append_nil]
        exact List.pairwise_map.2 (List.Pairwise.imp (fun hne e => hne (by cases e; rfl)) (attrsAt_nodup g s L m))
      · rw [List.flatMap_cons, List.flatMap_nil, List.append_nil] at hy
        obtain ⟨n, hn, hx⟩ := List.mem_flatMap.1 hx
        obtain ⟨a, _, rfl⟩ := List.mem_map.1 hx
        obtain ⟨b, _, rfl⟩ := List.mem_map.1 hy
        cases e
        have := List.mem_range.1 hn
        omega
  exact h _
theorem count_put {l : List Inst} {H : Inst → Option Int} {i : Inst} {v : Int} (hl : l.Nodup) (hi : i ∈ l) (hn : H i = none) : l.countP (fun j => (if j = i then some v else H j).isSome) = l.countP (fun j => (H j).isSome) + 1 := by
  induction l with
  | nil => cases hi
  | cons x l ih =>
    rw [List.nodup_cons] at hl
    rw [List.countP_cons, List.countP_cons]
    by_cases e : x = i
    · subst e
      have h1 : l.countP (fun j => (if j = x then some v else H j).isSome) = l.countP (fun j => (H j).isSome) := by
        refine List.countP_congr fun j hj => ?_
        rw [if_neg (fun e : j = x => hl.1 (by rw [← e]; exact hj))]
      rw [h1, if_pos rfl, hn]
      simp
    · have h2 := ih hl.2 (by rcases List.mem_cons.1 hi with h | h; exact absurd h.symm e; exact h)
      rw [h2, if_neg e]
      omega
structure VlS (g : Gram) (s : At.Sys) (L : List Nd) (H : Inst → Option Int) (c : Nat) : Prop where
  sound : SoundV s L H
  cnt : c = (allI g s L).countP fun i => (H i).isSome
  dom : ∀ i, (H i).isSome = true → i ∈ allI g s L
theorem VlS.start (g : Gram) (s : At.Sys) (L : List Nd) : VlS g s L (fun _ => none) 0 := ⟨fun _ _ h => (by cases h), (by simp), fun _ h => (by cases h)⟩
theorem VlS.le {g : Gram} {s : At.Sys} {L : List Nd} {H : Inst → Option Int} {c : Nat} (h : VlS g s L H c) : c ≤ (allI g s L).length := by rw [h.cnt]; exact List.countP_le_length
theorem VlS.put {g : Gram} {s : At.Sys} {L : List Nd} {H : Inst → Option Int} {c : Nat} (h : VlS g s L H c) {i : Inst} (hi : i ∈ allI g s L) (hn : H i = none) (hr : readyV s L H i) : VlS g s L (fun j => if j = i then some (valV s L H i) else H j) (c + 1) := by
  refine ⟨h.sound.put hr, ?_, fun j hj => ?_⟩
  · rw [count_put (allI_nodup g s L) hi hn, h.cnt]
  · try dsimp only at hj
    by_cases e : j = i
    · rw [e]; exact hi
    · rw [if_neg e] at hj; exact h.dom j hj
def ClosedV (g : Gram) (s : At.Sys) (L : List Nd) (H : Inst → Option Int) : Prop := ∀ i ∈ allI g s L, readyV s L H i → (H i).isSome = true
structure VlM (g : Gram) (s : At.Sys) (L : List Nd) (W : World) (wb : Nat) (H : Inst → Option Int) (c : Nat) (w : World) : Prop where
  pl : VlS g s L H c
  map : HvM (W.heap.size + 1) H c w
  bel : Below W.heap.size W w
  bw : w.heap[W.heap.size]? = some (.cells #[.pointer (some ⟨wb, 0, none⟩)] 44 (0, 0))
  bh : w.heap[W.heap.size + 1 + 1]? = some (.cells #[.map (some (W.heap.size + 1))] 54 (0, 0))
theorem VlM.keep {g : Gram} {s : At.Sys} {L : List Nd} {W : World} {wb : Nat} {H : Inst → Option Int} {c : Nat} {w w' : World} (h : VlM g s L W wb H c w) (hb : Below w.heap.size w w') : VlM g s L W wb H c w' :=
  ⟨h.pl, h.map.keep hb, h.bel.trans (hb.mono h.bel.size), bx_keep h.bw hb, bx_keep h.bh hb⟩
def VlPostF (g : Gram) (s : At.Sys) (L : List Nd) (W : World) (e : Ending) (w' : World) : Prop := ∃ b H c, e = .returned (.map (some b)) ∧ VlS g s L H c ∧ HvM b H c w' ∧ ClosedV g s L H ∧ Below W.heap.size W w' ∧ W.heap.size ≤ b
set_option maxHeartbeats 8000000 in
set_option maxRecDepth 100000 in
theorem valsFE (g : Gram) (s : At.Sys) (T : Tree) (hs : At.checkS g s = 0) (hv : validT g T = true) (hroot : rootS g T = ⟨false, g.start⟩) (hal : s.attrs.length ≤ 2000000) (hsz : tsz T ≤ 1000000) (wb : Nat) (W : World) (h : WdS g s (tabT T) wb W) :
    Calls Tryz.prog 18 #[.pointer (some ⟨wb, 0, none⟩)] W (VlPostF g s (tabT T) W) := by
  have HENV := Lib.hid (fun (i : Inst) (hi : i ∈ allI g s (tabT T)) => env hs hv hroot hal hsz hi)
  have HNEEDS := Lib.hid (fun (i j : Inst) (hi : i ∈ allI g s (tabT T)) (hj : j ∈ needsI s (tabT T) i) => needs_all hs hv hroot hi hj)
  have HOKI := Lib.hid (fun (i : Inst) (hi : i ∈ allI g s (tabT T)) => okI_of hs hv hroot hal hsz hi)
  have HINM := Lib.hid (fun (i : Inst) (v : Int) (h : Vl s (tabT T) i v) (hi : i ∈ allI g s (tabT T)) => vl_inM hs hv hroot hal hsz h hi)
  have HSC := Lib.hid hs
  have HIB : Hid ((allI g s (tabT T)).length ≤ 4000000000000) := by
    have h1 := allI_le g s (tabT T)
    have h2 : (tabT T).length * s.attrs.length ≤ 1000000 * 2000000 := Nat.mul_le_mul (by rw [tab_len]; exact hsz) hal
    show _ ≤ _
    omega
  obtain ⟨PST, HP⟩ := nameIt (VlPostF g s (tabT T) W)
  obtain ⟨L, HL⟩ := nameIt (tabT T)
  have HFIN : Hid (∀ H c w', VlM g s L W wb H c w' → ClosedV g s L H → PST (.returned (.map (some (W.heap.size + 1)))) w') := fun H c w' h1 h2 => by
    rw [← HP.out, HL.out]
    exact ⟨_, H, c, rfl, h1.pl, h1.map, h2, h1.bel, by omega⟩
  rw [HP.out]
  rw [HL.out] at h
  simp only [HL.out] at HENV HNEEDS HOKI HINM HIB
  have HW := Lib.hid h
  clear hs hv hroot hal hsz HP
  have hmk : ∀ W : World, (Instr.makeMap 54 none).run Tryz.prog W = .ok (.map (some W.heap.size)) (W.alloc (.map #[] 0)) := fun W => by
    simp [Instr.makeMap, run_underlying Tryz.underlying54]; try rfl
  obtain ⟨c0, c1, c2, c3, aa, qa, na, ua, pa, ka, la, ac, qc, nc, uc, pc, kc, lc, hR⟩ := h.read
  have HRD := Lib.hid hR
  have hcap := hR.caps
  unfold maxLen at hcap
  obtain ⟨IN, HIN⟩ := nameIt (allI g s L).length
  obtain ⟨LN, HLN⟩ := nameIt L.length
  obtain ⟨AN, HAN⟩ := nameIt s.attrs.length
  obtain ⟨QN, HQN⟩ := nameIt s.eqs.length
  have hh := hR.hdr
  rw [HIN.out, HLN.out, HAN.out, HQN.out] at hh
  rw [HIN.out, HLN.out] at hcap
  rw [HIN.out] at HIB
  have HHD := Lib.hid hh
  have HALL : Hid (Rd AnyB W (.sl (((allI g s L).map toR).map Ref.d)) [.slice la IN lc]) := by rw [← HIN.out]; exact hR.all
  clear hR hh h
  go_enter Tryz.func18, Tryz.ntmps18
  go_upto_region 2 with fail
  obtain ⟨w1, HW1⟩ := nameIt (((W.alloc (.cells #[.pointer (some ⟨wb, 0, none⟩)] 44)).alloc (.map #[] 0)).alloc (.cells #[.map (some (W.heap.size + 1))] 54))
  have ba : ∀ (w : World) (o : Obj), Below w.heap.size w (w.alloc o) := fun w o => (Below.refl _ _).alloc (Nat.le_refl _) _
  have HV1 : Hid (VlM g s L W wb (fun _ => none) 0 w1) := by
    show VlM _ _ _ _ _ _ _ _
    rw [← HW1.out]
    refine ⟨VlS.start _ _ _, ?_, ?_, ?_, ?_⟩
    · exact (HvM.start (W.alloc (.cells #[.pointer (some ⟨wb, 0, none⟩)] 44)) (by simp)).keep (ba _ _)
    · exact (((Below.refl _ _).alloc (Nat.le_refl _) _).alloc (by simp) _).alloc (by simp; omega) _
    · exact bx_keep (bx_keep (bx_new _ _ _ rfl) (ba _ _)) (ba _ _)
    · exact bx_new _ _ _ (by simp)
  rw [HW1.out]
  clear HW1 ba hmk
  go_wp2_with fail
  go_loopg [4, 6, 7, 8, 9, 11, 12, 13, 14, 15] (IN + 1) (fun gg v4 v6 v7 v8 v9 v11 v12 v13 v14 v15 wr => ∃ (H : Inst → Option Int) (c : Nat) (ag : Bool), v4 = .bool ag ∧ (if ag = true then IN - c + 1 else 0) ≤ gg ∧ Hid (VlM g s L W wb H c wr) ∧ Hid (ag = false → ClosedV g s L H))
  case atStart => exact ⟨_, 0, true, rfl, by simp, HV1, fun h => (by cases h)⟩
  case round =>
    obtain ⟨wo, rfl⟩ : ∃ wo : World, wo = wr := ⟨_, rfl⟩
    obtain ⟨H, c, ag, rfl, hg, HV, HC⟩ := hrel
    clear HV1
    cases ag with
    | false =>
      have HE := Lib.hid (HFIN.out H c wo HV.out (HC.out rfl))
      have y0 := bx_cells1 HV.out.bh
      clear hg
      go_wp2_with fail
      exact HE.out
    | true =>
      have hg2 := hg
      simp only [if_true] at hg2
      have HGG := Lib.hid hg2
      obtain ⟨x4, x5, x6, x7, x8, x9, x10⟩ := bx_cells11w (bx_keep HHD.out HV.out.bel)
      have y0 := bx_cells1 HV.out.bw
      have HCI : Hid (c ≤ IN) := by show _ ≤ _; rw [← HIN.out]; exact HV.out.pl.le
      clear hg hg2 HC
      go_wp2_with fail
      clear x4 x5 x6 x7 x8 x9 x10 y0
      go_loopg [4, 6, 7, 8, 9, 11, 12, 13, 14, 15, 23] IN (fun gh v4 v6 v7 v8 v9 v11 v12 v13 v14 v15 v23 wr => ∃ (j : Nat) (H' : Inst → Option Int) (c' : Nat) (ag : Bool), j ≤ IN ∧ IN - j ≤ gh ∧ v23 = .int .i64 j ∧ v4 = .bool ag ∧ Hid (c ≤ c' ∧ (ag = true → c < c')) ∧ Hid (VlM g s L W wb H' c' wr) ∧ Hid (ag = false → ∀ i ∈ (allI g s L).take j, readyV s L H' i → (H' i).isSome = true))
      case atStart => exact ⟨0, H, c, false, by omega, by omega, rfl, rfl, ⟨Nat.le_refl _, fun h => (by cases h)⟩, HV, fun _ i hi => (by simp at hi)⟩
      case round =>
        obtain ⟨wp, rfl⟩ : ∃ wp : World, wp = wr := ⟨_, rfl⟩
        obtain ⟨j, H', c', ag, hj, hgj, rfl, rfl, HCC, HV', HP⟩ := hrel
        clear HV
        by_cases hlt : j < IN
        · have hlt' : (j : Int) < (IN : Int) := by omega
          have hjc : (j : Int) ≤ (lc : Int) := by omega
          have hjl : j < (allI g s L).length := by rw [HIN.out]; exact hlt
          obtain ⟨bb, bo, hae, -, hbl, p0, p1⟩ := pl_at (HALL.out.below HV'.out.bel) hjl
          have HMI : Hid ((allI g s L)[j] ∈ allI g s L) := List.getElem_mem hjl
          have HTK : Hid ((allI g s L).take (j + 1) = (allI g s L).take j ++ [(allI g s L)[j]]) := List.take_succ_eq_append_getElem hjl
          obtain ⟨i, HIi⟩ := nameIt ((allI g s L)[j]'hjl)
          rw [HIi.out] at p0 p1 HMI HTK
          obtain ⟨x1, x2⟩ := i
          simp only at p0 p1
          obtain ⟨q, hE⟩ := HENV.out _ HMI.out
          have E := Lib.hid hE
          have hok := HOKI.out _ HMI.out
          have HOK := Lib.hid hok
          obtain ⟨w5, HW5⟩ := nameIt (wp.alloc (.cells #[.int .i64 (x1 : Int), .int .i64 (x2 : Int)] 59))
          have hb5 : Below wp.heap.size wp w5 := by rw [← HW5.out]; exact (Below.refl _ _).alloc (Nat.le_refl _) _
          have X5 : Hid (w5.heap[wp.heap.size]? = some (.cells #[.int .i64 (x1 : Int), .int .i64 (x2 : Int)] 59 (0, 0))) := by rw [← HW5.out]; exact bx_new _ _ _ rfl
          have HV5 := Lib.hid (HV'.out.keep hb5)
          have hlk := (HV5.out.map.look hok).1
          have y1 := bx_cells1 HV5.out.bh
          obtain ⟨z0, z1⟩ := bx_cells2 X5.out
          have hl5 : wp.heap.size < w5.heap.size := (Array.getElem?_eq_some_iff.1 X5.out).1
          subst hae
          clear hb5 hE hok
          obtain ⟨hv, HHV⟩ := nameIt (H' (x1, x2))
          rw [HHV.out] at hlk
          go_upto_region 8 with fail
          rw [HW5.out]
          clear HW5 p0 p1 hbl
          cases hv with
          | some v =>
            simp only [Option.getD_some, Option.isSome_some] at hlk
            have HP2 : Hid (ag = false → ∀ i ∈ (allI g s L).take (j + 1), readyV s L H' i → (H' i).isSome = true) := fun h i hi hr => by
              rw [HTK.out] at hi
              rcases List.mem_append.1 hi with hi | hi
              · exact HP.out h i hi hr
              · rw [List.mem_singleton] at hi
                rw [hi, HHV.out]; rfl
            go_wp2_with fail
            go_roundg (IN - (j + 1))
            case measure => omega
            case rel => exact ⟨j + 1, H', c', ag, by omega, by omega, by go_num, rfl, HCC, HV5, HP2⟩
          | none =>
            simp only [Option.getD_none, Option.isSome_none] at hlk
            have HNE := Lib.hid (fun (w' : World) (hb : Below w5.heap.size w5 w') => wNeedsE g s L HSC.out wb x1 x2 _ q (placeI L (ownerI s L (x1, x2))) w' (HW.out.below (HV5.out.bel.trans (hb.mono HV5.out.bel.size))) E.out.eq (Nat.le_trans E.out.size (by decide)) E.out.at_)
            have y0 := bx_cells1 HV5.out.bw
            go_upto_region 11 with fail
            go_wp2_with (refine (HNE.out _ (Below.refl _ _)).mono ?_)
            rintro e6 w6 ⟨v6, rfl, ho6, hb6⟩
            obtain ⟨NL, HNL⟩ := nameIt ((refsS q.is').map (placeI L (ownerI s L (x1, x2))))
            rw [HNL.out] at ho6
            have HNEED : Hid (needsI s L (x1, x2) = NL) := by show _ = _; unfold needsI; rw [E.out.ex]; exact HNL.out
            have HRDN : Hid (Rd AnyB w6 (.sl ((NL.map toR).map Ref.d)) [v6]) := rd_of_own ho6 (by rw [plC_ref]; exact At.rdAll_refs _) (by simp) (fun _ _ => trivial)
            have HV6 := Lib.hid (HV5.out.keep hb6)
            have X6 := Lib.hid (bx_keep X5.out hb6)
            obtain ⟨a6, c6, rfl, hcc1, hcc2⟩ := own_len ho6
            unfold maxLen at hcc2
            obtain ⟨ln, HLNl⟩ := nameIt NL.length
            rw [HLNl.out] at HRDN hcc1
            rw [HLNl.out]
            clear ho6 hb6 hlk y0 y1 z0 z1 HNE
            go_wp2_with fail
            go_loopg [9, 11, 12, 13, 38] ln (fun gk v9 v11 v12 v13 v38 wr => ∃ k : Nat, k ≤ ln ∧ ln - k ≤ gk ∧ v38 = .int .i64 k ∧ v9 = .bool ((NL.take k).all fun y => (H' y).isSome) ∧ Hid (Below w6.heap.size w6 wr))
            case atStart => exact ⟨0, by omega, by omega, rfl, by simp, Below.refl _ _⟩
            case round =>
              obtain ⟨k, hk, hgk, rfl, rfl, HB⟩ := hrel
              have HV7 := Lib.hid (HV6.out.keep HB.out)
              have X7 := Lib.hid (bx_keep X6.out HB.out)
              by_cases hkt : k < ln
              · have hkt' : (k : Int) < (ln : Int) := by omega
                have hkc : (k : Int) ≤ (c6 : Int) := by omega
                have hkl : k < NL.length := by rw [HLNl.out]; exact hkt
                obtain ⟨nb', no', hne, -, hnbl, n0, n1⟩ := pl_at (HRDN.out.below HB.out) hkl
                have hjn : NL[k] ∈ needsI s L (x1, x2) := by rw [HNEED.out]; exact List.getElem_mem hkl
                have hoky := HOKI.out _ (HNEEDS.out _ _ HMI.out hjn)
                have HTKK : Hid ((NL.take (k + 1)).all (fun y => (H' y).isSome) = ((NL.take k).all (fun y => (H' y).isSome) && (H' NL[k]).isSome)) := by
                  show _ = _
                  rw [List.take_succ_eq_append_getElem hkl, List.all_append]
                  simp
                obtain ⟨y, HY⟩ := nameIt (NL[k]'hkl)
                rw [HY.out] at n0 n1 hoky HTKK
                obtain ⟨y1, y2⟩ := y
                simp only at n0 n1
                obtain ⟨w8, HW8⟩ := nameIt (wr.alloc (.cells #[.int .i64 (y1 : Int), .int .i64 (y2 : Int)] 59))
                have hb8 : Below wr.heap.size wr w8 := by rw [← HW8.out]; exact (Below.refl _ _).alloc (Nat.le_refl _) _
                have X8 : Hid (w8.heap[wr.heap.size]? = some (.cells #[.int .i64 (y1 : Int), .int .i64 (y2 : Int)] 59 (0, 0))) := by rw [← HW8.out]; exact bx_new _ _ _ rfl
                have HV8 := Lib.hid (HV7.out.keep hb8)
                have hlk := (HV8.out.map.look hoky).1
                have HB8 : Hid (Below w6.heap.size w6 w8) := HB.out.trans (hb8.mono HB.out.size)
                have z2 := bx_cells1 HV8.out.bh
                obtain ⟨z0, z1⟩ := bx_cells2 X8.out
                have hl8 : wr.heap.size < w8.heap.size := (Array.getElem?_eq_some_iff.1 X8.out).1
                obtain ⟨gv, HGV⟩ := nameIt ((H' (y1, y2)).getD 0)
                obtain ⟨gs', HGS⟩ := nameIt (H' (y1, y2)).isSome
                rw [HGV.out, HGS.out] at hlk
                rw [HGS.out] at HTKK
                obtain ⟨rd, HRDB⟩ := nameIt ((NL.take k).all fun y => (H' y).isSome)
                rw [HRDB.out] at HTKK
                rw [HRDB.out]
                subst hne
                clear hb8 hoky hjn
                go_upto_region 14 with fail
                rw [HW8.out]
                clear HW8 n0 n1 hnbl
                cases rd with
                | false =>
                  have HNXT : Hid (false = (NL.take (k + 1)).all fun y => (H' y).isSome) := by show _ = _; rw [HTKK.out]; rfl
                  go_wp2_with fail
                  go_roundg (ln - (k + 1))
                  case measure => omega
                  case rel => exact ⟨k + 1, by omega, by omega, by go_num, by rw [← HNXT.out], HB8⟩
                | true =>
                  have HNXT : Hid (gs' = (NL.take (k + 1)).all fun y => (H' y).isSome) := by show _ = _; rw [HTKK.out]; simp
                  go_wp2_with fail
                  go_roundg (ln - (k + 1))
                  case measure => omega
                  case rel => exact ⟨k + 1, by omega, by omega, by go_num, by rw [← HNXT.out], HB8⟩
              · have hend : k = ln := by omega
                have hkt' : ¬ (k : Int) < (ln : Int) := by omega
                have HRB : Hid ((NL.take k).all (fun y => (H' y).isSome) = true ↔ readyV s L H' (x1, x2)) := by
                  show _ ↔ _
                  rw [hend, ← HLNl.out, List.take_length, List.all_eq_true]
                  unfold readyV
                  rw [HNEED.out]
                obtain ⟨rd, HRDB⟩ := nameIt ((NL.take k).all fun y => (H' y).isSome)
                rw [HRDB.out] at HRB
                rw [HRDB.out]
                cases rd with
                | false =>
                  have HP2 : Hid (ag = false → ∀ i ∈ (allI g s L).take (j + 1), readyV s L H' i → (H' i).isSome = true) := fun h i hi hr => by
                    rw [HTK.out] at hi
                    rcases List.mem_append.1 hi with hi | hi
                    · exact HP.out h i hi hr
                    · rw [List.mem_singleton] at hi
                      rw [hi] at hr
                      have := HRB.out.2 hr
                      cases this
                  go_wp2_with fail
                  go_roundg (IN - (j + 1))
                  case measure => omega
                  case rel => exact ⟨j + 1, H', c', ag, by omega, by omega, by go_num, rfl, HCC, HV7, HP2⟩
                | true =>
                  have HRY : Hid (readyV s L H' (x1, x2)) := HRB.out.1 rfl
                  have HEQ := Lib.hid (wEquE g s L HSC.out wb x1 x2 _ q wr (HW.out.below HV7.out.bel) E.out.eq)
                  have y0 := bx_cells1 HV7.out.bw
                  obtain ⟨z0, z1⟩ := bx_cells2 X7.out
                  go_wp2_with (refine HEQ.out.mono ?_)
                  rintro e8 w8 ⟨v8, rfl, hv8, hb8⟩
                  obtain ⟨va, vl, vc, rfl⟩ : ∃ x y z, v8 = .slice x y z := (by obtain ⟨x, y, e, -, -⟩ := hv8.form; exact ⟨_, _, _, e⟩)
                  have HB8 : Hid (Below wr.heap.size wr w8) := hb8
                  have HV8 : Hid (Rd AnyB w8 (.sl (q.is'.args.map At.Expr.d)) [.slice va vl vc]) := hv8.below hb8
                  clear hb8 hv8 y0 z0 z1
                  obtain ⟨ek, HEK⟩ := nameIt q.is'.kind
                  obtain ⟨en, HEN⟩ := nameIt q.is'.n
                  obtain ⟨ea, HEA⟩ := nameIt q.is'.ref.at'
                  obtain ⟨eb', HEB⟩ := nameIt q.is'.ref.attr
                  obtain ⟨o, HO⟩ := nameIt (ownerI s L (x1, x2))
                  rw [HEK.out, HEN.out, HEA.out, HEB.out, HO.out]
                  obtain ⟨w9, HW9⟩ := nameIt ((w8.alloc (.cells #[.int .i64 ek, .int .i64 en, .int .i64 ea, .int .i64 eb', .slice va vl vc] 86)).alloc (.cells #[.int .i64 (o : Int)] 3))
                  have HB9 : Hid (Below w8.heap.size w8 w9) := by show Below _ _ _; rw [← HW9.out]; exact ((Below.refl _ _).alloc (Nat.le_refl _) _).alloc (by simp) _
                  have X9 : Hid (w9.heap[w8.heap.size]? = some (.cells #[.int .i64 ek, .int .i64 en, .int .i64 ea, .int .i64 eb', .slice va vl vc] 86 (0, 0))) := by show _ = _; rw [← HW9.out]; exact bx_keep (bx_new _ _ _ rfl) ((Below.refl _ _).alloc (Nat.le_refl _) _)
                  have X10 : Hid (w9.heap[w8.heap.size + 1]? = some (.cells #[.int .i64 (o : Int)] 3 (0, 0))) := by show _ = _; rw [← HW9.out]; exact bx_new _ _ _ (by simp)
                  go_upto_region 19 with fail
                  rw [HW9.out]
                  clear HW9
                  have HB79 : Hid (Below wr.heap.size wr w9) := HB8.out.trans (HB9.out.mono HB8.out.size)
                  have HV9 := Lib.hid (HV7.out.keep HB79.out)
                  have X11 := Lib.hid (bx_keep X7.out HB79.out)
                  have HINR : Hid (∀ r ∈ refsS q.is', placeI L o r ∈ needsI s L (x1, x2)) := fun r hr => by
                    unfold needsI
                    rw [E.out.ex, ← HO.out]
                    exact List.mem_map.2 ⟨r, hr, rfl⟩
                  have HGA : Hid (At.GetAt (fun r => r ∈ refsS q.is') 46 #[.pointer (some ⟨W.heap.size + 1 + 1, 0, none⟩), .pointer (some ⟨W.heap.size, 0, none⟩), .pointer (some ⟨w8.heap.size + 1, 0, none⟩)] (fun r => (H' (placeI L o r)).getD 0) w9) := fun W' r hr hb => by
                    have hpl := E.out.at_ r hr
                    rw [HO.out] at hpl
                    have hv := HV9.out.keep hb
                    exact valcE g s L wb _ _ _ _ H' c' o r _ _ W' (HW.out.below hv.bel) hv.map (by rw [← HO.out]; exact E.out.eq.ho) hpl (HOKI.out _ (HNEEDS.out _ _ HMI.out (HINR.out r hr))) (bx_cells1 hv.bh) (bx_cells1 hv.bw) (bx_cells1 (bx_keep X10.out hb))
                  have HGM : Hid (∀ r, r ∈ refsS q.is' → inM ((H' (placeI L o r)).getD 0)) := fun r hr => by
                    have hj := HINR.out r hr
                    have hs := HRY.out _ hj
                    cases e : H' (placeI L o r) with
                    | none => rw [e] at hs; cases hs
                    | some v => exact HINM.out _ v (HV'.out.pl.sound _ _ e) (HNEEDS.out _ _ HMI.out hj)
                  have HCA : Hid (∀ x : Aft w9, Calls Tryz.prog 45 #[.agg #[.int .i64 ek, .int .i64 en, .int .i64 ea, .int .i64 eb', .slice va vl vc], .func (.func 46) #[] #[.pointer (some ⟨W.heap.size + 1 + 1, 0, none⟩), .pointer (some ⟨W.heap.size, 0, none⟩), .pointer (some ⟨w8.heap.size + 1, 0, none⟩)]] x.w (fun e w' => e = .returned (.int .i64 (worth (fun r => (H' (placeI L o r)).getD 0) q.is')) ∧ Below x.w.heap.size x.w w')) := fun x => by
                    have h := At.worthE (fun r => r ∈ refsS q.is') 46 #[.pointer (some ⟨W.heap.size + 1 + 1, 0, none⟩), .pointer (some ⟨W.heap.size, 0, none⟩), .pointer (some ⟨w8.heap.size + 1, 0, none⟩)] (fun r => (H' (placeI L o r)).getD 0) HGM.out (fun _ _ => by kernel_rfl) q.is'.size q.is' (.slice va vl vc) x.w (Nat.le_refl _) E.out.okx (HGA.out.below x.bel) ((HV8.out.below HB9.out).below x.bel) (Nat.le_trans E.out.size (by decide))
                    rw [HEK.out, HEN.out, HEA.out, HEB.out] at h
                    exact h
                  have HVV : Hid (valV s L H' (x1, x2) = worth (fun r => (H' (placeI L o r)).getD 0) q.is') := by show _ = _; unfold valV; rw [HO.out, E.out.ex]
                  obtain ⟨wv, HWV⟩ := nameIt (worth (fun r => (H' (placeI L o r)).getD 0) q.is')
                  simp only [HWV.out] at HCA HVV
                  have HWF : Hid ((Lit.int .i64 wv).wf = true) := by
                    refine wfM ?_
                    rw [← HVV.out]
                    exact HINM.out _ _ (HV'.out.pl.sound.next HRY.out) HMI.out
                  obtain ⟨e0, e1, e2, e3, e4⟩ := At.bx_cells5 X9.out
                  obtain ⟨z0, z1⟩ := bx_cells2 X11.out
                  have ay1 := aft_cell (bx_cells1 HV9.out.bh)
                  have az0 := aft_cell z0
                  have az1 := aft_cell z1
                  have ae0 := aft_cell e0
                  have ae1 := aft_cell e1
                  have ae2 := aft_cell e2
                  have ae3 := aft_cell e3
                  have ae4 := aft_cell e4
                  clear e0 e1 e2 e3 e4 z0 z1
                  refine wp_region_after_tail (w0 := w9) 5 (by kernel_rfl) (by kernel_rfl) ?_
                  simp only [List.take_succ_cons, List.take_zero, List.drop_succ_cons, List.drop_zero]
                  repeat (go_big_quiet_step (exact Calls.after (HCA.out _)))
                  refine wpQuiet_nil ?_
                  rintro wA ⟨⟨_, hbA⟩, rfl⟩
                  have hVA := HV9.out.keep hbA
                  obtain ⟨v0, st, wB, wC, hr1, hr2, hmC, hgC⟩ := hVA.map.entry (by
                    have h1 := hVA.pl.le
                    have h2 := HIB.out
                    rw [HIN.out] at h1
                    omega) HOK.out HHV.out HWF.out
                  have HVC : Hid (VlM g s L W wb (fun j => if j = (x1, x2) then some (valV s L H' (x1, x2)) else H' j) (c' + 1) wC) := by
                    have hsz : W.heap.size + 1 + 1 < wA.heap.size := (Array.getElem?_eq_some_iff.1 hVA.bh).1
                    refine ⟨hVA.pl.put HMI.out HHV.out HRY.out, by rw [HVV.out]; exact hmC, hVA.bel.grown hgC (by have := hVA.bel.size; omega) (fun k e => by cases e; omega), ?_, ?_⟩
                    · exact (hgC.block _ (by omega) (fun e => by simp at e)).trans hVA.bw
                    · exact (hgC.block _ hsz (fun e => by simp at e)).trans hVA.bh
                  have HCC2 : Hid (c ≤ c' + 1 ∧ (true = true → c < c' + 1)) := by have := HCC.out.1; exact ⟨by omega, fun _ => by omega⟩
                  have HP2 : Hid (true = false → ∀ i ∈ (allI g s L).take (j + 1), readyV s L (fun j => if j = (x1, x2) then some (valV s L H' (x1, x2)) else H' j) i → ((fun j => if j = (x1, x2) then some (valV s L H' (x1, x2)) else H' j) i).isSome = true) := fun h => (by cases h)
                  clear hVA hmC hgC hbA ay1 az0 az1 ae0 ae1 ae2 ae3 ae4
                  go_wp2_with fail
                  go_roundg (IN - (j + 1))
                  case measure => omega
                  case rel => exact ⟨j + 1, _, c' + 1, true, by omega, by omega, by go_num, rfl, ⟨HCC2.out.1, fun _ => HCC2.out.2 (by trivial)⟩, HVC, fun h => (by cases h)⟩
        · have hend : j = IN := by omega
          have hlt' : ¬ (j : Int) < (IN : Int) := by omega
          have HCL : Hid (ag = false → ClosedV g s L H') := fun h i hi hr => by
            refine HP.out h i ?_ hr
            rw [hend, ← HIN.out, List.take_length]
            exact hi
          have HME : Hid (∀ z, IN - c + 1 ≤ z → (if ag = true then IN - c' + 1 else 0) < z) := fun z h1 => by
            cases ag with
            | false => simp; omega
            | true =>
              have h2 := HCC.out.2 rfl
              have h3 : c' ≤ IN := by rw [← HIN.out]; exact HV'.out.pl.le
              simp only [if_true]
              omega
          obtain ⟨mm, HMM⟩ := nameIt (if ag = true then IN - c' + 1 else 0)
          simp only [HMM.out] at HME
          go_wp2_with fail
          go_roundg mm
          case measure => exact HME.out _ HGG.out
          case rel => exact ⟨H', c', ag, rfl, by rw [HMM.out]; exact Nat.le_refl _, HV', HCL⟩
end Dm
end Go.Proofs.YtfocooehnmpndaaGreat
namespace Go.Proofs.YtfocooehnmpndaaGreat
open Go.RowKit
namespace Dm
open At (Ref)
end Dm
end Go.Proofs.YtfocooehnmpndaaGreat
namespace Go.Proofs.YtfocooehnmpndaaGreat
open Go.RowKit
namespace Dm
theorem rowsI_at {S : Nat → Prop} {w : World} {l : List (List Int)} {a : Option Addr} {n cap i : Nat} (h : Rd S w (.sl (l.map D.ints)) [.slice a n cap]) (hi : i < l.length) :
    ∃ b off u, a = some ⟨b, off, none⟩ ∧ w.cell? ⟨b, off + i, none⟩ = some u ∧ Sl w u (ints l[i]) := by
  obtain ⟨b, off, cs, ha, hS, hlt, hr, hl, hc⟩ := h.at (k := 1) (fun d hd => by simp at hd; obtain ⟨t, _, rfl⟩ := hd; simp [D.ints, D.cells]) (by decide) (i := i) (by simpa using hi)
  simp at hr
  obtain ⟨x, rfl⟩ : ∃ x, cs = [x] := by
    match cs, hl with
    | [x], _ => exact ⟨x, rfl⟩
  refine ⟨b, off, x, ha, by simpa using hc 0 (by simp), ?_⟩
  exact sl_rd hr
end Dm
end Go.Proofs.YtfocooehnmpndaaGreat
namespace Go.Proofs.YtfocooehnmpndaaGreat
open Go.RowKit
namespace At
end At
end Go.Proofs.YtfocooehnmpndaaGreat
namespace Go.Proofs.YtfocooehnmpndaaGreat
open Go.RowKit
namespace At
end At
end Go.Proofs.YtfocooehnmpndaaGreat
namespace Go.Proofs.YtfocooehnmpndaaGreat
open Go.RowKit
namespace At
theorem leaves_okK : ∀ q ∈ leavesS.eqs, okEqK q := by
  intro q hq
  simp [leavesS] at hq
  rcases hq with rfl | rfl <;> simp [okEqK, okRefI, i64]
end At
end Go.Proofs.YtfocooehnmpndaaGreat
namespace Go.Proofs.YtfocooehnmpndaaGreat
open Go.RowKit
namespace Dm
open At (Ref okEqK checkS leavesS oneX addX)
theorem two_chk : chkD listG leavesS twoT = 0 := by
  unfold chkD
  rw [if_neg (by rw [At.leaves_ok]; decide), if_neg (by rw [list_two]; decide), if_pos]
  unfold symOf
  rw [if_pos list_two]
  decide
theorem two_vl1 : Vl leavesS (tabT twoT) (1, 0) 1 := by
  have h := Vl.mk (s := leavesS) (L := tabT twoT) (1, 0) (fun _ => 0) (by
    intro j hj
    have e : needsI leavesS (tabT twoT) (1, 0) = [] := by
      unfold needsI
      rw [At.refs_same]
      rfl
    rw [e] at hj
    cases hj)
  have e : exprI leavesS (tabT twoT) (1, 0) = oneX := rfl
  rw [e] at h
  exact h
theorem two_vl0 : Vl leavesS (tabT twoT) (0, 0) 2 := by
  have h := Vl.mk (s := leavesS) (L := tabT twoT) (0, 0) (fun _ => 1) (by
    intro j hj
    have e : needsI leavesS (tabT twoT) (0, 0) = [(1, 0)] := by
      unfold needsI
      rw [At.refs_same]
      rfl
    rw [e, List.mem_singleton] at hj
    subst hj
    exact two_vl1)
  have e : exprI leavesS (tabT twoT) (0, 0) = addX := rfl
  rw [e] at h
  exact h
theorem two_all : allI listG leavesS (tabT twoT) = [(0, 0), (1, 0)] := by rfl
end Dm
end Go.Proofs.YtfocooehnmpndaaGreat
namespace Go.Proofs.YtfocooehnmpndaaGreat
open Go.RowKit
namespace Dm
theorem zBoolD (w : World) : (zeroValue 4).run Tryz.prog w = .ok (.bool false) w := by
  obtain ⟨i, hi, hz, _⟩ := info_parts (show (Tryz.prog.info? 4).map (fun i => (i.zero, i.size, i.bytes)) = some (some (.bool false), 1, 1) by kernel_rfl)
  simp [zeroValue, typeInfo, hi, hz]
def litB (C : Inst → Bool) (i : Inst) : Option Lit := if C i = true then some (.bool true) else none
def putC (C : Inst → Bool) (i : Inst) : Inst → Bool := fun j => if j = i then true else C j
theorem putC_same {C : Inst → Bool} {i : Inst} (h : C i = true) : putC C i = C := by
  funext j
  unfold putC
  by_cases e : j = i
  · rw [if_pos e, e, h]
  · rw [if_neg e]
def SetP (b : Nat) (C : Inst → Bool) (c : Nat) (w : World) : Prop := ∃ F : Lit → Option Lit, Km.KMap 104 4 b F c w ∧ (∀ i, okI i → F (piL i.1 i.2) = litB C i) ∧ ∀ l, (F l).isSome = true → ∃ i, okI i ∧ l = piL i.1 i.2
section
variable {b c : Nat} {C : Inst → Bool} {w w' : World}
theorem SetP.start (w : World) {b : Nat} (hb : b = w.heap.size) : SetP b (fun _ => false) 0 (w.alloc (.map #[] 0)) := ⟨_, Km.KMap.start w hb, fun _ _ => rfl, fun l h => by cases h⟩
theorem SetP.keep (h : SetP b C c w) (hb : Below w.heap.size w w') : SetP b C c w' := by obtain ⟨F, h1, h2⟩ := h; exact ⟨F, h1.keep hb, h2⟩
theorem SetP.kept {row : Option Nat} (h : SetP b C c w) (hg : w.grownBy w' row) (hne : some b ≠ row) : SetP b C c w' := by obtain ⟨F, h1, h2⟩ := h; exact ⟨F, h1.kept hg hne, h2⟩
theorem SetP.lt (h : SetP b C c w) : b < w.heap.size := by obtain ⟨F, h1, _⟩ := h; exact h1.lt
theorem SetP.len (h : SetP b C c w) (ty : TypeId) : (Builtin.len_ #[99] ty #[.map (some b)]).run Tryz.prog w = .ok (.int .i64 c) w := by obtain ⟨F, h1, _⟩ := h; exact h1.len Tryz.underlying99 ty
theorem SetP.look (h : SetP b C c w) {n a : Nat} (hi : okI (n, a)) : (Instr.lookup 99 (.map (some b)) (.agg #[.int .i64 n, .int .i64 a]) false).run Tryz.prog w = .ok (.bool (C (n, a))) w := by
  obtain ⟨F, ⟨D, h1, h2, h3, h4⟩, hF, -⟩ := h
  have hf := hF _ hi
  simp only at hf
  obtain ⟨v', ps', hrun', hv'⟩ := h1.lookup piK Tryz.underlying99 (zBoolD w) (plainElem_bool Tryz.underlying4 false) (piKey hi.1 hi.2)
  obtain ⟨x, rfl, hx⟩ := plainElem_bool_inv Tryz.underlying4 hv'
  rw [hrun']
  unfold litB at hf
  cases e : C (n, a) with
  | true =>
    rw [e, if_pos rfl] at hf
    rw [h4 _ _ hf] at hx
    simp at hx
    rw [hx.1]
  | false =>
    rw [e, if_neg (by decide)] at hf
    have hh : Maps.has D (piL (n : Int) (a : Int)) = false := by rw [h3, hf]; rfl
    rw [Maps.atKey_of_not_has hh] at hx
    simp at hx
    rw [hx.1]
theorem SetP.add (h : SetP b C c w) (hc : c ≤ 1000000000000000) {n a : Nat} (hi : okI (n, a)) : ∃ w', (Instr.mapUpdate 99 (.map (some b)) (.agg #[.int .i64 n, .int .i64 a]) (.bool true)).run Tryz.prog w = .ok () w' ∧ SetP b (putC C (n, a)) (if C (n, a) = true then c else c + 1) w' ∧ w.grownBy w' (some b) := by
  obtain ⟨F, h0, hF, hO⟩ := h
  obtain ⟨w', hrun, h1, hg⟩ := h0.store piK Tryz.underlying99 (by unfold maxLen; omega) (piKey hi.1 hi.2) (Km.velBool true)
  have hf := hF _ hi
  simp only at hf
  have hs : (F (piL (n : Int) (a : Int))).isSome = C (n, a) := by
    rw [hf]
    unfold litB
    cases C (n, a) <;> rfl
  rw [hs] at h1
  refine ⟨w', hrun, ⟨_, h1, fun j hj => ?_, fun l hl => ?_⟩, hg⟩
  rotate_left 1
  · by_cases e : l = piL (n : Int) (a : Int)
    · exact ⟨_, hi, e⟩
    · rw [Km.put_other _ _ e] at hl
      exact hO l hl
  unfold litB putC
  by_cases e : j = (n, a)
  · subst e
    rw [Km.put_same, if_pos rfl]; rfl
  · rw [if_neg e, Km.put_other _ _ (fun e' => ?_)]
    · exact hF j hj
    · obtain ⟨e1, e2⟩ := piL_inj hj.1 hj.2 hi.1 hi.2 e'
      exact e (inst_eq e1 e2)
end
def SetN (b : Nat) (C : Inst → Bool) (c : Nat) (w : World) : Prop := ∃ F : Lit → Option Lit, Km.KMap 59 4 b F c w ∧ (∀ i, okI i → F (piL i.1 i.2) = litB C i) ∧ ∀ l, (F l).isSome = true → ∃ i, okI i ∧ l = piL i.1 i.2
section
variable {b c : Nat} {C : Inst → Bool} {w w' : World}
theorem SetN.start (w : World) {b : Nat} (hb : b = w.heap.size) : SetN b (fun _ => false) 0 (w.alloc (.map #[] 0)) := ⟨_, Km.KMap.start w hb, fun _ _ => rfl, fun l h => by cases h⟩
theorem SetN.keep (h : SetN b C c w) (hb : Below w.heap.size w w') : SetN b C c w' := by obtain ⟨F, h1, h2⟩ := h; exact ⟨F, h1.keep hb, h2⟩
theorem SetN.kept {row : Option Nat} (h : SetN b C c w) (hg : w.grownBy w' row) (hne : some b ≠ row) : SetN b C c w' := by obtain ⟨F, h1, h2⟩ := h; exact ⟨F, h1.kept hg hne, h2⟩
theorem SetN.lt (h : SetN b C c w) : b < w.heap.size := by obtain ⟨F, h1, _⟩ := h; exact h1.lt
theorem SetN.len (h : SetN b C c w) (ty : TypeId) : (Builtin.len_ #[56] ty #[.map (some b)]).run Tryz.prog w = .ok (.int .i64 c) w := by obtain ⟨F, h1, _⟩ := h; exact h1.len Tryz.underlying56 ty
theorem SetN.look (h : SetN b C c w) {n a : Nat} (hi : okI (n, a)) : (Instr.lookup 56 (.map (some b)) (.agg #[.int .i64 n, .int .i64 a]) false).run Tryz.prog w = .ok (.bool (C (n, a))) w := by
  obtain ⟨F, ⟨D, h1, h2, h3, h4⟩, hF, -⟩ := h
  have hf := hF _ hi
  simp only at hf
  obtain ⟨v', ps', hrun', hv'⟩ := h1.lookup inK Tryz.underlying56 (zBoolD w) (plainElem_bool Tryz.underlying4 false) (inKey hi.1 hi.2)
  obtain ⟨x, rfl, hx⟩ := plainElem_bool_inv Tryz.underlying4 hv'
  rw [hrun']
  unfold litB at hf
  cases e : C (n, a) with
  | true =>
    rw [e, if_pos rfl] at hf
    rw [h4 _ _ hf] at hx
    simp at hx
    rw [hx.1]
  | false =>
    rw [e, if_neg (by decide)] at hf
    have hh : Maps.has D (piL (n : Int) (a : Int)) = false := by rw [h3, hf]; rfl
    rw [Maps.atKey_of_not_has hh] at hx
    simp at hx
    rw [hx.1]
theorem SetN.add (h : SetN b C c w) (hc : c ≤ 1000000000000000) {n a : Nat} (hi : okI (n, a)) : ∃ w', (Instr.mapUpdate 56 (.map (some b)) (.agg #[.int .i64 n, .int .i64 a]) (.bool true)).run Tryz.prog w = .ok () w' ∧ SetN b (putC C (n, a)) (if C (n, a) = true then c else c + 1) w' ∧ w.grownBy w' (some b) := by
  obtain ⟨F, h0, hF, hO⟩ := h
  obtain ⟨w', hrun, h1, hg⟩ := h0.store inK Tryz.underlying56 (by unfold maxLen; omega) (inKey hi.1 hi.2) (Km.velBool true)
  have hf := hF _ hi
  simp only at hf
  have hs : (F (piL (n : Int) (a : Int))).isSome = C (n, a) := by
    rw [hf]
    unfold litB
    cases C (n, a) <;> rfl
  rw [hs] at h1
  refine ⟨w', hrun, ⟨_, h1, fun j hj => ?_, fun l hl => ?_⟩, hg⟩
  rotate_left 1
  · by_cases e : l = piL (n : Int) (a : Int)
    · exact ⟨_, hi, e⟩
    · rw [Km.put_other _ _ e] at hl
      exact hO l hl
  unfold litB putC
  by_cases e : j = (n, a)
  · subst e
    rw [Km.put_same, if_pos rfl]; rfl
  · rw [if_neg e, Km.put_other _ _ (fun e' => ?_)]
    · exact hF j hj
    · obtain ⟨e1, e2⟩ := piL_inj hj.1 hj.2 hi.1 hi.2 e'
      exact e (inst_eq e1 e2)
end
end Dm
end Go.Proofs.YtfocooehnmpndaaGreat
namespace Go.Proofs.YtfocooehnmpndaaGreat
open Go.RowKit
namespace Dm
open At (Ref refsS)
def Rs (s : At.Sys) (L : List Nd) (i j : Inst) : Prop := j = i ∨ Rch s L i j
theorem Rs.step {s : At.Sys} {L : List Nd} {i j k : Inst} (hj : j ∈ needsI s L i) (h : Rs s L j k) : Rs s L i k := by
  rcases h with rfl | h
  · exact .inr (.one hj)
  · exact .inr (Rch.trans (.one hj) h)
structure CoS (s : At.Sys) (L : List Nd) (C C' : Inst → Bool) (i : Inst) : Prop where
  sub : ∀ j, C j = true → C' j = true
  has : C' i = true
  new : ∀ j, C' j = true → C j = true ∨ Rs s L i j
  cl : ∀ j, C' j = true → C j = false → ∀ k ∈ needsI s L j, C' k = true
theorem CoS.same {s : At.Sys} {L : List Nd} {C : Inst → Bool} {i : Inst} (h : C i = true) : CoS s L C C i :=
  ⟨fun _ h => h, h, fun _ h => .inl h, fun j h1 h2 => by rw [h1] at h2; cases h2⟩
structure CoL (s : At.Sys) (L : List Nd) (C C' : Inst → Bool) (i : Inst) (l : List Inst) : Prop where
  sub : ∀ j, putC C i j = true → C' j = true
  new : ∀ j, C' j = true → C j = true ∨ Rs s L i j
  cl : ∀ j, C' j = true → C j = false → j ≠ i → ∀ k ∈ needsI s L j, C' k = true
  all : ∀ j ∈ l, C' j = true
theorem CoL.start {s : At.Sys} {L : List Nd} {C : Inst → Bool} {i : Inst} : CoL s L C (putC C i) i [] := by
  refine ⟨fun _ h => h, fun j h => ?_, fun j h h2 hne => ?_, fun j h => by cases h⟩
  · unfold putC at h
    by_cases e : j = i
    · exact .inr (.inl e)
    · rw [if_neg e] at h; exact .inl h
  · unfold putC at h
    rw [if_neg hne, h2] at h
    cases h
theorem CoL.next {s : At.Sys} {L : List Nd} {C C1 C2 : Inst → Bool} {i q : Inst} {l : List Inst} (h : CoL s L C C1 i l) (hq : q ∈ needsI s L i) (h2 : CoS s L C1 C2 q) : CoL s L C C2 i (l ++ [q]) := by
  refine ⟨fun j hj => h2.sub j (h.sub j hj), fun j hj => ?_, fun j hj hc hne k hk => ?_, fun j hj => ?_⟩
  · rcases h2.new j hj with h3 | h3
    · exact h.new j h3
    · exact .inr (Rs.step hq h3)
  · cases e : C1 j with
    | true => exact h2.sub k (h.cl j e hc hne k hk)
    | false => exact h2.cl j hj e k hk
  · rcases List.mem_append.1 hj with hj | hj
    · exact h2.sub j (h.all j hj)
    · rw [List.mem_singleton] at hj
      rw [hj]
      exact h2.has
theorem CoL.fin {s : At.Sys} {L : List Nd} {C C' : Inst → Bool} {i : Inst} (h : CoL s L C C' i (needsI s L i)) : CoS s L C C' i := by
  refine ⟨fun j hj => h.sub j ?_, h.sub i (by unfold putC; rw [if_pos rfl]), h.new, fun j hj hc => ?_⟩
  · unfold putC
    by_cases e : j = i
    · rw [if_pos e]
    · rw [if_neg e]; exact hj
  · by_cases e : j = i
    · rw [e]; exact fun k hk => h.all k hk
    · exact h.cl j hj hc e
structure CnS (l : List Inst) (C : Inst → Bool) (c : Nat) : Prop where
  cnt : c = l.countP C
  dom : ∀ i, C i = true → i ∈ l
theorem CnS.start (l : List Inst) : CnS l (fun _ => false) 0 := ⟨by simp, fun i h => by cases h⟩
theorem CnS.le {l : List Inst} {C : Inst → Bool} {c : Nat} (h : CnS l C c) : c ≤ l.length := by rw [h.cnt]; exact List.countP_le_length
theorem count_putC {l : List Inst} {C : Inst → Bool} {i : Inst} (hl : l.Nodup) (hi : i ∈ l) (hn : C i = false) : l.countP (putC C i) = l.countP C + 1 := by
  induction l with
  | nil => cases hi
  | cons x l ih =>
    rw [List.nodup_cons] at hl
    rw [List.countP_cons, List.countP_cons]
    by_cases e : x = i
    · subst e
      have h1 : l.countP (putC C x) = l.countP C := by
        refine List.countP_congr fun j hj => ?_
        unfold putC
        rw [if_neg (fun e : j = x => hl.1 (by rw [← e]; exact hj))]
      rw [h1, hn]
      unfold putC
      simp
    · have h2 := ih hl.2 (by rcases List.mem_cons.1 hi with h | h; exact absurd h.symm e; exact h)
      rw [h2]
      unfold putC
      rw [if_neg e]
      omega
theorem CnS.add {l : List Inst} {C : Inst → Bool} {c : Nat} (h : CnS l C c) (hl : l.Nodup) {i : Inst} (hi : i ∈ l) : CnS l (putC C i) (if C i = true then c else c + 1) := by
  refine ⟨?_, fun j hj => ?_⟩
  · cases e : C i with
    | true => rw [if_pos rfl, putC_same e]; exact h.cnt
    | false => rw [if_neg (by decide), count_putC hl hi e, h.cnt]
  · unfold putC at hj
    by_cases e : j = i
    · rw [e]; exact hi
    · rw [if_neg e] at hj; exact h.dom j hj
theorem CnS.same {l : List Inst} {C C' : Inst → Bool} {c c' : Nat} (h : CnS l C c) (h' : CnS l C' c') (he : ∀ i, C i = true ↔ C' i = true) : c = c' := by
  rw [h.cnt, h'.cnt]
  exact List.countP_congr fun i _ => he i
theorem closed_reach {s : At.Sys} {L : List Nd} {C : Inst → Bool} (hc : ∀ j, C j = true → ∀ k ∈ needsI s L j, C k = true) {i : Inst} (hi : C i = true) : ∀ {j : Inst}, Rs s L i j → C j = true := by
  intro j h
  rcases h with rfl | h
  · exact hi
  · induction h with
    | one h1 => exact hc _ hi _ h1
    | more _ h2 ih => exact hc _ ih _ h2
theorem CoS.closed {s : At.Sys} {L : List Nd} {C C' : Inst → Bool} {i : Inst} (h : CoS s L C C' i) (hc : ∀ j, C j = true → ∀ k ∈ needsI s L j, C k = true) : (∀ j, C' j = true → ∀ k ∈ needsI s L j, C' k = true) ∧ ∀ j, C' j = true ↔ C j = true ∨ Rs s L i j := by
  have h1 : ∀ j, C' j = true → ∀ k ∈ needsI s L j, C' k = true := fun j hj k hk => by
    cases e : C j with
    | true => exact h.sub k (hc j e k hk)
    | false => exact h.cl j hj e k hk
  exact ⟨h1, fun j => ⟨h.new j, fun h2 => h2.elim (h.sub j) (closed_reach h1 h.has)⟩⟩
end Dm
end Go.Proofs.YtfocooehnmpndaaGreat
namespace Go.Proofs.YtfocooehnmpndaaGreat
open Go.RowKit
namespace Dm
open At (Ref refsS)
def CT3 (vb sb cb : Nat) (k : Nat) : Prop := CT vb sb k ∨ k = cb
def CtPost (s : At.Sys) (L : List Nd) (l : List Inst) (cb : Nat) (C : Inst → Bool) (c : Nat) (i : Inst) (W : World) (e : Ending) (w' : World) : Prop :=
  e = .returned (.tuple #[]) ∧ ∃ C' c', CoS s L C C' i ∧ CnS l C' c' ∧ c ≤ c' ∧ SetP cb C' c' w' ∧ Keeps (fun k => k = cb) W w'
structure CtI (s : At.Sys) (L : List Nd) (l : List Inst) (cb : Nat) (C : Inst → Bool) (c : Nat) (i : Inst) (q : List Inst) (w5 wr : World) : Prop where
  ex : ∃ C' c', CoL s L C C' i q ∧ CnS l C' c' ∧ c + 1 ≤ c' ∧ SetP cb C' c' wr
  keep : Keeps (fun k => k = cb) w5 wr
theorem allI_leX (g : Gram) (s : At.Sys) (L : List Nd) : (allI g s L).length ≤ L.length * s.attrs.length := by
  unfold allI
  have h : ∀ n, ((List.range n).flatMap fun n => (attrsAt g s L n).map fun a => (n, a)).length ≤ n * s.attrs.length := fun n => by
    induction n with
    | zero => simp
    | succ n ih =>
      rw [List.range_succ, List.flatMap_append, List.length_append, Nat.succ_mul]
      have h2 : (attrsAt g s L n).length ≤ s.attrs.length := by
        unfold attrsAt attrsOf
        split
        · exact Nat.zero_le _
        · exact Nat.le_trans (List.length_filter_le _ _) (by rw [List.length_range]; exact Nat.le_refl _)
      rw [List.flatMap_cons, List.flatMap_nil, List.append_nil, List.length_map]
      omega
  exact h _
set_option maxHeartbeats 8000000 in
set_option maxRecDepth 100000 in
theorem countE (g : Gram) (s : At.Sys) (T : Tree) (hs : At.checkS g s = 0) (hv : validT g T = true) (hroot : rootS g T = ⟨false, g.start⟩) (hal : s.attrs.length ≤ 2000000) (hsz : tsz T ≤ 1000000) (ev tb eb vb sb cb : Nat) (wc : World) (hT : ∀ w, Keeps (CT3 vb sb cb) wc w → TbS g s (tabT T) tb eb vb sb w) (hev : ev ≠ cb) :
    ∀ (m : Nat) (C : Inst → Bool) (c n a : Nat) (W : World), (allI g s (tabT T)).length - c < m → CnS (allI g s (tabT T)) C c → (n, a) ∈ allI g s (tabT T) → Keeps (CT3 vb sb cb) wc W → SetP cb C c W → W.heap[ev]? = some (.cells #[.pointer (some ⟨tb, 0, none⟩), .map (some cb)] 101 (0, 0)) →
      Calls Tryz.prog 42 #[.pointer (some ⟨ev, 0, none⟩), .agg #[.int .i64 n, .int .i64 a]] W (CtPost s (tabT T) (allI g s (tabT T)) cb C c (n, a) W) := by
  intro m
  induction m with
  | zero => intro C c n a W hm; omega
  | succ m IH =>
  intro C c n a W hm hC hi hK hS hx
  have HENV := Lib.hid (env hs hv hroot hal hsz hi)
  have HNEEDS := Lib.hid (fun (j : Inst) (hj : j ∈ needsI s (tabT T) (n, a)) => needs_all hs hv hroot hi hj)
  have hok := okI_of hs hv hroot hal hsz hi
  have HOK := Lib.hid hok
  have HIB : Hid ((allI g s (tabT T)).length ≤ 4000000000000) := by
    have h1 := allI_leX g s (tabT T)
    have h2 : (tabT T).length * s.attrs.length ≤ 1000000 * 2000000 := Nat.mul_le_mul (by rw [tab_len]; exact hsz) hal
    show _ ≤ _
    omega
  have HND := Lib.hid (allI_nodup g s (tabT T))
  obtain ⟨PST, HP⟩ := nameIt (CtPost s (tabT T) (allI g s (tabT T)) cb C c (n, a) W)
  obtain ⟨L, HL⟩ := nameIt (tabT T)
  simp only [HL.out] at hT IH HENV HNEEDS HIB HND hm hC hi
  have HPN : Hid (∀ w' C' c', CoS s L C C' (n, a) → CnS (allI g s L) C' c' → c ≤ c' → SetP cb C' c' w' → Keeps (fun k => k = cb) W w' → PST (.returned (.tuple #[])) w') := fun w' C' c' h1 h2 h3 h4 h5 => by
    rw [← HP.out, HL.out]
    exact ⟨rfl, C', c', h1, h2, h3, h4, h5⟩
  rw [HP.out]
  clear HP hs hv hroot hal hsz
  have HT := Lib.hid hT
  have HEV := Lib.hid hev
  have HIH := Lib.hid IH
  have HM : Hid ((allI g s L).length - c < m + 1) := hm
  have HC := Lib.hid hC
  have HIN := Lib.hid hi
  have HK := Lib.hid hK
  have HS := Lib.hid hS
  have HX := Lib.hid hx
  obtain ⟨w0, HW0⟩ := nameIt (W.alloc (.cells #[.int .i64 (n : Int), .int .i64 (a : Int)] 104))
  have hb0 : Below W.heap.size W w0 := by rw [← HW0.out]; exact (Below.refl _ _).alloc (Nat.le_refl _) _
  have X0 : Hid (w0.heap[W.heap.size]? = some (.cells #[.int .i64 (n : Int), .int .i64 (a : Int)] 104 (0, 0))) := by rw [← HW0.out]; exact bx_new _ _ _ rfl
  have HB0 := Lib.hid hb0
  have hlk : ∀ x : Aft w0, (Instr.lookup 99 (.map (some cb)) (.agg #[.int .i64 (n : Int), .int .i64 (a : Int)]) false).run Tryz.prog x.w = .ok (.bool (C (n, a))) x.w := fun x => (hS.keep (hb0.trans (x.bel.mono hb0.size))).look hok
  obtain ⟨bq, HBQ⟩ := nameIt (C (n, a))
  simp only [HBQ.out] at hlk
  obtain ⟨y0, y1⟩ := bx_cells2 (bx_keep hx hb0)
  obtain ⟨z0, z1⟩ := bx_cells2 X0.out
  have ay1 := aft_cell y1
  have az0 := aft_cell z0
  have az1 := aft_cell z1
  clear hm hC hi hK hS hx IH hT hev hok hb0 y0 y1 z0 z1
  go_enter Tryz.func42, Tryz.ntmps42
  go_upto_region 1 with fail
  rw [HW0.out]
  clear HW0
  refine wp_region_after (w0 := w0) (by kernel_rfl) (by kernel_rfl) ?_
  repeat (go_big_quiet_step (fail))
  refine wpQuiet_nil ?_
  rintro w1 ⟨⟨_, hb1⟩, rfl⟩
  have HB1 : Hid (Below W.heap.size W w1) := HB0.out.trans (hb1.mono HB0.out.size)
  have X1 := Lib.hid (bx_keep X0.out hb1)
  clear hb1 ay1 az0 az1 hlk
  cases bq with
  | true =>
    have HE := Lib.hid (HPN.out w1 C c (CoS.same HBQ.out) HC.out (Nat.le_refl _) (HS.out.keep HB1.out) (Below.keeps HB1.out))
    go_wp2_with fail
    first | exact HE.out | exact bodyPost_end (results_none Tryz.results42 _ _ _) rfl HE.out
  | false =>
    obtain ⟨y0, y1⟩ := bx_cells2 (bx_keep HX.out HB1.out)
    obtain ⟨z0, z1⟩ := bx_cells2 X1.out
    have ay1 := aft_cell y1
    have az0 := aft_cell z0
    have az1 := aft_cell z1
    clear y0 y1 z0 z1
    go_upto_region 2 with fail
    refine wp_region_after_tail (w0 := w1) 5 (by kernel_rfl) (by kernel_rfl) ?_
    simp only [List.take_succ_cons, List.take_zero, List.drop_succ_cons, List.drop_zero]
    repeat (go_big_quiet_step (fail))
    refine wpQuiet_nil ?_
    rintro w2 ⟨⟨_, hb2⟩, rfl⟩
    have HB2 : Hid (Below W.heap.size W w2) := HB1.out.trans (hb2.mono HB1.out.size)
    obtain ⟨w3, hrun, hS3, hg3⟩ := (HS.out.keep HB2.out).add (by have h1 := HC.out.le; have h2 := HIB.out; omega) HOK.out
    rw [HBQ.out, if_neg (by decide)] at hS3
    have HS3 := Lib.hid hS3
    have hC3 := HC.out.add HND.out HIN.out
    rw [HBQ.out, if_neg (by decide)] at hC3
    have HC3 := Lib.hid hC3
    have HCBW : Hid (cb < W.heap.size) := HS.out.lt
    have HK3 : Hid (Keeps (fun k => k = cb) W w3) := Keeps.more (Below.keeps HB2.out) (keeps_grown hg3 rfl)
    have X3 : Hid (w3.heap[W.heap.size]? = some (.cells #[.int .i64 (n : Int), .int .i64 (a : Int)] 104 (0, 0))) := (hg3.block _ (Array.getElem?_eq_some_iff.1 (bx_keep X1.out hb2)).1 (fun e => by have := HCBW.out; simp at e; omega)).trans (bx_keep X1.out hb2)
    have HX3 : Hid (w3.heap[ev]? = some (.cells #[.pointer (some ⟨tb, 0, none⟩), .map (some cb)] 101 (0, 0))) := HK3.out.cells HX.out HEV.out
    have HKW : Hid (Keeps (CT3 vb sb cb) wc w3) := Keeps.trans HK.out HK3.out (fun k hk => .inl (.inr hk))
    clear hb2 ay1 az0 az1 hS3 hC3 hg3
    go_upto_region 3 with fail
    clear hrun
    obtain ⟨q, hE⟩ := HENV.out
    have E := Lib.hid hE
    have HBR : Hid (Below w3.heap.size w3 w3.drew) := (Below.refl _ _).drew
    have HNE := Lib.hid (needsE g s L tb eb vb sb n a _ q (placeI L (ownerI s L (n, a))) w3.drew ((HT.out _ HKW.out).below HBR.out) E.out.eq (Nat.le_trans E.out.size (by decide)) E.out.at_)
    obtain ⟨NL, HNL⟩ := nameIt ((refsS q.is').map (placeI L (ownerI s L (n, a))))
    rw [HNL.out] at HNE
    have HNEED : Hid (needsI s L (n, a) = NL) := by show _ = _; unfold needsI; rw [E.out.ex]; exact HNL.out
    obtain ⟨ln, HLN⟩ := nameIt NL.length
    obtain ⟨y0, y1⟩ := bx_cells2 HX3.out
    obtain ⟨z0, z1⟩ := bx_cells2 X3.out
    have HCS : Hid (∀ w', Below w3.heap.size w3 w' → w'.cell? ⟨ev, 0, none⟩ = some (.pointer (some ⟨tb, 0, none⟩)) ∧ w'.cell? ⟨W.heap.size, 0, none⟩ = some (.int .i64 (n : Int)) ∧ w'.cell? ⟨W.heap.size, 0 + 1, none⟩ = some (.int .i64 (a : Int))) := fun w' hb => ⟨(hb.cell (lt_of_cell y0)).trans y0, (hb.cell (lt_of_cell z0)).trans z0, (hb.cell (lt_of_cell z1)).trans z1⟩
    clear y0 y1 z0 z1 hE
    refine wp_region_V (S := (fun (_ : Array Bool) (w' : World) => w'.cell? ⟨ev, 0, none⟩ = some (.pointer (some ⟨tb, 0, none⟩)) ∧ w'.cell? ⟨W.heap.size, 0, none⟩ = some (.int .i64 (n : Int)) ∧ w'.cell? ⟨W.heap.size, 0 + 1, none⟩ = some (.int .i64 (a : Int)))) (by kernel_rfl) (fun hcl => ?_)
    refine wpV_take (i := 0) (v := .pointer (some ⟨ev, 0, none⟩)) (T := (fun _ : World => True)) rfl hcl (by kernel_rfl) (by kernel_rfl) (by kernel_rfl) (fun _ _ _ h => h) (fun l w h => h) (fun _ _ _ _ _ => trivial) (Or.inl ⟨by rfl, fun w' hw' => ?_⟩) (HCS.out _ HBR.out) (fun hcl => ?_)
    · clear hw'
      go_simp
    try simp only [Act.put, List.setIfInBounds_toArray, List.set_cons_zero, List.set_cons_succ]
    refine wpV_take (i := 1) (v := .pointer (some ⟨ev, 0, none⟩)) (T := (fun _ : World => True)) rfl hcl (by kernel_rfl) (by kernel_rfl) (by kernel_rfl) (fun _ _ _ h => h) (fun l w h => h) (fun _ _ _ _ _ => trivial) (Or.inl ⟨by rfl, fun w' hw' => ?_⟩) (HCS.out _ HBR.out) (fun hcl => ?_)
    · clear hw'
      go_simp
    try simp only [Act.put, List.setIfInBounds_toArray, List.set_cons_zero, List.set_cons_succ]
    refine wpV_take (i := 2) (v := .pointer (some ⟨ev, 0, none⟩)) (T := (fun _ : World => True)) rfl hcl (by kernel_rfl) (by kernel_rfl) (by kernel_rfl) (fun _ _ _ h => h) (fun l w h => h) (fun _ _ _ _ _ => trivial) (Or.inl ⟨by rfl, fun w' hw' => ?_⟩) (HCS.out _ HBR.out) (fun hcl => ?_)
    · clear hw'
      go_simp
    try simp only [Act.put, List.setIfInBounds_toArray, List.set_cons_zero, List.set_cons_succ]
    refine wpV_take (i := 3) (v := .pointer (some ⟨tb, 0, none⟩)) (T := (fun w' : World => w'.cell? ⟨ev, 0, none⟩ = some (.pointer (some ⟨tb, 0, none⟩)) ∧ w'.cell? ⟨W.heap.size, 0, none⟩ = some (.int .i64 (n : Int)) ∧ w'.cell? ⟨W.heap.size, 0 + 1, none⟩ = some (.int .i64 (a : Int)))) rfl hcl (by kernel_rfl) (by kernel_rfl) (by kernel_rfl) (fun _ _ _ h => h) (fun l w h => h) (fun l w _ _ h => h) (Or.inl ⟨by rfl, fun w' hw' => ?_⟩) (HCS.out _ HBR.out) (fun hcl => ?_)
    · obtain ⟨h0, h1, h2⟩ := hw'
      go_simp
    try simp only [Act.put, List.setIfInBounds_toArray, List.set_cons_zero, List.set_cons_succ]
    refine wpV_take (i := 4) (v := .agg #[.int .i64 (n : Int), .int .i64 (a : Int)]) (T := (fun w' : World => w'.cell? ⟨ev, 0, none⟩ = some (.pointer (some ⟨tb, 0, none⟩)) ∧ w'.cell? ⟨W.heap.size, 0, none⟩ = some (.int .i64 (n : Int)) ∧ w'.cell? ⟨W.heap.size, 0 + 1, none⟩ = some (.int .i64 (a : Int)))) rfl hcl (by kernel_rfl) (by kernel_rfl) (by kernel_rfl) (fun _ _ _ h => h) (fun l w h => h) (fun l w _ _ h => h) (Or.inl ⟨by rfl, fun w' hw' => ?_⟩) (HCS.out _ HBR.out) (fun hcl => ?_)
    · obtain ⟨h0, h1, h2⟩ := hw'
      go_simp
    try simp only [Act.put, List.setIfInBounds_toArray, List.set_cons_zero, List.set_cons_succ]
    refine wpV_take (i := 7) (v := .int .i64 0) (T := (fun _ : World => True)) rfl hcl (by kernel_rfl) (by kernel_rfl) (by kernel_rfl) (fun _ _ _ h => h) (fun l w h => h) (fun _ _ _ _ _ => trivial) (Or.inl ⟨by rfl, fun w' hw' => ?_⟩) (HCS.out _ HBR.out) (fun hcl => ?_)
    · clear hw'
      go_simp
    try simp only [Act.put, List.setIfInBounds_toArray, List.set_cons_zero, List.set_cons_succ]
    refine wpV_one (i := 5) (by kernel_rfl) rfl (fun K hK => ?_)
    go_simp
    go_at_call 80
    refine HNE.out.mono ?_
    rintro e5 w5 ⟨v5, rfl, ho5, hb5⟩
    have HB5 : Hid (Below w3.heap.size w3 w5) := HBR.out.trans (hb5.mono HBR.out.size)
    rw [HLN.out] at ho5
    obtain ⟨a5, c5, rfl, hcc1, hcc2⟩ := own_len ho5
    unfold maxLen at hcc2
    have HO5 := Lib.hid ho5
    clear ho5 hb5
    refine hK.out _ _ (HCS.out _ HB5.out) ?_
    clear hK K
    try simp only [Act.put, List.setIfInBounds_toArray, List.set_cons_zero, List.set_cons_succ]
    refine wpV_one (i := 6) (by kernel_rfl) rfl (fun K hK => ?_)
    go_simp
    refine hK.out _ _ (HCS.out _ HB5.out) ?_
    clear hK K
    try simp only [Act.put, List.setIfInBounds_toArray, List.set_cons_zero, List.set_cons_succ]
    refine wpV_done (by kernel_rfl) ?_ _
    have HL0 : Hid (CtI s L (allI g s L) cb C c (n, a) (NL.take 0) w5 w5) := ⟨⟨_, _, CoL.start, HC3.out, Nat.le_refl _, HS3.out.keep HB5.out⟩, Below.keeps (Below.refl _ _)⟩
    have HRDN : Hid (Rd AnyB w5 (.sl ((NL.map toR).map Ref.d)) [.slice a5 ln c5]) := by have h := HO5.out; rw [← HLN.out] at h ⊢; exact pl_rd h (fun _ _ => trivial)
    have HX5 := Lib.hid (bx_keep HX3.out HB5.out)
    have HO5C : Hid (∀ k, (Value.slice a5 ln c5).ownBlock = some k → k ≠ cb) := fun k e => by
      have h1 := (HO5.out.lt k e).1
      have h2 := HCBW.out
      have h3 := HK3.out.size
      have h4 := HBR.out.size
      omega
    go_wp2_with fail
    go_loopg [5, 24] ln (fun gg v5 v24 wr => ∃ k : Nat, k ≤ ln ∧ ln - k ≤ gg ∧ v24 = .int .i64 k ∧ Hid (CtI s L (allI g s L) cb C c (n, a) (NL.take k) w5 wr))
    case atStart => exact ⟨0, by omega, by omega, rfl, HL0⟩
    case round =>
      obtain ⟨k, hk, hg, rfl, HI⟩ := hrel
      clear HL0
      have HKR : Hid (Keeps (fun k => k = cb) W wr) := Keeps.more HK3.out (Keeps.more (Below.keeps HB5.out) HI.out.keep)
      by_cases hlt : k < ln
      · have hlt' : (k : Int) < (ln : Int) := by omega
        have hkc : (k : Int) ≤ (c5 : Int) := by omega
        have hkl : k < NL.length := by rw [HLN.out]; exact hlt
        have HRX : Hid (Rd AnyB wr (.sl ((NL.map toR).map Ref.d)) [.slice a5 ln c5]) := by
          have h := own_blk HO5.out (w' := wr) (fun g hg2 => HI.out.keep.block g (HO5.out.lt g hg2).2 (HO5C.out g hg2))
          rw [← HLN.out] at h ⊢
          exact pl_rd h (fun _ _ => trivial)
        obtain ⟨nb, no, hne, -, hnbl, p0, p1⟩ := pl_at HRX.out hkl
        have HJN : Hid (NL[k] ∈ needsI s L (n, a)) := by show _ ∈ _; rw [HNEED.out]; exact List.getElem_mem hkl
        have HJA := Lib.hid (HNEEDS.out _ HJN.out)
        have HTK : Hid (NL.take (k + 1) = NL.take k ++ [NL[k]]) := List.take_succ_eq_append_getElem hkl
        obtain ⟨y, HY⟩ := nameIt (NL[k]'hkl)
        rw [HY.out] at p0 p1 HJN HJA HTK
        obtain ⟨y1, y2⟩ := y
        simp only at p0 p1
        obtain ⟨w8, HW8⟩ := nameIt (wr.alloc (.cells #[.int .i64 (y1 : Int), .int .i64 (y2 : Int)] 104))
        have hb8 : Below wr.heap.size wr w8 := by rw [← HW8.out]; exact (Below.refl _ _).alloc (Nat.le_refl _) _
        have X8 : Hid (w8.heap[wr.heap.size]? = some (.cells #[.int .i64 (y1 : Int), .int .i64 (y2 : Int)] 104 (0, 0))) := by rw [← HW8.out]; exact bx_new _ _ _ rfl
        have HB8 := Lib.hid hb8
        have HK8 : Hid (Keeps (fun k => k = cb) W w8) := Keeps.more HKR.out (Below.keeps hb8)
        obtain ⟨C1, c1, hL1, hC1, hle1, hS1⟩ := HI.out.ex
        have HL1 := Lib.hid hL1
        have HLE1 := Lib.hid hle1
        have HCALL := Lib.hid (HIH.out C1 c1 y1 y2 w8 (by have h1 := HM.out; have h2 := hC1.le; have h3 := HLE1.out; omega) hC1 HJA.out (Keeps.trans HK.out HK8.out (fun k hk => .inl (.inr hk))) (hS1.keep hb8) (HK8.out.cells HX.out HEV.out))
        obtain ⟨z0, z1⟩ := bx_cells2 X8.out
        have hl8 : wr.heap.size < w8.heap.size := (Array.getElem?_eq_some_iff.1 X8.out).1
        subst hne
        clear hb8 hL1 hC1 hle1 hS1
        go_upto_region 6 with fail
        rw [HW8.out]
        clear HW8 p0 p1 hnbl
        go_wp2_with (refine HCALL.out.mono ?_)
        rintro e9 w9 ⟨rfl, C2, c2, hco, hcn, hle, hS9, hK9⟩
        have HI9 : Hid (CtI s L (allI g s L) cb C c (n, a) (NL.take (k + 1)) w5 w9) := by
          rw [HTK.out]
          exact ⟨⟨C2, c2, HL1.out.next HJN.out hco, hcn, Nat.le_trans HLE1.out hle, hS9⟩, Keeps.more HI.out.keep (Keeps.more (Below.keeps HB8.out) hK9)⟩
        clear hco hcn hle hS9 hK9 z0 z1 HCALL
        go_wp2_with fail
        go_roundg (ln - (k + 1))
        case measure => omega
        case rel => exact ⟨k + 1, by omega, by omega, by go_num, HI9⟩
      · have hend : k = ln := by omega
        have hlt' : ¬ (k : Int) < (ln : Int) := by omega
        have HE : Hid (PST (.returned (.tuple #[])) wr) := by
          obtain ⟨C1, c1, hL1, hC1, hle1, hS1⟩ := HI.out.ex
          rw [hend, ← HLN.out, List.take_length, ← HNEED.out] at hL1
          exact HPN.out wr C1 c1 hL1.fin hC1 (by omega) hS1 HKR.out
        go_wp2_with fail
        first | exact HE.out | exact bodyPost_end (results_none Tryz.results42 _ _ _) rfl HE.out
end Dm
end Go.Proofs.YtfocooehnmpndaaGreat
namespace Go.Proofs.YtfocooehnmpndaaGreat
open Go.RowKit
namespace Dm
open At (Ref refsS)
def atN (L : List Nd) : Nat → List Int → Option Nat
  | n, [] => some n
  | n, i :: p => if i < 0 ∨ ((ndAt L n).kids.length : Int) ≤ i then none else atN L (((ndAt L n).kids[i.toNat]?).getD 0).toNat p
def atI (L : List Nd) (p : List Int) : Int := match atN L 0 p with
  | some n => (n : Int)
  | none => -1
def KidsOk (L : List Nd) : Prop := ∀ n, n < L.length → ∀ k (h : k < (ndAt L n).kids.length), ∃ m : Nat, (ndAt L n).kids[k] = (m : Int) ∧ m < L.length
theorem kids_ok {g : Gram} {T : Tree} (hv : validT g T = true) : KidsOk (tabT T) := by
  intro n hn k hk
  rw [tab_len] at hn
  obtain ⟨x, u, p, hK⟩ := known_all hv hn
  have hnd := ndAt_known hK
  have hk2 : k < x.kids.length := by rw [hnd] at hk; simpa [starts_len] using hk
  have hst := starts_get x.kids (n + 1) k hk2
  have hr : x.rule ≠ -1 := fun hr => by
    have h5 := List.all_eq_true.1 hv x hK.2
    unfold nodeOk at h5
    rw [if_pos hr] at h5
    simp at h5
    rw [h5.2.2] at hk2
    simp at hk2
  have hKk : Known T (tabT T) (n + 1 + tszL (x.kids.take k)) x.kids[k] n (k + 1) := ⟨good_kid hK.1 hk2, kid_node T x _ hK.2 hr (List.getElem_mem hk2)⟩
  refine ⟨n + 1 + tszL (x.kids.take k), ?_, by rw [tab_len]; exact known_lt hKk⟩
  have h6 : (ndAt (tabT T) n).kids[k]? = some ((n + 1 + tszL (x.kids.take k) : Nat) : Int) := by rw [hnd]; exact hst
  rw [List.getElem?_eq_getElem hk] at h6
  exact Option.some.inj h6
theorem atN_step {L : List Nd} {n : Nat} {i : Int} {p : List Int} (k : Nat) (hi : i = (k : Int)) (hk : k < (ndAt L n).kids.length) {m : Nat} (hm : (ndAt L n).kids[k] = (m : Int)) : atN L n (i :: p) = atN L m p := by
  subst hi
  rw [atN, if_neg (by omega), Int.toNat_natCast, List.getElem?_eq_getElem hk, hm]
  rfl
theorem atN_bad {L : List Nd} {n : Nat} {i : Int} {p : List Int} (h : i < 0 ∨ ((ndAt L n).kids.length : Int) ≤ i) : atN L n (i :: p) = none := by rw [atN, if_pos h]
end Dm
end Go.Proofs.YtfocooehnmpndaaGreat
