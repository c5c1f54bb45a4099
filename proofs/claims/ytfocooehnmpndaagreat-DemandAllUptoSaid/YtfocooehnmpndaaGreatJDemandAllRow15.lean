/- The contract of the reference's Worth. parlref4.World.Values. parlref4.World.Rows. parllaw4.sameRows of equal tables. The contract of attr.Find. The contract of sameExpr, of two expressions that are the same. The walk of the law AttrChecks. -/
import Derived.Test.YtfocooehnmpndaaGreatJDemandAllRow8
import Derived.Test.YtfocooehnmpndaaGreatJDemandAllRow14
import Derived.Test.YtfocooehnmpndaaGreatJDemandAllRow1
import Derived.Deep.LoopGhost
import Derived.Test.YtfocooehnmpndaaGreatJDemandAllRow7
import Derived.Test.YtfocooehnmpndaaGreatJDemandAllRow6
import Derived.Test.YtfocooehnmpndaaGreatJDemandAllRow10
namespace Go.Proofs.YtfocooehnmpndaaGreat
open Go.RowKit
namespace At
set_option maxHeartbeats 8000000 in
set_option maxRecDepth 100000 in
theorem worthE (RP : Ref → Prop) (g : Nat) (lb : Array Value) (get : Ref → Int) (hget : ∀ r, RP r → inM (get r)) (eg : ∀ args w, (callFunc g args).run Tryz.prog w = .ok (.enter g args) w) : ∀ (m : Nat) (x : Expr) (v : Value) (w : World), x.size ≤ m → okX RP x → GetAt RP g lb get w → Rd AnyB w (.sl (x.args.map Expr.d)) [v] → x.size ≤ 100000 →
    Calls Tryz.prog 45 #[.agg #[.int .i64 x.kind, .int .i64 x.n, .int .i64 x.ref.at', .int .i64 x.ref.attr, v], .func (.func g) #[] lb] w (fun e w' => e = .returned (.int .i64 (worth get x)) ∧ Below w.heap.size w w') := by
  intro m
  induction m with
  | zero => intro x v w hm; have := x.size_pos; omega
  | succ m ih =>
  intro x v w hm hx hgf hv hbig
  obtain ⟨a, cap, rfl, hc1, hc2⟩ := hv.form
  rw [List.length_map] at hc1 hv ⊢
  unfold maxLen at hc2
  have HV := Lib.hid hv
  have HM := Lib.hid hm
  have HSZ := Lib.hid x.size_eq
  have HXS := Lib.hid hx.self
  have hkn : x.args.length ≤ 100000 := by have := sizeL_len x.args; rw [Expr.size_eq] at hbig; omega
  have IH := Lib.hid (fun y u W h1 h2 h3 h4 => ih y u W h1 h2 h3 h4)
  have HOK := Lib.hid (fun y (hy : y ∈ x.args) => hx.kid hy)
  have HWE := Lib.hid (worth_eq get x)
  have HVM := Lib.hid (worthL_inM hget hx)
  have HVI := Lib.hid (fun (i : Nat) (h : i < x.args.length) => show ∀ h2, (worthL get x.args)[i]'h2 = worth get x.args[i] from fun h2 => by simp [worthL_map])
  have HVL : Hid ((worthL get x.args).length = x.args.length) := by show _ = _; rw [worthL_map, List.length_map]
  have HGR := Lib.hid (hget x.ref)
  have HKBIG := Lib.hid (fun y (hy : y ∈ x.args) => show y.size ≤ 100000 by
    obtain ⟨i, hi, rfl⟩ := List.getElem_of_mem hy
    have := sizeL_kid hi
    rw [Expr.size_eq] at hbig
    omega)
  obtain ⟨w0, HW0⟩ := nameIt (w.alloc (.cells #[.int .i64 x.kind, .int .i64 x.n, .int .i64 x.ref.at', .int .i64 x.ref.attr, .slice a x.args.length cap] 86))
  have HB0 : Hid (Below w.heap.size w w0) := by rw [← HW0.out]; exact (Below.refl _ _).alloc (Nat.le_refl _) _
  have X0 : Hid (w0.heap[w.heap.size]? = some (.cells #[.int .i64 x.kind, .int .i64 x.n, .int .i64 x.ref.at', .int .i64 x.ref.attr, .slice a x.args.length cap] 86 (0, 0))) := by rw [← HW0.out]; exact bx_new _ _ _ rfl
  have HS0 : Hid (w0.heap.size = w.heap.size + 1) := by show _ = _; rw [← HW0.out]; simp
  have HGF := Lib.hid (fun (W : World) (hb : Below w0.heap.size w0 W) => (hgf.below HB0.out).below hb)
  obtain ⟨V, HVV⟩ := nameIt (worthL get x.args)
  obtain ⟨K, HKN⟩ := nameIt x.args
  simp only [HVV.out] at HWE HVM HVI HVL
  simp only [HKN.out] at HVI HVL HKBIG HOK HV HSZ
  obtain ⟨kn, HKL⟩ := nameIt K.length
  obtain ⟨q0, HQ0⟩ := nameIt x.kind
  obtain ⟨q1, HQ1⟩ := nameIt x.n
  obtain ⟨q2, HQ2⟩ := nameIt x.ref.at'
  obtain ⟨q3, HQ3⟩ := nameIt x.ref.attr
  obtain ⟨gr, HGRR⟩ := nameIt (get x.ref)
  obtain ⟨rs, HRS⟩ := nameIt (worth get x)
  rw [HKN.out, HKL.out] at hc1 X0 HW0 hkn ⊢
  rw [HKL.out] at HV HVL
  rw [HQ0.out, HQ1.out, HQ2.out, HQ3.out] at X0 HW0 ⊢
  rw [HRS.out, HQ0.out, HQ1.out, HGRR.out] at HWE
  rw [HGRR.out] at HGR
  rw [HRS.out]
  have HOA : Hid (okArgs q0 kn = true) := by have h := HXS.out.1; rw [HQ0.out, HKN.out, HKL.out] at h; exact h
  have HO1R : Hid (q0 = 1 → RP x.ref) := fun h => HXS.out.2.2 (by rw [HQ0.out]; exact h)
  have HO0 : Hid (w0.ownsRow (w.heap.size + 1) 3 1 (.slice none 0 0) 0 (ints (V.take 0))) := World.ownsRow_nil _ _ _ _
  have HB00 := Lib.hid (Below.refl w0.heap.size w0)
  have HGC := Lib.hid (fun (W : World) (hb : Below w0.heap.size w0 W) (h : q0 = 1) => HGF.out W hb W x.ref (HO1R.out h) (Below.refl _ _))
  rw [HQ2.out, HQ3.out, HGRR.out] at HGC
  obtain ⟨x0, x1, x2, x3, x4⟩ := bx_cells5 X0.out
  have HEG := Lib.hid eg
  have HHG := Lib.hid hget
  clear hm hx hgf hv ih hbig hget
  go_enter Tryz.func45, Tryz.ntmps45
  go_upto_region 1 with fail
  rw [HW0.out]
  go_wp2_with fail
  clear x0 x1 x2 x3 x4
  go_loopg [5, 20] kn (fun gg vl vc wr => ∃ i : Nat, i ≤ kn ∧ kn - i ≤ gg ∧ vc = .int .i64 i ∧ Hid (wr.ownsRow (w.heap.size + 1) 3 1 vl i (ints (V.take i))) ∧ Hid (Below w0.heap.size w0 wr))
  case atStart => exact ⟨0, by omega, by omega, rfl, HO0, HB00⟩
  case round =>
    clear HO0 HB00
    obtain ⟨i, hi, hg, rfl, HO, HB⟩ := hrel
    by_cases hlt : i < kn
    · have hlt' : (i : Int) < (kn : Int) := by omega
      have hltK : i < K.length := by rw [HKL.out]; exact hlt
      have hbw : Below w.heap.size w wr := HB0.out.trans (HB.out.mono HB0.out.size)
      obtain ⟨b, off, v, hae, -, hbl, e0, e1, e2, e3, e4, hkid⟩ := Rd.arg (HV.out.below hbw) hltK
      obtain ⟨av, cv, rfl, -, -⟩ := hkid.form
      rw [List.length_map] at e4 hkid
      have hms : K[i].size ≤ m := by
        have h1 := HM.out
        rw [HSZ.out] at h1
        have := sizeL_kid hltK
        omega
      have hvi : i < V.length := by rw [HVL.out]; exact hlt
      have HVT : Hid (V.take (i + 1) = V.take i ++ [worth get (K[i]'hltK)]) := by
        show _ = _
        rw [List.take_succ_eq_append_getElem hvi]
        congr 2
        rw [HVI.out i hltK hvi]
      obtain ⟨w1, HW1⟩ := nameIt (wr.alloc (.cells #[.int .i64 K[i].kind, .int .i64 K[i].n, .int .i64 K[i].ref.at', .int .i64 K[i].ref.attr, .slice av K[i].args.length cv] 86))
      have hb1 : Below wr.heap.size wr w1 := by rw [← HW1.out]; exact (Below.refl _ _).alloc (Nat.le_refl _) _
      have X1 : Hid (w1.heap[wr.heap.size]? = some (.cells #[.int .i64 K[i].kind, .int .i64 K[i].n, .int .i64 K[i].ref.at', .int .i64 K[i].ref.attr, .slice av K[i].args.length cv] 86 (0, 0))) := by rw [← HW1.out]; exact bx_new _ _ _ rfl
      have HB1 : Hid (Below w0.heap.size w0 w1) := HB.out.trans (hb1.mono HB.out.size)
      have hih := IH.out K[i] _ w1 hms (HOK.out _ (List.getElem_mem hltK)) (HGF.out w1 HB1.out) (hkid.below hb1) (HKBIG.out _ (List.getElem_mem hltK))
      obtain ⟨kid, HKI⟩ := nameIt (K[i]'hltK)
      rw [HKI.out] at e0 e1 e2 e3 e4 hih HVT X1 HW1
      obtain ⟨q0, HQ0⟩ := nameIt kid.kind
      obtain ⟨q1, HQ1⟩ := nameIt kid.n
      obtain ⟨q2, HQ2⟩ := nameIt kid.ref.at'
      obtain ⟨q3, HQ3⟩ := nameIt kid.ref.attr
      obtain ⟨qn, HQN⟩ := nameIt kid.args.length
      obtain ⟨val, HVAL⟩ := nameIt (worth get kid)
      rw [HVAL.out] at hih HVT
      rw [HQ0.out, HQ1.out, HQ2.out, HQ3.out, HQN.out] at hih X1 HW1
      rw [HQ0.out] at e0
      rw [HQ1.out] at e1
      rw [HQ2.out] at e2
      rw [HQ3.out] at e3
      rw [HQN.out] at e4
      have HC := Lib.hid hih
      have HO1 := Lib.hid (own_keep HO.out hb1)
      obtain ⟨ar, cr, hvr, hr1, hr2⟩ := own_len HO1.out
      obtain ⟨y0, y1, y2, y3, y4⟩ := bx_cells5 X1.out
      subst hae hvr
      clear hih hkid hms hb1 hbw hvi
      go_upto_region 5 with fail
      rw [HW1.out]
      clear e0 e1 e2 e3 e4
      go_wp2_with fail
      refine HC.out.mono ?_
      rintro e w2 ⟨rfl, hb2⟩
      have HB2 : Hid (Below w0.heap.size w0 w2) := HB1.out.trans (hb2.mono HB1.out.size)
      have HO2 := Lib.hid (own_keep HO1.out hb2)
      have hle2 : w.heap.size + 1 ≤ w2.heap.size := by have := HB2.out.size; have := HS0.out; omega
      clear hb2 y0 y1 y2 y3 y4
      go_wp2_with (at_builtin; refine wp_app1at elInt rfl _ _ rfl HO2.out rfl rfl (by simp) rfl rfl (by omega) (by unfold maxLen; omega) (by omega) ?_)
      intro v3 w3 ho3 hg3 hat3
      have HO3 : Hid (w3.ownsRow (w.heap.size + 1) 3 1 v3 (i + 1) (ints (V.take (i + 1)))) := by
        show w3.ownsRow _ _ _ _ _ _
        rw [HVT.out]
        simpa [ints] using ho3
      have HB3 : Hid (Below w0.heap.size w0 w3) := HB2.out.grown hg3 HB2.out.size (fun k e => by have := (HO2.out.lt k e).1; have := HS0.out; omega)
      obtain ⟨a3, c3, rfl, -, -⟩ := own_len ho3
      clear ho3 hg3 hat3
      go_wp2_with fail
      go_roundg (kn - (i + 1))
      case measure => omega
      case rel => exact ⟨i + 1, by omega, by omega, by go_num, HO3, HB3⟩
    · have hlt' : ¬ (i : Int) < (kn : Int) := by omega
      have HO5 : Hid (wr.ownsRow (w.heap.size + 1) 3 1 u5 kn (ints V)) := by
        have h := HO.out
        rw [List.take_of_length_le (by rw [HVL.out]; omega)] at h
        have e : i = kn := by omega
        rw [e] at h
        exact h
      obtain ⟨ar, cr, hvr, hr1, hr2⟩ := own_len HO5.out
      subst hvr
      have HSL : Hid (Sl wr (.slice ar V.length cr) (ints V)) := by rw [HVL.out]; exact sl_of_own HO5.out
      have HBW : Hid (Below w.heap.size w wr) := HB0.out.trans (HB.out.mono HB0.out.size)
      have XK := Lib.hid (bx_keep X0.out HB.out)
      obtain ⟨x0, x1, x2, x3, x4⟩ := bx_cells5 XK.out
      by_cases e1 : q0 = 1
      · subst e1
        have HE : Hid (rs = gr) := by show _ = _; rw [HWE.out, comb_1]
        have HC := Lib.hid (HGC.out wr HB.out rfl)
        go_wp2_with fail
        refine HC.out.mono ?_
        rintro e w7 ⟨rfl, hb7⟩
        have HB7 := Lib.hid hb7
        clear hb7
        go_wp2_with fail
        go_ret
        exact ⟨by rw [HE.out]; rfl, HBW.out.trans (HB7.out.mono HBW.out.size)⟩
      by_cases e2 : q0 = 2
      · subst e2
        have HZ0 : Hid ((V.take 0).sum = (0 : Int)) := by show _ = _; simp
        go_wp2_with fail
        go_loopg [8, 43] kn (fun gg vs vc wq => ∃ (i : Nat) (z : Int), i ≤ kn ∧ kn - i ≤ gg ∧ vc = .int .i64 i ∧ vs = .int .i64 z ∧ wq = wr ∧ Hid ((V.take i).sum = z))
        case atStart => exact ⟨0, _, by omega, by omega, rfl, rfl, rfl, HZ0⟩
        case round =>
          clear HZ0
          obtain ⟨j, z, hj, hgj, rfl, rfl, rfl, HZ⟩ := hrel
          by_cases hjn : j < kn
          · have hjn' : (j : Int) < (kn : Int) := by omega
            have hjV : j < V.length := by rw [HVL.out]; exact hjn
            obtain ⟨bl, ol, hal, hcl⟩ := HSL.out.at hjV
            have c1 := hcl j (by rw [ints_len]; exact hjV)
            rw [ints_get] at c1
            have hv := HVM.out _ (List.getElem_mem hjV)
            have hzr := sum_range HVM.out j (by rw [HVL.out]; omega)
            rw [HZ.out] at hzr
            have HST : Hid ((V.take (j + 1)).sum = z + V[j]) := by show _ = _; rw [sum_take hjV, ← HZ.out]
            obtain ⟨u, HU⟩ := nameIt (V[j]'hjV)
            rw [HU.out] at c1 hv HST
            obtain ⟨hv0, hv1⟩ := hv
            obtain ⟨hz0, hz1⟩ := hzr
            obtain ⟨z2, HZ2⟩ := nameIt (z + u)
            have HST2 : Hid ((V.take (j + 1)).sum = z2) := by show _ = _; rw [HST.out, HZ2.out]
            have m3 : z + u = z2 := HZ2.out
            have hz20 : 0 ≤ z2 ∧ z2 ≤ 1000000000000 := by omega
            have mw : IntKind.i64.wrap (z + u) = z2 := by rw [m3]; exact IntWalk.i64_in _ (by omega)
            clear m3
            subst hal
            clear hcl
            go_wp2_with fail
            go_roundg (kn - (j + 1))
            case measure => omega
            case rel => exact ⟨j + 1, z2, by omega, by omega, by go_num, rfl, rfl, HST2⟩
          · have hjn' : ¬ (j : Int) < (kn : Int) := by omega
            have hzr := sum_range HVM.out j (by rw [HVL.out]; omega)
            rw [HZ.out] at hzr
            have HE : Hid (rs = z % 1000003) := by show _ = _; rw [HWE.out, ← HZ.out, comb_2]; rw [List.take_of_length_le (show V.length ≤ j by rw [HVL.out]; omega)]
            obtain ⟨hz0, hz1⟩ := hzr
            have m4 : z.tmod 1000003 = rs := by rw [tmod_nn hz0]; exact HE.out.symm
            have m5 : z % 1000003 = rs := HE.out.symm
            go_wp2_with fail
            go_ret
            exact ⟨rfl, HBW.out⟩
      by_cases e3 : q0 = 3
      · subst e3
        have HZ0 : Hid ((V.take 0).foldl (fun a v => a * v % 1000003) 1 = (1 : Int)) := by show _ = _; rfl
        go_wp2_with fail
        go_loopg [11, 57] kn (fun gg vs vc wq => ∃ (i : Nat) (z : Int), i ≤ kn ∧ kn - i ≤ gg ∧ vc = .int .i64 i ∧ vs = .int .i64 z ∧ wq = wr ∧ Hid ((V.take i).foldl (fun a v => a * v % 1000003) 1 = z))
        case atStart => exact ⟨0, _, by omega, by omega, rfl, rfl, rfl, HZ0⟩
        case round =>
          clear HZ0
          obtain ⟨j, z, hj, hgj, rfl, rfl, rfl, HZ⟩ := hrel
          by_cases hjn : j < kn
          · have hjn' : (j : Int) < (kn : Int) := by omega
            have hjV : j < V.length := by rw [HVL.out]; exact hjn
            obtain ⟨bl, ol, hal, hcl⟩ := HSL.out.at hjV
            have c1 := hcl j (by rw [ints_len]; exact hjV)
            rw [ints_get] at c1
            have hv := HVM.out _ (List.getElem_mem hjV)
            have hzr : inM z := by rw [← HZ.out]; exact fold_mul_inM _ _ ⟨by decide, by decide⟩ (fun q hq => HVM.out q (List.mem_of_mem_take hq))
            have HST : Hid ((V.take (j + 1)).foldl (fun a v => a * v % 1000003) 1 = z * V[j] % 1000003) := by show _ = _; rw [fold_take hjV, HZ.out]
            obtain ⟨u, HU⟩ := nameIt (V[j]'hjV)
            rw [HU.out] at c1 hv HST
            obtain ⟨hv0, hv1⟩ := hv
            obtain ⟨hz0, hz1⟩ := hzr
            obtain ⟨z2, HZ2⟩ := nameIt (z * u % 1000003)
            have HST2 : Hid ((V.take (j + 1)).foldl (fun a v => a * v % 1000003) 1 = z2) := by show _ = _; rw [HST.out, HZ2.out]
            have hp0 : 0 ≤ z * u := Int.mul_nonneg hz0 hv0
            have hp1 : z * u ≤ 1000003 * 1000003 := Int.mul_le_mul (by omega) (by omega) hv0 (by omega)
            have hz2 := emod_inM (z * u)
            rw [HZ2.out] at hz2
            obtain ⟨hz20, hz21⟩ := hz2
            have m1 : u.tmod 1000003 = u := by rw [tmod_nn hv0]; exact Int.emod_eq_of_lt hv0 hv1
            have m2 : u % 1000003 = u := Int.emod_eq_of_lt hv0 hv1
            have m3 : z * u % 1000003 = z2 := HZ2.out
            have m4 : (z * u).tmod 1000003 = z2 := by rw [tmod_nn hp0]; exact m3
            have m5 : (z2 + 1000003) % 1000003 = z2 := by rw [Int.add_emod_right]; exact Int.emod_eq_of_lt hz20 hz21
            have m6 : (z2 + 1000003).tmod 1000003 = z2 := by rw [tmod_nn (by omega)]; exact m5
            have m7 : z2 % 1000003 = z2 := Int.emod_eq_of_lt hz20 hz21
            have mw : IntKind.i64.wrap (z * u) = z * u := IntWalk.i64_in _ (by omega)
            subst hal
            clear hcl
            go_wp2_with fail
            go_roundg (kn - (j + 1))
            case measure => omega
            case rel => exact ⟨j + 1, z2, by omega, by omega, by go_num, rfl, rfl, HST2⟩
          · have hjn' : ¬ (j : Int) < (kn : Int) := by omega
            have HE : Hid (rs = z) := by show _ = _; rw [HWE.out, ← HZ.out, comb_3]; rw [List.take_of_length_le (show V.length ≤ j by rw [HVL.out]; omega)]
            go_wp2_with fail
            go_ret
            exact ⟨by rw [HE.out]; rfl, HBW.out⟩
      by_cases e4 : q0 = 4
      · subst e4
        have hk1 : 0 < V.length := by have h : 1 ≤ kn := (by simpa [okArgs] using HOA.out); rw [HVL.out]; omega
        have HHD : Hid (V[0]'hk1 = V.headD 0) := by
          show _ = _
          have h : ∀ (l : List Int) (h : 0 < l.length), l[0]'h = l.headD 0 := fun l h => by
            cases l with
            | nil => simp at h
            | cons a l => rfl
          exact h V hk1
        obtain ⟨b0, o0, ha0, hc0⟩ := HSL.out.at (k := 0) hk1
        have c0 := hc0 0 (by rw [ints_len]; exact hk1)
        rw [ints_get, HHD.out, Nat.add_zero] at c0
        have HE : Hid (rs = maxF V) := by show _ = _; rw [HWE.out, comb_4]
        have HME : Hid (maxF V = V.foldl max (V.headD 0)) := rfl
        obtain ⟨h0, HH0⟩ := nameIt (V.headD 0)
        rw [HH0.out] at c0 HME
        have hkn0 : (0 : Int) < (kn : Int) := by rw [HVL.out] at hk1; omega
        subst ha0
        clear hc0
        have HZ0 : Hid ((V.take 0).foldl max h0 = h0) := by show _ = _; rfl
        go_wp2_with fail
        go_loopg [14, 74] kn (fun gg vs vc wq => ∃ (i : Nat) (z : Int), i ≤ kn ∧ kn - i ≤ gg ∧ vc = .int .i64 i ∧ vs = .int .i64 z ∧ wq = wr ∧ Hid ((V.take i).foldl max h0 = z))
        case atStart => exact ⟨0, _, by omega, by omega, rfl, rfl, rfl, HZ0⟩
        case round =>
          clear HZ0
          obtain ⟨j, z, hj, hgj, rfl, rfl, rfl, HZ⟩ := hrel
          by_cases hjn : j < kn
          · have hjn' : (j : Int) < (kn : Int) := by omega
            have hjV : j < V.length := by rw [HVL.out]; exact hjn
            obtain ⟨bl, ol, hal, hcl⟩ := HSL.out.at hjV
            have c1 := hcl j (by rw [ints_len]; exact hjV)
            rw [ints_get] at c1
            have hv := HVM.out _ (List.getElem_mem hjV)
            have HST : Hid ((V.take (j + 1)).foldl max h0 = max z (V[j])) := by show _ = _; rw [fold_take hjV, HZ.out]
            obtain ⟨u, HU⟩ := nameIt (V[j]'hjV)
            rw [HU.out] at c1 hv HST
            obtain ⟨hv0, hv1⟩ := hv
            obtain ⟨z2, HZ2⟩ := nameIt (max z u)
            have HST2 : Hid ((V.take (j + 1)).foldl max h0 = z2) := by show _ = _; rw [HST.out, HZ2.out]
            have hmx : max z u = z2 := HZ2.out
            cases hal
            clear hcl
            go_wp2_with fail
            go_roundg (kn - (j + 1))
            case measure => omega
            case rel => exact ⟨j + 1, z2, by omega, by omega, by go_num, rfl, rfl, HST2⟩
          · have hjn' : ¬ (j : Int) < (kn : Int) := by omega
            have HEE : Hid (rs = z) := by show _ = _; rw [HE.out, HME.out, ← HZ.out]; rw [List.take_of_length_le (show V.length ≤ j by rw [HVL.out]; omega)]
            go_wp2_with fail
            go_ret
            exact ⟨by rw [HEE.out]; rfl, HBW.out⟩
      by_cases e5 : q0 = 5
      · subst e5
        have hk2 : kn = 2 := by have h := HOA.out; simpa [okArgs] using h
        obtain ⟨bl, ol, hal, hcl⟩ := HSL.out.at (k := 0) (by rw [HVL.out]; omega)
        have c0 := hcl 0 (by rw [ints_len, HVL.out]; omega)
        rw [ints_get] at c0
        have HG0 : Hid (V[0]?.getD 0 = V[0]'(by rw [HVL.out]; omega)) := by show _ = _; rw [List.getElem?_eq_getElem (by rw [HVL.out]; omega)]; rfl
        have c1 := hcl 1 (by rw [ints_len, HVL.out]; omega)
        rw [ints_get] at c1
        have HG1 : Hid (V[1]?.getD 0 = V[1]'(by rw [HVL.out]; omega)) := by show _ = _; rw [List.getElem?_eq_getElem (by rw [HVL.out]; omega)]; rfl
        obtain ⟨u0, HU0⟩ := nameIt (V[0]'(by rw [HVL.out]; omega))
        rw [HU0.out] at c0 HG0
        obtain ⟨u1, HU1⟩ := nameIt (V[1]'(by rw [HVL.out]; omega))
        rw [HU1.out] at c1 HG1
        rw [Nat.add_zero] at c0
        subst hal
        clear hcl
        have HE : Hid (rs = if u0 < u1 then 1 else 0) := by show _ = _; rw [HWE.out, comb_5, HG0.out, HG1.out]
        subst hk2
        by_cases hlt2 : u0 < u1
        · have hd2 : decide (u0 < u1) = true := by simpa using hlt2
          have HE2 : Hid (rs = 1) := by show _ = _; rw [HE.out, if_pos hlt2]
          clear hlt2
          go_upto_region 35 with fail
          go_quiet (fail)
          go_wp2_with fail
          go_ret
          exact ⟨by rw [HE2.out]; rfl, HBW.out.trans ((below_drewN _ _).mono HBW.out.size)⟩
        · have hd2 : decide (u0 < u1) = false := by simpa using hlt2
          have HE2 : Hid (rs = 0) := by show _ = _; rw [HE.out, if_neg hlt2]
          clear hlt2
          go_upto_region 35 with fail
          go_quiet (fail)
          go_wp2_with fail
          go_ret
          exact ⟨by rw [HE2.out]; rfl, HBW.out.trans ((below_drewN _ _).mono HBW.out.size)⟩
      by_cases e6 : q0 = 6
      · subst e6
        have hk3 : kn = 3 := by have h := HOA.out; simpa [okArgs] using h
        obtain ⟨bl, ol, hal, hcl⟩ := HSL.out.at (k := 0) (by rw [HVL.out]; omega)
        have c0 := hcl 0 (by rw [ints_len, HVL.out]; omega)
        rw [ints_get] at c0
        have HG0 : Hid (V[0]?.getD 0 = V[0]'(by rw [HVL.out]; omega)) := by show _ = _; rw [List.getElem?_eq_getElem (by rw [HVL.out]; omega)]; rfl
        have c1 := hcl 1 (by rw [ints_len, HVL.out]; omega)
        rw [ints_get] at c1
        have HG1 : Hid (V[1]?.getD 0 = V[1]'(by rw [HVL.out]; omega)) := by show _ = _; rw [List.getElem?_eq_getElem (by rw [HVL.out]; omega)]; rfl
        have c2 := hcl 2 (by rw [ints_len, HVL.out]; omega)
        rw [ints_get] at c2
        have HG2 : Hid (V[2]?.getD 0 = V[2]'(by rw [HVL.out]; omega)) := by show _ = _; rw [List.getElem?_eq_getElem (by rw [HVL.out]; omega)]; rfl
        obtain ⟨u0, HU0⟩ := nameIt (V[0]'(by rw [HVL.out]; omega))
        rw [HU0.out] at c0 HG0
        obtain ⟨u1, HU1⟩ := nameIt (V[1]'(by rw [HVL.out]; omega))
        rw [HU1.out] at c1 HG1
        obtain ⟨u2, HU2⟩ := nameIt (V[2]'(by rw [HVL.out]; omega))
        rw [HU2.out] at c2 HG2
        rw [Nat.add_zero] at c0
        subst hal
        clear hcl
        have HE : Hid (rs = if u0 ≠ 0 then u1 else u2) := by show _ = _; rw [HWE.out, comb_6, HG0.out, HG1.out, HG2.out]
        subst hk3
        by_cases hz3 : u0 = 0
        · subst hz3
          have HE2 : Hid (rs = u2) := by show _ = _; rw [HE.out, if_neg (by simp)]
          go_wp2_with fail
          go_ret
          exact ⟨by rw [HE2.out]; rfl, HBW.out⟩
        · have hb3 : (u0 == 0) = false := by simpa using hz3
          have hb4 : (u0 != 0) = true := by simpa using hz3
          have HE2 : Hid (rs = u1) := by show _ = _; rw [HE.out, if_pos hz3]
          clear hz3
          go_wp2_with fail
          go_ret
          exact ⟨by rw [HE2.out]; rfl, HBW.out⟩
      have e0 : q0 = 0 := by
        have h := HOA.out
        unfold okArgs at h
        by_cases e0 : q0 = 0
        · exact e0
        · rw [if_neg (by omega), if_neg (by omega), if_neg e4, if_neg e5, if_neg e6] at h
          cases h
      subst e0
      have HE : Hid (rs = q1) := by show _ = _; rw [HWE.out, comb_0]
      clear e1 e2 e3 e4 e5 e6
      go_wp2_with fail
      go_ret
      exact ⟨by rw [HE.out]; rfl, HBW.out⟩
end At
end Go.Proofs.YtfocooehnmpndaaGreat
namespace Go.Proofs.YtfocooehnmpndaaGreat
open Go.RowKit
namespace Dm
open At (Ref refsS worth inM)
theorem attrsAt_nodup (g : Gram) (s : At.Sys) (L : List Nd) (n : Nat) : (attrsAt g s L n).Nodup := by
  unfold attrsAt attrsOf
  split
  · exact List.nodup_nil
  · exact List.Pairwise.filter _ List.nodup_range
theorem allI_nodup (g : Gram) (s : At.Sys) (L : List Nd) : (allI g s L).Nodup := by
  unfold allI
  have h : ∀ m, ((List.range m).flatMap fun n => (attrsAt g s L n).map fun a => (n, a)).Nodup := fun m => by
    induction m with
    | zero => exact List.nodup_nil
    | succ m ih =>
      rw [List.range_succ, List.flatMap_append, List.nodup_append]
      refine ⟨ih, ?_, fun x hx y hy e => ?_⟩
      · rw [List.flatMap_cons, List.flatMap_nil, List.append_nil]
        exact List.pairwise_map.2 (List.Pairwise.imp (fun hne e => hne (by cases e; rfl)) (attrsAt_nodup g s L m))
      · rw [List.flatMap_cons, List.flatMap_nil, List.append_nil] at hy
        obtain ⟨n, hn, hx⟩ := List.mem_flatMap.1 hx
        obtain ⟨a, _, rfl⟩ := List.mem_map.1 hx
        obtain ⟨b, _, rfl⟩ := List.mem_map.1 hy
        cases e
        have := List.mem_range.1 hn
        omega
  exact h _
theorem count_put {l : List Inst} {H : Inst → Option Int} {i : Inst} {v : Int} (hl : l.Nodup) (hi : i ∈ l) (hn : H i = none) : l.countP (fun j => (if j = i then some v else H j).isSome) = l.countP (fun j => (H j).isSome) + 1 := by
  induction l with
  | nil => cases hi
  | cons x l ih =>
    rw [List.nodup_cons] at hl
    rw [List.countP_cons, List.countP_cons]
    by_cases e : x = i
    · subst e
      have h1 : l.countP (fun j => (if j = x then some v else H j).isSome) = l.countP (fun j => (H j).isSome) := by
        refine List.countP_congr fun j hj => ?_
        rw [if_neg (fun e : j = x => hl.1 (by rw [← e]; exact hj))]
      rw [h1, if_pos rfl, hn]
      simp
    · have h2 := ih hl.2 (by rcases List.mem_cons.1 hi with h | h; exact absurd h.symm e; exact h)
      rw [h2, if_neg e]
      omega
structure VlS (g : Gram) (s : At.Sys) (L : List Nd) (H : Inst → Option Int) (c : Nat) : Prop where
  sound : SoundV s L H
  cnt : c = (allI g s L).countP fun i => (H i).isSome
  dom : ∀ i, (H i).isSome = true → i ∈ allI g s L
theorem VlS.start (g : Gram) (s : At.Sys) (L : List Nd) : VlS g s L (fun _ => none) 0 := ⟨fun _ _ h => (by cases h), (by simp), fun _ h => (by cases h)⟩
theorem VlS.le {g : Gram} {s : At.Sys} {L : List Nd} {H : Inst → Option Int} {c : Nat} (h : VlS g s L H c) : c ≤ (allI g s L).length := by rw [h.cnt]; exact List.countP_le_length
theorem VlS.put {g : Gram} {s : At.Sys} {L : List Nd} {H : Inst → Option Int} {c : Nat} (h : VlS g s L H c) {i : Inst} (hi : i ∈ allI g s L) (hn : H i = none) (hr : readyV s L H i) : VlS g s L (fun j => if j = i then some (valV s L H i) else H j) (c + 1) := by
  refine ⟨h.sound.put hr, ?_, fun j hj => ?_⟩
  · rw [count_put (allI_nodup g s L) hi hn, h.cnt]
  · try dsimp only at hj
    by_cases e : j = i
    · rw [e]; exact hi
    · rw [if_neg e] at hj; exact h.dom j hj
def ClosedV (g : Gram) (s : At.Sys) (L : List Nd) (H : Inst → Option Int) : Prop := ∀ i ∈ allI g s L, readyV s L H i → (H i).isSome = true
structure VlM (g : Gram) (s : At.Sys) (L : List Nd) (W : World) (wb : Nat) (H : Inst → Option Int) (c : Nat) (w : World) : Prop where
  pl : VlS g s L H c
  map : HvM (W.heap.size + 1) H c w
  bel : Below W.heap.size W w
  bw : w.heap[W.heap.size]? = some (.cells #[.pointer (some ⟨wb, 0, none⟩)] 44 (0, 0))
  bh : w.heap[W.heap.size + 1 + 1]? = some (.cells #[.map (some (W.heap.size + 1))] 54 (0, 0))
theorem VlM.keep {g : Gram} {s : At.Sys} {L : List Nd} {W : World} {wb : Nat} {H : Inst → Option Int} {c : Nat} {w w' : World} (h : VlM g s L W wb H c w) (hb : Below w.heap.size w w') : VlM g s L W wb H c w' :=
  ⟨h.pl, h.map.keep hb, h.bel.trans (hb.mono h.bel.size), bx_keep h.bw hb, bx_keep h.bh hb⟩
def VlPost (g : Gram) (s : At.Sys) (L : List Nd) (W : World) (e : Ending) (w' : World) : Prop := ∃ b H c, e = .returned (.map (some b)) ∧ VlS g s L H c ∧ HvM b H c w' ∧ ClosedV g s L H ∧ Below W.heap.size W w'
set_option maxHeartbeats 8000000 in
set_option maxRecDepth 100000 in
theorem valsE (g : Gram) (s : At.Sys) (T : Tree) (hs : At.checkS g s = 0) (hv : validT g T = true) (hroot : rootS g T = ⟨false, g.start⟩) (hal : s.attrs.length ≤ 2000000) (hsz : tsz T ≤ 1000000) (wb : Nat) (W : World) (h : WdS g s (tabT T) wb W) :
    Calls Tryz.prog 18 #[.pointer (some ⟨wb, 0, none⟩)] W (VlPost g s (tabT T) W) := by
  have HENV := Lib.hid (fun (i : Inst) (hi : i ∈ allI g s (tabT T)) => env hs hv hroot hal hsz hi)
  have HNEEDS := Lib.hid (fun (i j : Inst) (hi : i ∈ allI g s (tabT T)) (hj : j ∈ needsI s (tabT T) i) => needs_all hs hv hroot hi hj)
  have HOKI := Lib.hid (fun (i : Inst) (hi : i ∈ allI g s (tabT T)) => okI_of hs hv hroot hal hsz hi)
  have HINM := Lib.hid (fun (i : Inst) (v : Int) (h : Vl s (tabT T) i v) (hi : i ∈ allI g s (tabT T)) => vl_inM hs hv hroot hal hsz h hi)
  have HSC := Lib.hid hs
  have HIB : Hid ((allI g s (tabT T)).length ≤ 4000000000000) := by
    have h1 := allI_le g s (tabT T)
    have h2 : (tabT T).length * s.attrs.length ≤ 1000000 * 2000000 := Nat.mul_le_mul (by rw [tab_len]; exact hsz) hal
    show _ ≤ _
    omega
  obtain ⟨PST, HP⟩ := nameIt (VlPost g s (tabT T) W)
  obtain ⟨L, HL⟩ := nameIt (tabT T)
  have HFIN : Hid (∀ H c w', VlM g s L W wb H c w' → ClosedV g s L H → PST (.returned (.map (some (W.heap.size + 1)))) w') := fun H c w' h1 h2 => by
    rw [← HP.out, HL.out]
    exact ⟨_, H, c, rfl, h1.pl, h1.map, h2, h1.bel⟩
  rw [HP.out]
  rw [HL.out] at h
  simp only [HL.out] at HENV HNEEDS HOKI HINM HIB
  have HW := Lib.hid h
  clear hs hv hroot hal hsz HP
  have hmk : ∀ W : World, (Instr.makeMap 54 none).run Tryz.prog W = .ok (.map (some W.heap.size)) (W.alloc (.map #[] 0)) := fun W => by
    simp [Instr.makeMap, run_underlying Tryz.underlying54]; try rfl
  obtain ⟨c0, c1, c2, c3, aa, qa, na, ua, pa, ka, la, ac, qc, nc, uc, pc, kc, lc, hR⟩ := h.read
  have HRD := Lib.hid hR
  have hcap := hR.caps
  unfold maxLen at hcap
  obtain ⟨IN, HIN⟩ := nameIt (allI g s L).length
  obtain ⟨LN, HLN⟩ := nameIt L.length
  obtain ⟨AN, HAN⟩ := nameIt s.attrs.length
  obtain ⟨QN, HQN⟩ := nameIt s.eqs.length
  have hh := hR.hdr
  rw [HIN.out, HLN.out, HAN.out, HQN.out] at hh
  rw [HIN.out, HLN.out] at hcap
  rw [HIN.out] at HIB
  have HHD := Lib.hid hh
  have HALL : Hid (Rd AnyB W (.sl (((allI g s L).map toR).map Ref.d)) [.slice la IN lc]) := by rw [← HIN.out]; exact hR.all
  clear hR hh h
  go_enter Tryz.func18, Tryz.ntmps18
  go_upto_region 2 with fail
  obtain ⟨w1, HW1⟩ := nameIt (((W.alloc (.cells #[.pointer (some ⟨wb, 0, none⟩)] 44)).alloc (.map #[] 0)).alloc (.cells #[.map (some (W.heap.size + 1))] 54))
  have ba : ∀ (w : World) (o : Obj), Below w.heap.size w (w.alloc o) := fun w o => (Below.refl _ _).alloc (Nat.le_refl _) _
  have HV1 : Hid (VlM g s L W wb (fun _ => none) 0 w1) := by
    show VlM _ _ _ _ _ _ _ _
    rw [← HW1.out]
    refine ⟨VlS.start _ _ _, ?_, ?_, ?_, ?_⟩
    · exact (HvM.start (W.alloc (.cells #[.pointer (some ⟨wb, 0, none⟩)] 44)) (by simp)).keep (ba _ _)
    · exact (((Below.refl _ _).alloc (Nat.le_refl _) _).alloc (by simp) _).alloc (by simp; omega) _
    · exact bx_keep (bx_keep (bx_new _ _ _ rfl) (ba _ _)) (ba _ _)
    · exact bx_new _ _ _ (by simp)
  rw [HW1.out]
  clear HW1 ba hmk
  go_wp2_with fail
  go_loopg [4, 6, 7, 8, 9, 11, 12, 13, 14, 15] (IN + 1) (fun gg v4 v6 v7 v8 v9 v11 v12 v13 v14 v15 wr => ∃ (H : Inst → Option Int) (c : Nat) (ag : Bool), v4 = .bool ag ∧ (if ag = true then IN - c + 1 else 0) ≤ gg ∧ Hid (VlM g s L W wb H c wr) ∧ Hid (ag = false → ClosedV g s L H))
  case atStart => exact ⟨_, 0, true, rfl, by simp, HV1, fun h => (by cases h)⟩
  case round =>
    obtain ⟨wo, rfl⟩ : ∃ wo : World, wo = wr := ⟨_, rfl⟩
    obtain ⟨H, c, ag, rfl, hg, HV, HC⟩ := hrel
    clear HV1
    cases ag with
    | false =>
      have HE := Lib.hid (HFIN.out H c wo HV.out (HC.out rfl))
      have y0 := bx_cells1 HV.out.bh
      clear hg
      go_wp2_with fail
      exact HE.out
    | true =>
      have hg2 := hg
      simp only [if_true] at hg2
      have HGG := Lib.hid hg2
      obtain ⟨x4, x5, x6, x7, x8, x9, x10⟩ := bx_cells11w (bx_keep HHD.out HV.out.bel)
      have y0 := bx_cells1 HV.out.bw
      have HCI : Hid (c ≤ IN) := by show _ ≤ _; rw [← HIN.out]; exact HV.out.pl.le
      clear hg hg2 HC
      go_wp2_with fail
      clear x4 x5 x6 x7 x8 x9 x10 y0
      go_loopg [4, 6, 7, 8, 9, 11, 12, 13, 14, 15, 23] IN (fun gh v4 v6 v7 v8 v9 v11 v12 v13 v14 v15 v23 wr => ∃ (j : Nat) (H' : Inst → Option Int) (c' : Nat) (ag : Bool), j ≤ IN ∧ IN - j ≤ gh ∧ v23 = .int .i64 j ∧ v4 = .bool ag ∧ Hid (c ≤ c' ∧ (ag = true → c < c')) ∧ Hid (VlM g s L W wb H' c' wr) ∧ Hid (ag = false → ∀ i ∈ (allI g s L).take j, readyV s L H' i → (H' i).isSome = true))
      case atStart => exact ⟨0, H, c, false, by omega, by omega, rfl, rfl, ⟨Nat.le_refl _, fun h => (by cases h)⟩, HV, fun _ i hi => (by simp at hi)⟩
      case round =>
        obtain ⟨wp, rfl⟩ : ∃ wp : World, wp = wr := ⟨_, rfl⟩
        obtain ⟨j, H', c', ag, hj, hgj, rfl, rfl, HCC, HV', HP⟩ := hrel
        clear HV
        by_cases hlt : j < IN
        · have hlt' : (j : Int) < (IN : Int) := by omega
          have hjc : (j : Int) ≤ (lc : Int) := by omega
          have hjl : j < (allI g s L).length := by rw [HIN.out]; exact hlt
          obtain ⟨bb, bo, hae, -, hbl, p0, p1⟩ := pl_at (HALL.out.below HV'.out.bel) hjl
          have HMI : Hid ((allI g s L)[j] ∈ allI g s L) := List.getElem_mem hjl
          have HTK : Hid ((allI g s L).take (j + 1) = (allI g s L).take j ++ [(allI g s L)[j]]) := List.take_succ_eq_append_getElem hjl
          obtain ⟨i, HIi⟩ := nameIt ((allI g s L)[j]'hjl)
          rw [HIi.out] at p0 p1 HMI HTK
          obtain ⟨x1, x2⟩ := i
          simp only at p0 p1
          obtain ⟨q, hE⟩ := HENV.out _ HMI.out
          have E := Lib.hid hE
          have hok := HOKI.out _ HMI.out
          have HOK := Lib.hid hok
          obtain ⟨w5, HW5⟩ := nameIt (wp.alloc (.cells #[.int .i64 (x1 : Int), .int .i64 (x2 : Int)] 59))
          have hb5 : Below wp.heap.size wp w5 := by rw [← HW5.out]; exact (Below.refl _ _).alloc (Nat.le_refl _) _
          have X5 : Hid (w5.heap[wp.heap.size]? = some (.cells #[.int .i64 (x1 : Int), .int .i64 (x2 : Int)] 59 (0, 0))) := by rw [← HW5.out]; exact bx_new _ _ _ rfl
          have HV5 := Lib.hid (HV'.out.keep hb5)
          have hlk := (HV5.out.map.look hok).1
          have y1 := bx_cells1 HV5.out.bh
          obtain ⟨z0, z1⟩ := bx_cells2 X5.out
          have hl5 : wp.heap.size < w5.heap.size := (Array.getElem?_eq_some_iff.1 X5.out).1
          subst hae
          clear hb5 hE hok
          obtain ⟨hv, HHV⟩ := nameIt (H' (x1, x2))
          rw [HHV.out] at hlk
          go_upto_region 8 with fail
          rw [HW5.out]
          clear HW5 p0 p1 hbl
          cases hv with
          | some v =>
            simp only [Option.getD_some, Option.isSome_some] at hlk
            have HP2 : Hid (ag = false → ∀ i ∈ (allI g s L).take (j + 1), readyV s L H' i → (H' i).isSome = true) := fun h i hi hr => by
              rw [HTK.out] at hi
              rcases List.mem_append.1 hi with hi | hi
              · exact HP.out h i hi hr
              · rw [List.mem_singleton] at hi
                rw [hi, HHV.out]; rfl
            go_wp2_with fail
            go_roundg (IN - (j + 1))
            case measure => omega
            case rel => exact ⟨j + 1, H', c', ag, by omega, by omega, by go_num, rfl, HCC, HV5, HP2⟩
          | none =>
            simp only [Option.getD_none, Option.isSome_none] at hlk
            have HNE := Lib.hid (fun (w' : World) (hb : Below w5.heap.size w5 w') => wNeedsE g s L HSC.out wb x1 x2 _ q (placeI L (ownerI s L (x1, x2))) w' (HW.out.below (HV5.out.bel.trans (hb.mono HV5.out.bel.size))) E.out.eq (Nat.le_trans E.out.size (by decide)) E.out.at_)
            have y0 := bx_cells1 HV5.out.bw
            go_upto_region 11 with fail
            go_wp2_with (refine (HNE.out _ (Below.refl _ _)).mono ?_)
            rintro e6 w6 ⟨v6, rfl, ho6, hb6⟩
            obtain ⟨NL, HNL⟩ := nameIt ((refsS q.is').map (placeI L (ownerI s L (x1, x2))))
            rw [HNL.out] at ho6
            have HNEED : Hid (needsI s L (x1, x2) = NL) := by show _ = _; unfold needsI; rw [E.out.ex]; exact HNL.out
            have HRDN : Hid (Rd AnyB w6 (.sl ((NL.map toR).map Ref.d)) [v6]) := rd_of_own ho6 (by rw [plC_ref]; exact At.rdAll_refs _) (by simp) (fun _ _ => trivial)
            have HV6 := Lib.hid (HV5.out.keep hb6)
            have X6 := Lib.hid (bx_keep X5.out hb6)
            obtain ⟨a6, c6, rfl, hcc1, hcc2⟩ := own_len ho6
            unfold maxLen at hcc2
            obtain ⟨ln, HLNl⟩ := nameIt NL.length
            rw [HLNl.out] at HRDN hcc1
            rw [HLNl.out]
            clear ho6 hb6 hlk y0 y1 z0 z1 HNE
            go_wp2_with fail
            go_loopg [9, 11, 12, 13, 38] ln (fun gk v9 v11 v12 v13 v38 wr => ∃ k : Nat, k ≤ ln ∧ ln - k ≤ gk ∧ v38 = .int .i64 k ∧ v9 = .bool ((NL.take k).all fun y => (H' y).isSome) ∧ Hid (Below w6.heap.size w6 wr))
            case atStart => exact ⟨0, by omega, by omega, rfl, by simp, Below.refl _ _⟩
            case round =>
              obtain ⟨k, hk, hgk, rfl, rfl, HB⟩ := hrel
              have HV7 := Lib.hid (HV6.out.keep HB.out)
              have X7 := Lib.hid (bx_keep X6.out HB.out)
              by_cases hkt : k < ln
              · have hkt' : (k : Int) < (ln : Int) := by omega
                have hkc : (k : Int) ≤ (c6 : Int) := by omega
                have hkl : k < NL.length := by rw [HLNl.out]; exact hkt
                obtain ⟨nb', no', hne, -, hnbl, n0, n1⟩ := pl_at (HRDN.out.below HB.out) hkl
                have hjn : NL[k] ∈ needsI s L (x1, x2) := by rw [HNEED.out]; exact List.getElem_mem hkl
                have hoky := HOKI.out _ (HNEEDS.out _ _ HMI.out hjn)
                have HTKK : Hid ((NL.take (k + 1)).all (fun y => (H' y).isSome) = ((NL.take k).all (fun y => (H' y).isSome) && (H' NL[k]).isSome)) := by
                  show _ = _
                  rw [List.take_succ_eq_append_getElem hkl, List.all_append]
                  simp
                obtain ⟨y, HY⟩ := nameIt (NL[k]'hkl)
                rw [HY.out] at n0 n1 hoky HTKK
                obtain ⟨y1, y2⟩ := y
                simp only at n0 n1
                obtain ⟨w8, HW8⟩ := nameIt (wr.alloc (.cells #[.int .i64 (y1 : Int), .int .i64 (y2 : Int)] 59))
                have hb8 : Below wr.heap.size wr w8 := by rw [← HW8.out]; exact (Below.refl _ _).alloc (Nat.le_refl _) _
                have X8 : Hid (w8.heap[wr.heap.size]? = some (.cells #[.int .i64 (y1 : Int), .int .i64 (y2 : Int)] 59 (0, 0))) := by rw [← HW8.out]; exact bx_new _ _ _ rfl
                have HV8 := Lib.hid (HV7.out.keep hb8)
                have hlk := (HV8.out.map.look hoky).1
                have HB8 : Hid (Below w6.heap.size w6 w8) := HB.out.trans (hb8.mono HB.out.size)
                have z2 := bx_cells1 HV8.out.bh
                obtain ⟨z0, z1⟩ := bx_cells2 X8.out
                have hl8 : wr.heap.size < w8.heap.size := (Array.getElem?_eq_some_iff.1 X8.out).1
                obtain ⟨gv, HGV⟩ := nameIt ((H' (y1, y2)).getD 0)
                obtain ⟨gs', HGS⟩ := nameIt (H' (y1, y2)).isSome
                rw [HGV.out, HGS.out] at hlk
                rw [HGS.out] at HTKK
                obtain ⟨rd, HRDB⟩ := nameIt ((NL.take k).all fun y => (H' y).isSome)
                rw [HRDB.out] at HTKK
                rw [HRDB.out]
                subst hne
                clear hb8 hoky hjn
                go_upto_region 14 with fail
                rw [HW8.out]
                clear HW8 n0 n1 hnbl
                cases rd with
                | false =>
                  have HNXT : Hid (false = (NL.take (k + 1)).all fun y => (H' y).isSome) := by show _ = _; rw [HTKK.out]; rfl
                  go_wp2_with fail
                  go_roundg (ln - (k + 1))
                  case measure => omega
                  case rel => exact ⟨k + 1, by omega, by omega, by go_num, by rw [← HNXT.out], HB8⟩
                | true =>
                  have HNXT : Hid (gs' = (NL.take (k + 1)).all fun y => (H' y).isSome) := by show _ = _; rw [HTKK.out]; simp
                  go_wp2_with fail
                  go_roundg (ln - (k + 1))
                  case measure => omega
                  case rel => exact ⟨k + 1, by omega, by omega, by go_num, by rw [← HNXT.out], HB8⟩
              · have hend : k = ln := by omega
                have hkt' : ¬ (k : Int) < (ln : Int) := by omega
                have HRB : Hid ((NL.take k).all (fun y => (H' y).isSome) = true ↔ readyV s L H' (x1, x2)) := by
                  show _ ↔ _
                  rw [hend, ← HLNl.out, List.take_length, List.all_eq_true]
                  unfold readyV
                  rw [HNEED.out]
                obtain ⟨rd, HRDB⟩ := nameIt ((NL.take k).all fun y => (H' y).isSome)
                rw [HRDB.out] at HRB
                rw [HRDB.out]
                cases rd with
                | false =>
                  have HP2 : Hid (ag = false → ∀ i ∈ (allI g s L).take (j + 1), readyV s L H' i → (H' i).isSome = true) := fun h i hi hr => by
                    rw [HTK.out] at hi
                    rcases List.mem_append.1 hi with hi | hi
                    · exact HP.out h i hi hr
                    · rw [List.mem_singleton] at hi
                      rw [hi] at hr
                      have := HRB.out.2 hr
                      cases this
                  go_wp2_with fail
                  go_roundg (IN - (j + 1))
                  case measure => omega
                  case rel => exact ⟨j + 1, H', c', ag, by omega, by omega, by go_num, rfl, HCC, HV7, HP2⟩
                | true =>
                  have HRY : Hid (readyV s L H' (x1, x2)) := HRB.out.1 rfl
                  have HEQ := Lib.hid (wEquE g s L HSC.out wb x1 x2 _ q wr (HW.out.below HV7.out.bel) E.out.eq)
                  have y0 := bx_cells1 HV7.out.bw
                  obtain ⟨z0, z1⟩ := bx_cells2 X7.out
                  go_wp2_with (refine HEQ.out.mono ?_)
                  rintro e8 w8 ⟨v8, rfl, hv8, hb8⟩
                  obtain ⟨va, vl, vc, rfl⟩ : ∃ x y z, v8 = .slice x y z := (by obtain ⟨x, y, e, -, -⟩ := hv8.form; exact ⟨_, _, _, e⟩)
                  have HB8 : Hid (Below wr.heap.size wr w8) := hb8
                  have HV8 : Hid (Rd AnyB w8 (.sl (q.is'.args.map At.Expr.d)) [.slice va vl vc]) := hv8.below hb8
                  clear hb8 hv8 y0 z0 z1
                  obtain ⟨ek, HEK⟩ := nameIt q.is'.kind
                  obtain ⟨en, HEN⟩ := nameIt q.is'.n
                  obtain ⟨ea, HEA⟩ := nameIt q.is'.ref.at'
                  obtain ⟨eb', HEB⟩ := nameIt q.is'.ref.attr
                  obtain ⟨o, HO⟩ := nameIt (ownerI s L (x1, x2))
                  rw [HEK.out, HEN.out, HEA.out, HEB.out, HO.out]
                  obtain ⟨w9, HW9⟩ := nameIt ((w8.alloc (.cells #[.int .i64 ek, .int .i64 en, .int .i64 ea, .int .i64 eb', .slice va vl vc] 86)).alloc (.cells #[.int .i64 (o : Int)] 3))
                  have HB9 : Hid (Below w8.heap.size w8 w9) := by show Below _ _ _; rw [← HW9.out]; exact ((Below.refl _ _).alloc (Nat.le_refl _) _).alloc (by simp) _
                  have X9 : Hid (w9.heap[w8.heap.size]? = some (.cells #[.int .i64 ek, .int .i64 en, .int .i64 ea, .int .i64 eb', .slice va vl vc] 86 (0, 0))) := by show _ = _; rw [← HW9.out]; exact bx_keep (bx_new _ _ _ rfl) ((Below.refl _ _).alloc (Nat.le_refl _) _)
                  have X10 : Hid (w9.heap[w8.heap.size + 1]? = some (.cells #[.int .i64 (o : Int)] 3 (0, 0))) := by show _ = _; rw [← HW9.out]; exact bx_new _ _ _ (by simp)
                  go_upto_region 19 with fail
                  rw [HW9.out]
                  clear HW9
                  have HB79 : Hid (Below wr.heap.size wr w9) := HB8.out.trans (HB9.out.mono HB8.out.size)
                  have HV9 := Lib.hid (HV7.out.keep HB79.out)
                  have X11 := Lib.hid (bx_keep X7.out HB79.out)
                  have HINR : Hid (∀ r ∈ refsS q.is', placeI L o r ∈ needsI s L (x1, x2)) := fun r hr => by
                    unfold needsI
                    rw [E.out.ex, ← HO.out]
                    exact List.mem_map.2 ⟨r, hr, rfl⟩
                  have HGA : Hid (At.GetAt (fun r => r ∈ refsS q.is') 46 #[.pointer (some ⟨W.heap.size + 1 + 1, 0, none⟩), .pointer (some ⟨W.heap.size, 0, none⟩), .pointer (some ⟨w8.heap.size + 1, 0, none⟩)] (fun r => (H' (placeI L o r)).getD 0) w9) := fun W' r hr hb => by
                    have hpl := E.out.at_ r hr
                    rw [HO.out] at hpl
                    have hv := HV9.out.keep hb
                    exact valcE g s L wb _ _ _ _ H' c' o r _ _ W' (HW.out.below hv.bel) hv.map (by rw [← HO.out]; exact E.out.eq.ho) hpl (HOKI.out _ (HNEEDS.out _ _ HMI.out (HINR.out r hr))) (bx_cells1 hv.bh) (bx_cells1 hv.bw) (bx_cells1 (bx_keep X10.out hb))
                  have HGM : Hid (∀ r, r ∈ refsS q.is' → inM ((H' (placeI L o r)).getD 0)) := fun r hr => by
                    have hj := HINR.out r hr
                    have hs := HRY.out _ hj
                    cases e : H' (placeI L o r) with
                    | none => rw [e] at hs; cases hs
                    | some v => exact HINM.out _ v (HV'.out.pl.sound _ _ e) (HNEEDS.out _ _ HMI.out hj)
                  have HCA : Hid (∀ x : Aft w9, Calls Tryz.prog 45 #[.agg #[.int .i64 ek, .int .i64 en, .int .i64 ea, .int .i64 eb', .slice va vl vc], .func (.func 46) #[] #[.pointer (some ⟨W.heap.size + 1 + 1, 0, none⟩), .pointer (some ⟨W.heap.size, 0, none⟩), .pointer (some ⟨w8.heap.size + 1, 0, none⟩)]] x.w (fun e w' => e = .returned (.int .i64 (worth (fun r => (H' (placeI L o r)).getD 0) q.is')) ∧ Below x.w.heap.size x.w w')) := fun x => by
                    have h := At.worthE (fun r => r ∈ refsS q.is') 46 #[.pointer (some ⟨W.heap.size + 1 + 1, 0, none⟩), .pointer (some ⟨W.heap.size, 0, none⟩), .pointer (some ⟨w8.heap.size + 1, 0, none⟩)] (fun r => (H' (placeI L o r)).getD 0) HGM.out (fun _ _ => by kernel_rfl) q.is'.size q.is' (.slice va vl vc) x.w (Nat.le_refl _) E.out.okx (HGA.out.below x.bel) ((HV8.out.below HB9.out).below x.bel) (Nat.le_trans E.out.size (by decide))
                    rw [HEK.out, HEN.out, HEA.out, HEB.out] at h
                    exact h
                  have HVV : Hid (valV s L H' (x1, x2) = worth (fun r => (H' (placeI L o r)).getD 0) q.is') := by show _ = _; unfold valV; rw [HO.out, E.out.ex]
                  obtain ⟨wv, HWV⟩ := nameIt (worth (fun r => (H' (placeI L o r)).getD 0) q.is')
                  simp only [HWV.out] at HCA HVV
                  have HWF : Hid ((Lit.int .i64 wv).wf = true) := by
                    refine wfM ?_
                    rw [← HVV.out]
                    exact HINM.out _ _ (HV'.out.pl.sound.next HRY.out) HMI.out
                  obtain ⟨e0, e1, e2, e3, e4⟩ := At.bx_cells5 X9.out
                  obtain ⟨z0, z1⟩ := bx_cells2 X11.out
                  have ay1 := aft_cell (bx_cells1 HV9.out.bh)
                  have az0 := aft_cell z0
                  have az1 := aft_cell z1
                  have ae0 := aft_cell e0
                  have ae1 := aft_cell e1
                  have ae2 := aft_cell e2
                  have ae3 := aft_cell e3
                  have ae4 := aft_cell e4
                  clear e0 e1 e2 e3 e4 z0 z1
                  refine wp_region_after_tail (w0 := w9) 5 (by kernel_rfl) (by kernel_rfl) ?_
                  simp only [List.take_succ_cons, List.take_zero, List.drop_succ_cons, List.drop_zero]
                  repeat (go_big_quiet_step (exact Calls.after (HCA.out _)))
                  refine wpQuiet_nil ?_
                  rintro wA ⟨⟨_, hbA⟩, rfl⟩
                  have hVA := HV9.out.keep hbA
                  obtain ⟨v0, st, wB, wC, hr1, hr2, hmC, hgC⟩ := hVA.map.entry (by
                    have h1 := hVA.pl.le
                    have h2 := HIB.out
                    rw [HIN.out] at h1
                    omega) HOK.out HHV.out HWF.out
                  have HVC : Hid (VlM g s L W wb (fun j => if j = (x1, x2) then some (valV s L H' (x1, x2)) else H' j) (c' + 1) wC) := by
                    have hsz : W.heap.size + 1 + 1 < wA.heap.size := (Array.getElem?_eq_some_iff.1 hVA.bh).1
                    refine ⟨hVA.pl.put HMI.out HHV.out HRY.out, by rw [HVV.out]; exact hmC, hVA.bel.grown hgC (by have := hVA.bel.size; omega) (fun k e => by cases e; omega), ?_, ?_⟩
                    · exact (hgC.block _ (by omega) (fun e => by simp at e)).trans hVA.bw
                    · exact (hgC.block _ hsz (fun e => by simp at e)).trans hVA.bh
                  have HCC2 : Hid (c ≤ c' + 1 ∧ (true = true → c < c' + 1)) := by have := HCC.out.1; exact ⟨by omega, fun _ => by omega⟩
                  have HP2 : Hid (true = false → ∀ i ∈ (allI g s L).take (j + 1), readyV s L (fun j => if j = (x1, x2) then some (valV s L H' (x1, x2)) else H' j) i → ((fun j => if j = (x1, x2) then some (valV s L H' (x1, x2)) else H' j) i).isSome = true) := fun h => (by cases h)
                  clear hVA hmC hgC hbA ay1 az0 az1 ae0 ae1 ae2 ae3 ae4
                  go_wp2_with fail
                  go_roundg (IN - (j + 1))
                  case measure => omega
                  case rel => exact ⟨j + 1, _, c' + 1, true, by omega, by omega, by go_num, rfl, ⟨HCC2.out.1, fun _ => HCC2.out.2 (by trivial)⟩, HVC, fun h => (by cases h)⟩
        · have hend : j = IN := by omega
          have hlt' : ¬ (j : Int) < (IN : Int) := by omega
          have HCL : Hid (ag = false → ClosedV g s L H') := fun h i hi hr => by
            refine HP.out h i ?_ hr
            rw [hend, ← HIN.out, List.take_length]
            exact hi
          have HME : Hid (∀ z, IN - c + 1 ≤ z → (if ag = true then IN - c' + 1 else 0) < z) := fun z h1 => by
            cases ag with
            | false => simp; omega
            | true =>
              have h2 := HCC.out.2 rfl
              have h3 : c' ≤ IN := by rw [← HIN.out]; exact HV'.out.pl.le
              simp only [if_true]
              omega
          obtain ⟨mm, HMM⟩ := nameIt (if ag = true then IN - c' + 1 else 0)
          simp only [HMM.out] at HME
          go_wp2_with fail
          go_roundg mm
          case measure => exact HME.out _ HGG.out
          case rel => exact ⟨H', c', ag, rfl, by rw [HMM.out]; exact Nat.le_refl _, HV', HCL⟩
end Dm
end Go.Proofs.YtfocooehnmpndaaGreat
namespace Go.Proofs.YtfocooehnmpndaaGreat
open Go.RowKit
namespace Dm
open At (Ref)
def rowF (H : Inst → Option Int) (l : List Inst) (n : Nat) : List Int := (l.filter fun i => i.1 == n).map fun i => (H i).getD 0
theorem rowF_snoc (H : Inst → Option Int) (l : List Inst) (i : Inst) : rowF H (l ++ [i]) = fun n => if n = i.1 then rowF H l i.1 ++ [(H i).getD 0] else rowF H l n := by
  funext n
  unfold rowF
  rw [List.filter_append, List.map_append]
  by_cases e : n = i.1
  · subst e
    simp
  · have h : (i.1 == n) = false := by simpa using fun h => e h.symm
    simp [e, h]
theorem rowF_all (g : Gram) (s : At.Sys) (L : List Nd) (H : Inst → Option Int) {n : Nat} (hn : n < L.length) : rowF H (allI g s L) n = (attrsAt g s L n).map fun a => (H (n, a)).getD 0 := by
  unfold rowF allI
  have h : ∀ m, ((List.range m).flatMap fun n => (attrsAt g s L n).map fun a => (n, a)).filter (fun i : Inst => i.1 == n) = if n < m then (attrsAt g s L n).map (fun a => (n, a)) else [] := fun m => by
    induction m with
    | zero => simp
    | succ m ih =>
      rw [List.range_succ, List.flatMap_append, List.filter_append, ih, List.flatMap_cons, List.flatMap_nil, List.append_nil, List.filter_map]
      by_cases e : n = m
      · subst e
        rw [if_neg (Nat.lt_irrefl _), if_pos (Nat.lt_succ_self _)]
        have h2 : (attrsAt g s L n).filter ((fun i : Inst => i.1 == n) ∘ fun a => (n, a)) = attrsAt g s L n := List.filter_eq_self.2 (fun a _ => by simp)
        rw [h2]; rfl
      · have h2 : (attrsAt g s L m).filter ((fun i : Inst => i.1 == n) ∘ fun a => (m, a)) = [] := List.filter_eq_nil_iff.2 (fun a _ => by simp; exact fun h => e h.symm)
        rw [h2]
        by_cases h3 : n < m
        · rw [if_pos h3, if_pos (by omega)]; simp
        · rw [if_neg h3, if_neg (by omega)]; rfl
  rw [h, if_pos hn, List.map_map]
  rfl
def RwPost (g : Gram) (s : At.Sys) (L : List Nd) (W : World) (e : Ending) (w' : World) : Prop := ∃ v ok, e = .returned (.tuple #[v, .bool ok]) ∧ Below W.heap.size W w' ∧ (ok = true ↔ hasN g s L L.length) ∧ (ok = true → Rd AnyB w' (.sl ((rowsI g s L L.length).map D.ints)) [v])
theorem whole_has {g : Gram} {s : At.Sys} {L : List Nd} {H : Inst → Option Int} {c : Nat} (hV : VlS g s L H c) (hcl : ClosedV g s L H) (hA : ∀ i j, i ∈ allI g s L → j ∈ needsI s L i → j ∈ allI g s L) : ((c : Int) == ((allI g s L).length : Int)) = true ↔ hasN g s L L.length := by
  have h0 : ((c : Int) == ((allI g s L).length : Int)) = true ↔ ∀ i ∈ allI g s L, (H i).isSome = true := by
    rw [beq_iff_eq, hV.cnt, Int.natCast_inj]
    exact List.countP_eq_length
  rw [h0]
  constructor
  · intro h i hi _
    have h1 := h i hi
    cases e : H i with
    | none => rw [e] at h1; cases h1
    | some v => exact ⟨v, hV.sound i v e⟩
  · intro h i hi
    obtain ⟨v, hv⟩ := h i hi (mem_allI.1 hi).1
    rw [whole hV.sound (A := fun i => i ∈ allI g s L) hA hcl hv hi]
    rfl
theorem rows_eq {g : Gram} {s : At.Sys} {L : List Nd} {H : Inst → Option Int} {c : Nat} (hV : VlS g s L H c) (hall : ∀ i ∈ allI g s L, (H i).isSome = true) : (List.range L.length).map (rowF H (allI g s L)) = rowsI g s L L.length := by
  unfold rowsI
  refine List.map_congr_left fun n hn => ?_
  have hn' := List.mem_range.1 hn
  rw [rowF_all g s L H hn']
  unfold rowI
  refine List.map_congr_left fun a ha => ?_
  have h1 := hall (n, a) (mem_allI.2 ⟨hn', ha⟩)
  cases e : H (n, a) with
  | none => rw [e] at h1; cases h1
  | some v => rw [valI_eq (hV.sound _ v e)]; rfl
theorem ownT_rd {tr te : TypeId} {bt B n : Nat} {val : Nat → Value} {L : Nat → List Int} {w : World} (h : OwnT tr te bt B n val L w) (hn : n ≤ maxLen) : Rd AnyB w (.sl (((List.range n).map L).map D.ints)) [.slice (some ⟨bt, 0, none⟩) n n] := by
  obtain ⟨cs, h1, h2, h3⟩ := h.tb
  refine ⟨some ⟨bt, 0, none⟩, n, (List.range n).map val, by simp, by simp, hn, fun h => (by cases h), fun i hi => ?_, ?_⟩
  · have hi' : i < n := by simpa using hi
    refine ⟨⟨bt, 0, none⟩, rfl, ?_, ?_⟩
    · trivial
    · have e : (⟨bt, 0, none⟩ : Addr).add i = ⟨bt, i, none⟩ := by unfold Addr.add; by_cases e : i = 0 <;> simp [e]
      rw [e, h.tb.cell hi']
      simp
  · have key : ∀ m, m ≤ n → RdAll AnyB w (((List.range m).map L).map D.ints) ((List.range m).map val) := fun m => by
      induction m with
      | zero => intro _; simp [RdAll]
      | succ m ih =>
        intro hm
        rw [List.range_succ, List.map_append, List.map_append, List.map_append]
        have hr := h.row m (by omega)
        exact RdAll.append (ih (by omega)) (RdAll.one (rd_of_own hr ((rdAll_ints _ _).2 rfl) (by simp) (fun _ _ => trivial)))
    exact key n (Nat.le_refl _)
set_option maxHeartbeats 8000000 in
set_option maxRecDepth 100000 in
theorem rowsE (g : Gram) (s : At.Sys) (T : Tree) (hs : At.checkS g s = 0) (hv : validT g T = true) (hroot : rootS g T = ⟨false, g.start⟩) (hal : s.attrs.length ≤ 2000000) (hsz : tsz T ≤ 1000000) (wb : Nat) (W : World) (h : WdS g s (tabT T) wb W) :
    Calls Tryz.prog 14 #[.pointer (some ⟨wb, 0, none⟩)] W (RwPost g s (tabT T) W) := by
  have HVAL := Lib.hid (valsE g s T hs hv hroot hal hsz wb W h)
  have HNEEDS := Lib.hid (fun (i j : Inst) (hi : i ∈ allI g s (tabT T)) (hj : j ∈ needsI s (tabT T) i) => needs_all hs hv hroot hi hj)
  have HOKI := Lib.hid (fun (i : Inst) (hi : i ∈ allI g s (tabT T)) => okI_of hs hv hroot hal hsz hi)
  have HINM := Lib.hid (fun (i : Inst) (v : Int) (h : Vl s (tabT T) i v) (hi : i ∈ allI g s (tabT T)) => vl_inM hs hv hroot hal hsz h hi)
  have HLB : Hid ((tabT T).length ≤ 1000000) := by show _ ≤ _; rw [tab_len]; exact hsz
  have HIB : Hid ((allI g s (tabT T)).length ≤ 4000000000000) := by
    have h1 := allI_le g s (tabT T)
    have h2 : (tabT T).length * s.attrs.length ≤ 1000000 * 2000000 := Nat.mul_le_mul HLB.out hal
    show _ ≤ _
    omega
  obtain ⟨PST, HP⟩ := nameIt (RwPost g s (tabT T) W)
  obtain ⟨L, HL⟩ := nameIt (tabT T)
  have HFIN : Hid (∀ v ok w', Below W.heap.size W w' → (ok = true ↔ hasN g s L L.length) → (ok = true → Rd AnyB w' (.sl ((rowsI g s L L.length).map D.ints)) [v]) → PST (.returned (.tuple #[v, .bool ok])) w') := fun v ok w' h1 h2 h3 => by
    rw [← HP.out, HL.out]
    exact ⟨v, ok, rfl, h1, h2, h3⟩
  rw [HP.out]
  rw [HL.out] at h
  simp only [HL.out] at HVAL HNEEDS HOKI HINM HLB HIB
  have HW := Lib.hid h
  clear hs hv hroot hal hsz HP
  obtain ⟨c0, c1, c2, c3, aa, qa, na, ua, pa, ka, la, ac, qc, nc, uc, pc, kc, lc, hR⟩ := h.read
  have hcap := hR.caps
  unfold maxLen at hcap
  obtain ⟨IN, HIN⟩ := nameIt (allI g s L).length
  obtain ⟨LN, HLN⟩ := nameIt L.length
  obtain ⟨AN, HAN⟩ := nameIt s.attrs.length
  obtain ⟨QN, HQN⟩ := nameIt s.eqs.length
  have hh := hR.hdr
  rw [HIN.out, HLN.out, HAN.out, HQN.out] at hh
  rw [HIN.out, HLN.out] at hcap
  rw [HIN.out] at HIB
  rw [HLN.out] at HLB
  have HHD := Lib.hid hh
  have HALL : Hid (Rd AnyB W (.sl (((allI g s L).map toR).map Ref.d)) [.slice la IN lc]) := by rw [← HIN.out]; exact hR.all
  have hms : ∀ W : World, (Instr.makeSlice 32 (.int .i64 (LN : Int)) (.int .i64 (LN : Int))).run Tryz.prog W = .ok (.slice (some ⟨W.heap.size, 0, none⟩) LN LN) (W.alloc (.cells (madeCells #[.slice none 0 0] LN) 40)) := fun W => by
    have hl := HLB.out
    have := run_make_row' (P := Tryz.prog) 32 40 (.slice none 0 0) 24 Tryz.underlying32 (by kernel_rfl) rfl .i64 .i64 LN (by omega) (by omega) W
    simpa using this
  clear hR hh h
  go_enter Tryz.func14, Tryz.ntmps14
  go_wp2_with (refine HVAL.out.mono ?_)
  rintro e2 w2 ⟨mb, H, c, rfl, hV, hM, hcl, hb2⟩
  have HVS := Lib.hid hV
  have HMP := Lib.hid hM
  have HB2 : Hid (Below W.heap.size W w2) := hb2
  have HWH : Hid (((c : Int) == (IN : Int)) = true ↔ hasN g s L L.length) := by
    have h := whole_has hV hcl (fun i j hi hj => HNEEDS.out i j hi hj)
    rw [HIN.out] at h
    exact h
  have HEQR : Hid (((c : Int) == (IN : Int)) = true → (List.range LN).map (rowF H (allI g s L)) = rowsI g s L L.length) := fun h => by
    rw [← HLN.out]
    refine rows_eq hV ?_
    rw [beq_iff_eq, hV.cnt, Int.natCast_inj, ← HIN.out] at h
    exact List.countP_eq_length.1 h
  obtain ⟨bt, HBT⟩ := nameIt w2.heap.size
  obtain ⟨w3, HW3⟩ := nameIt (w2.alloc (.cells (madeCells #[.slice none 0 0] LN) 40))
  have hb3 : Below w2.heap.size w2 w3 := by rw [← HW3.out]; exact (Below.refl _ _).alloc (Nat.le_refl _) _
  have HOT : Hid (OwnT 40 3 bt (bt + 1) LN (fun _ => .slice none 0 0) (rowF H ((allI g s L).take 0)) w3) := by
    show OwnT _ _ _ _ _ _ _ _
    rw [← HW3.out]
    exact OwnT.start w2 HBT.out.symm (Nat.lt_succ_self _)
  have HB23 : Hid (Below bt w2 w3) := by show Below _ _ _; rw [← HBT.out]; exact hb3
  have HBTW : Hid (W.heap.size ≤ bt) := by show _ ≤ _; rw [← HBT.out]; exact hb2.size
  have HMB : Hid (mb < bt) := by show _ < _; rw [← HBT.out]; exact hM.lt
  have HB3W : Hid (Below W.heap.size W w3) := hb2.trans (hb3.mono hb2.size)
  have HB3S : Hid (bt + 1 ≤ w3.heap.size) := by show _ ≤ _; rw [← HW3.out, ← HBT.out]; simp
  obtain ⟨x4, x5, x6, x7, x8, x9, x10⟩ := bx_cells11w (bx_keep HHD.out HB2.out)
  have hLB := HLB.out
  clear hV hM hcl hb2 hb3 HVAL
  go_upto_region 3 with fail
  rw [HW3.out]
  try rw [HBT.out]
  clear HW3 x4 x5 x6 x7 x8 x9 x10 hms
  obtain ⟨x4, x5, x6, x7, x8, x9, x10⟩ := bx_cells11w (bx_keep HHD.out HB3W.out)
  go_wp2_with fail
  clear x4 x5 x6 x7 x8 x9 x10
  go_loopg [7, 21] IN (fun gg v7 v21 wr => ∃ (j : Nat) (val : Nat → Value), j ≤ IN ∧ IN - j ≤ gg ∧ v21 = .int .i64 j ∧ Hid (OwnT 40 3 bt (bt + 1) LN val (rowF H ((allI g s L).take j)) wr) ∧ Hid (Below bt w2 wr))
  case atStart => exact ⟨0, _, by omega, by omega, rfl, HOT, HB23⟩
  case round =>
    obtain ⟨j, val, hj, hg, rfl, HO, HBR⟩ := hrel
    clear HOT
    have HBWR : Hid (Below W.heap.size W wr) := HB2.out.trans (HBR.out.mono HBTW.out)
    have HB2R : Hid (Below w2.heap.size w2 wr) := by show Below _ _ _; rw [HBT.out]; exact HBR.out
    by_cases hlt : j < IN
    · have hlt' : (j : Int) < (IN : Int) := by omega
      have hjc : (j : Int) ≤ (lc : Int) := by omega
      have hjl : j < (allI g s L).length := by rw [HIN.out]; exact hlt
      obtain ⟨bb, bo, hae, -, hbl, p0, p1⟩ := pl_at (HALL.out.below HBWR.out) hjl
      have HMI : Hid ((allI g s L)[j] ∈ allI g s L) := List.getElem_mem hjl
      have HTK : Hid ((allI g s L).take (j + 1) = (allI g s L).take j ++ [(allI g s L)[j]]) := List.take_succ_eq_append_getElem hjl
      have HTL : Hid (∀ n, (rowF H ((allI g s L).take j) n).length ≤ 4000000000000) := fun n => by
        unfold rowF
        rw [List.length_map]
        have h1 := List.length_filter_le (fun i : Inst => i.1 == n) ((allI g s L).take j)
        have h2 : ((allI g s L).take j).length ≤ IN := by rw [List.length_take, HIN.out]; omega
        have h3 := HIB.out
        omega
      obtain ⟨i, HIi⟩ := nameIt ((allI g s L)[j]'hjl)
      rw [HIi.out] at p0 p1 HMI HTK
      obtain ⟨n, a⟩ := i
      simp only at p0 p1
      have hok := HOKI.out _ HMI.out
      have hnL : n < LN := by rw [← HLN.out]; exact (mem_allI.1 HMI.out).1
      obtain ⟨w5, HW5⟩ := nameIt (wr.alloc (.cells #[.int .i64 (n : Int), .int .i64 (a : Int)] 59))
      have hb5 : Below wr.heap.size wr w5 := by rw [← HW5.out]; exact (Below.refl _ _).alloc (Nat.le_refl _) _
      have X5 : Hid (w5.heap[wr.heap.size]? = some (.cells #[.int .i64 (n : Int), .int .i64 (a : Int)] 59 (0, 0))) := by rw [← HW5.out]; exact bx_new _ _ _ rfl
      have HO5 := Lib.hid (HO.out.keep hb5)
      have HB25 : Hid (Below w2.heap.size w2 w5) := HB2R.out.trans (hb5.mono HB2R.out.size)
      have hrow := HO5.out.row n hnL
      obtain ⟨ap, cp, hvp, hcp1, hcp2⟩ := own_len hrow
      have htl := HTL.out n
      have HLV : Hid (∀ w', Below w5.heap.size w5 w' → (Instr.lookup 54 (.map (some mb)) (.agg #[.int .i64 (n : Int), .int .i64 (a : Int)]) false).run Tryz.prog w' = .ok (.int .i64 ((H (n, a)).getD 0)) w') := fun w' hb => ((HMP.out.keep (HB25.out.trans (hb.mono HB25.out.size))).look hok).2
      have HNXF : Hid (rowF H ((allI g s L).take (j + 1)) = fun k => if k = n then rowF H ((allI g s L).take j) n ++ [(H (n, a)).getD 0] else rowF H ((allI g s L).take j) k) := by show _ = _; rw [HTK.out, rowF_snoc]
      obtain ⟨kl, HKL⟩ := nameIt (rowF H ((allI g s L).take j) n).length
      rw [HKL.out] at hvp hrow hcp1 htl
      rw [hvp] at hrow
      have HVP := Lib.hid hvp
      obtain ⟨v, HV⟩ := nameIt ((H (n, a)).getD 0)
      rw [HV.out] at HNXF
      simp only [HV.out] at HLV
      have hc5 := HO5.out.tb.cell hnL
      rw [hvp] at hc5
      obtain ⟨z0, z1⟩ := bx_cells2 X5.out
      have hl5 : wr.heap.size < w5.heap.size := (Array.getElem?_eq_some_iff.1 X5.out).1
      have hbt5 : bt < w5.heap.size := HO5.out.tb.lt
      have hn' : (n : Int) < (LN : Int) := by omega
      have hn2 : ¬ ((LN : Int) ≤ (n : Int)) := by omega
      obtain ⟨qq, HQQ⟩ := nameIt wr.heap.size
      rw [HQQ.out] at z0 z1 hl5
      have HQB : Hid (bt < qq) := by show _ < _; rw [← HQQ.out]; exact HO.out.tb.lt
      obtain ⟨w8, HW8⟩ := nameIt (w5.alloc (.cells #[.int .i64 v] 3)).drew
      have hb8 : Below w5.heap.size w5 w8 := by rw [← HW8.out]; exact ((Below.refl w5.heap.size w5).alloc (Nat.le_refl _) _).drew
      have X8 : Hid (w8.heap[w5.heap.size]? = some (.cells #[.int .i64 v] 3 (0, 0))) := by rw [← HW8.out]; exact bx_new w5 _ _ rfl
      have HB58 := Lib.hid hb8
      have HO8 := Lib.hid (HO5.out.keep hb8)
      have HRW8 := Lib.hid (own_keep hrow hb8)
      have hbw8 : bt + 1 ≤ w8.heap.size := by have := hb8.size; omega
      have hq8 : qq < w8.heap.size := Nat.lt_of_lt_of_le hl5 hb8.size
      have hqn : ∀ k, (Value.slice ap kl cp).ownBlock = some k → k < qq := fun k e => by
        have h1 := HO.out.row n hnL
        rw [HVP.out] at h1
        have := (h1.lt k e).2
        rw [HQQ.out] at this
        exact this
      have HQN := Lib.hid hqn
      have HHH : Hid (∀ w', (Instr.lookup 54 (.map (some mb)) (.agg #[.int .i64 (n : Int), .int .i64 (a : Int)]) false).run Tryz.prog w' = .ok (.int .i64 v) w' ∨ True) := fun _ => .inr trivial
      obtain ⟨q8, HQ8⟩ := nameIt w5.heap.size
      have HCS : Hid (∀ w', Below q8 w5 w' → (fun w' : World => w'.cell? ⟨qq, 0, none⟩ = some (.int .i64 (n : Int)) ∧ w'.cell? ⟨qq, 0 + 1, none⟩ = some (.int .i64 (a : Int)) ∧ w'.cell? ⟨bt, n, none⟩ = some (.slice ap kl cp) ∧ (Instr.lookup 54 (.map (some mb)) (.agg #[.int .i64 (n : Int), .int .i64 (a : Int)]) false).run Tryz.prog w' = .ok (.int .i64 v) w') w') := fun w' hb => by
        rw [← HQ8.out] at hb
        exact ⟨(hb.cell (lt_of_cell z0)).trans z0, (hb.cell (lt_of_cell z1)).trans z1, (hb.cell (lt_of_cell hc5)).trans hc5, HLV.out w' hb⟩
      have HMK : Hid (∀ w', w8.grownBy w' (Value.slice ap kl cp).ownBlock → (Instr.lookup 54 (.map (some mb)) (.agg #[.int .i64 (n : Int), .int .i64 (a : Int)]) false).run Tryz.prog w' = .ok (.int .i64 v) w') := fun w' hg8 => by
        have hm8 := HMP.out.keep (HB25.out.trans (HB58.out.mono HB25.out.size))
        have hbl : ∀ k, (Value.slice ap kl cp).ownBlock = some k → bt < k := fun k e => (HRW8.out.lt k e).1
        have h1 : HvM mb H c w' := by
          obtain ⟨FF, h2, h3⟩ := hm8
          exact ⟨FF, h2.kept hg8 (fun e => by have h4 := hbl mb e.symm; have h5 := HMB.out; omega), h3⟩
        have h2 := (h1.look hok).2
        rw [HV.out] at h2
        exact h2
      have hqb : ∀ k, (Value.slice ap kl cp).ownBlock = some k → bt + 1 ≤ k := fun k e => (HRW8.out.lt k e).1
      rw [HQ8.out] at X8 HB58
      have HBR5 : Hid (Below q8 w5 w5.drew) := (Below.refl _ _).drew
      subst hae
      clear hb5 hb8 hrow hvp hc5 z0 z1 HHH
      go_upto_region 6 with fail
      rw [HW5.out]
      try simp only [HQQ.out]
      clear HW5 p0 p1 hbl
      refine wp_region_M (S := (fun w' : World => w'.cell? ⟨qq, 0, none⟩ = some (.int .i64 (n : Int)) ∧ w'.cell? ⟨qq, 0 + 1, none⟩ = some (.int .i64 (a : Int)) ∧ w'.cell? ⟨bt, n, none⟩ = some (.slice ap kl cp) ∧ (Instr.lookup 54 (.map (some mb)) (.agg #[.int .i64 (n : Int), .int .i64 (a : Int)]) false).run Tryz.prog w' = .ok (.int .i64 v) w')) 13 (by kernel_rfl) ?_
      refine wpU_takeF (i := 0) (v := .slice (some ⟨bt, 0, none⟩) LN LN) rfl rfl (by kernel_rfl) (by kernel_rfl) (by kernel_rfl) (fun _ _ _ h => h) (Or.inl ⟨by rfl, fun w' hw' => ?_⟩) (fun _ => (HCS.out _ HBR5.out)) ?_
      · clear hw'
        go_simp
      try simp only [Act.put, List.setIfInBounds_toArray, List.set_cons_zero, List.set_cons_succ]
      refine wpU_takeF (i := 1) (v := .pointer (some ⟨qq, 0, none⟩)) rfl rfl (by kernel_rfl) (by kernel_rfl) (by kernel_rfl) (fun _ _ _ h => h) (Or.inl ⟨by rfl, fun w' hw' => ?_⟩) (fun _ => (HCS.out _ HBR5.out)) ?_
      · clear hw'
        go_simp
      try simp only [Act.put, List.setIfInBounds_toArray, List.set_cons_zero, List.set_cons_succ]
      refine wpU_takeM (i := 2) (v := .int .i64 (n : Int)) rfl rfl (by kernel_rfl) (by kernel_rfl) (by kernel_rfl) (by kernel_rfl) (by kernel_rfl) (fun _ _ _ h => h) (Or.inl ⟨by rfl, fun w' hw' => ?_⟩) (HCS.out _ HBR5.out) ?_
      · obtain ⟨h0, h1, h2, h3⟩ := hw'
        go_simp
      try simp only [Act.put, List.setIfInBounds_toArray, List.set_cons_zero, List.set_cons_succ]
      refine wpU_takeF (i := 3) (v := .slice (some ⟨bt, 0, none⟩) LN LN) rfl rfl (by kernel_rfl) (by kernel_rfl) (by kernel_rfl) (fun _ _ _ h => h) (Or.inl ⟨by rfl, fun w' hw' => ?_⟩) (fun _ => (HCS.out _ HBR5.out)) ?_
      · clear hw'
        go_simp
      try simp only [Act.put, List.setIfInBounds_toArray, List.set_cons_zero, List.set_cons_succ]
      refine wpU_takeF (i := 4) (v := .pointer (some ⟨qq, 0, none⟩)) rfl rfl (by kernel_rfl) (by kernel_rfl) (by kernel_rfl) (fun _ _ _ h => h) (Or.inl ⟨by rfl, fun w' hw' => ?_⟩) (fun _ => (HCS.out _ HBR5.out)) ?_
      · clear hw'
        go_simp
      try simp only [Act.put, List.setIfInBounds_toArray, List.set_cons_zero, List.set_cons_succ]
      refine wpU_takeM (i := 5) (v := .int .i64 (n : Int)) rfl rfl (by kernel_rfl) (by kernel_rfl) (by kernel_rfl) (by kernel_rfl) (by kernel_rfl) (fun _ _ _ h => h) (Or.inl ⟨by rfl, fun w' hw' => ?_⟩) (HCS.out _ HBR5.out) ?_
      · obtain ⟨h0, h1, h2, h3⟩ := hw'
        go_simp
      try simp only [Act.put, List.setIfInBounds_toArray, List.set_cons_zero, List.set_cons_succ]
      refine wpU_takeF (i := 6) (v := .pointer (some ⟨bt, n, none⟩)) rfl rfl (by kernel_rfl) (by kernel_rfl) (by kernel_rfl) (fun _ _ _ h => h) (Or.inl ⟨by rfl, fun w' hw' => ?_⟩) (fun _ => (HCS.out _ HBR5.out)) ?_
      · clear hw'
        go_simp
      try simp only [Act.put, List.setIfInBounds_toArray, List.set_cons_zero, List.set_cons_succ]
      refine wpU_takeM (i := 7) (v := .slice ap kl cp) rfl rfl (by kernel_rfl) (by kernel_rfl) (by kernel_rfl) (by kernel_rfl) (by kernel_rfl) (fun _ _ _ h => h) (Or.inl ⟨by rfl, fun w' hw' => ?_⟩) (HCS.out _ HBR5.out) ?_
      · obtain ⟨h0, h1, h2, h3⟩ := hw'
        go_simp
      try simp only [Act.put, List.setIfInBounds_toArray, List.set_cons_zero, List.set_cons_succ]
      refine wpU_takeF (i := 8) (v := .map (some mb)) rfl rfl (by kernel_rfl) (by kernel_rfl) (by kernel_rfl) (fun _ _ _ h => h) (Or.inl ⟨by rfl, fun w' hw' => ?_⟩) (fun _ => (HCS.out _ HBR5.out)) ?_
      · clear hw'
        go_simp
      try simp only [Act.put, List.setIfInBounds_toArray, List.set_cons_zero, List.set_cons_succ]
      refine wpU_takeM (i := 9) (v := .agg #[.int .i64 (n : Int), .int .i64 (a : Int)]) rfl rfl (by kernel_rfl) (by kernel_rfl) (by kernel_rfl) (by kernel_rfl) (by kernel_rfl) (fun _ _ _ h => h) (Or.inl ⟨by rfl, fun w' hw' => ?_⟩) (HCS.out _ HBR5.out) ?_
      · obtain ⟨h0, h1, h2, h3⟩ := hw'
        go_simp
      try simp only [Act.put, List.setIfInBounds_toArray, List.set_cons_zero, List.set_cons_succ]
      refine wpU_takeM (i := 10) (v := .int .i64 v) rfl rfl (by kernel_rfl) (by kernel_rfl) (by kernel_rfl) (by kernel_rfl) (by kernel_rfl) (fun _ _ _ h => h) (Or.inl ⟨by rfl, fun w' hw' => ?_⟩) (HCS.out _ HBR5.out) ?_
      · obtain ⟨h0, h1, h2, h3⟩ := hw'
        go_simp
      try simp only [Act.put, List.setIfInBounds_toArray, List.set_cons_zero, List.set_cons_succ]
      refine wpU_one (i := 11) (by kernel_rfl) rfl (fun K hK => ?_)
      go_simp
      rw [HW8.out, HQ8.out]
      refine hK.out _ _ (fun _ => HCS.out _ HB58.out) ?_
      clear hK K
      try simp only [Act.put, List.setIfInBounds_toArray, List.set_cons_zero, List.set_cons_succ]
      refine wpU_one (i := 12) (by kernel_rfl) rfl (fun K hK => ?_)
      refine step_appB elIntN (by rfl) _ _ (by rfl) HRW8.out (by rfl) (by rfl) X8.out (by rfl) (by rfl) (by omega) (by unfold maxLen; omega) hbw8 ?_
      intro g9 c9 w9 ho9 hg9 hat9 hlt9
      obtain ⟨k1, k2, k3⟩ := HO8.out.app (t := n) hnL (v' := .slice (some ⟨g9, 0, none⟩) (kl + 1) c9) (s := v) (by rw [HKL.out]; exact ho9) (by rw [HVP.out]; exact hg9) (by rw [HVP.out]; exact at_lies hat9)
      rw [HVP.out] at k1
      have HS9 : Hid ((fun w' : World => w'.cell? ⟨qq, 0, none⟩ = some (.int .i64 (n : Int)) ∧ w'.cell? ⟨qq, 0 + 1, none⟩ = some (.int .i64 (a : Int)) ∧ w'.cell? ⟨bt, n, none⟩ = some (.slice ap kl cp) ∧ (Instr.lookup 54 (.map (some mb)) (.agg #[.int .i64 (n : Int), .int .i64 (a : Int)]) false).run Tryz.prog w' = .ok (.int .i64 v) w') w9) := ⟨grcell hg9 hq8 (fun e => by have := HQN.out _ e; omega) (HCS.out _ HB58.out).1, grcell hg9 hq8 (fun e => by have := HQN.out _ e; omega) (HCS.out _ HB58.out).2.1, k1, HMK.out w9 hg9⟩
      have HB29 : Hid (Below bt w2 w9) := by
        have h8 : Below bt w2 w8 := (HBT.out ▸ HB25.out).trans ((by rw [HQ8.out]; exact HB58.out : Below w5.heap.size w5 w8).mono (by omega))
        exact h8.grown hg9 (by omega) (fun k e => by have := hqb k e; omega)
      have HK1 := Lib.hid k1
      have HK2 := Lib.hid k2
      have HK3 := Lib.hid k3
      clear k1 k2 k3 ho9 hg9 hat9
      refine hK.out _ _ (fun _ => HS9.out) ?_
      clear hK K
      try simp only [Act.put, List.setIfInBounds_toArray, List.set_cons_zero, List.set_cons_succ]
      refine wpU_one (i := 13) (by kernel_rfl) rfl (fun K hK => ?_)
      go_simp
      refine hK.out _ _ (fun h => absurd (show true = false from h) (by decide)) ?_
      clear hK K
      try simp only [Act.put, List.setIfInBounds_toArray, List.set_cons_zero, List.set_cons_succ]
      have d1 := HK1.out
      have d2 := HK2.out
      refine wpU_one (i := 14) (by kernel_rfl) rfl (fun K hK => ?_)
      go_simp
      refine hK.out _ _ (fun h => absurd (show true = false from h) (by decide)) ?_
      clear hK K
      try simp only [Act.put, List.setIfInBounds_toArray, List.set_cons_zero, List.set_cons_succ]
      refine wpU_done (by kernel_rfl) ?_ _
      have HOZ : Hid (OwnT 40 3 bt (bt + 1) LN (fun k => if k = n then .slice (some ⟨g9, 0, none⟩) (kl + 1) c9 else val k) (rowF H ((allI g s L).take (j + 1))) (w9.setCell ⟨bt, n, none⟩ (.slice (some ⟨g9, 0, none⟩) (kl + 1) c9))) := by
        rw [HNXF.out]
        exact HK3.out
      have HBZ : Hid (Below bt w2 (w9.setCell ⟨bt, n, none⟩ (.slice (some ⟨g9, 0, none⟩) (kl + 1) c9))) := HB29.out.setCell (Nat.le_refl _) _
      clear d1 d2 HK1 HK2 HK3 HS9 HCS HNXF
      go_wp2_with fail
      go_roundg (IN - (j + 1))
      case measure => omega
      case rel => exact ⟨j + 1, _, by omega, by omega, by go_num, HOZ, HBZ⟩
    · have hend : j = IN := by omega
      have hlt' : ¬ (j : Int) < (IN : Int) := by omega
      obtain ⟨ok, HOKB⟩ : ∃ b : Bool, ((c : Int) == (IN : Int)) = b := ⟨_, rfl⟩
      have HFF : Hid (∀ w', Below wr.heap.size wr w' → PST (.returned (.tuple #[.slice (some ⟨bt, 0, none⟩) LN LN, .bool ok])) w') := fun w' hb => by
        refine HFIN.out _ ok w' (HBWR.out.trans (hb.mono HBWR.out.size)) (by rw [← HOKB]; exact HWH.out) (fun h => ?_)
        rw [← HEQR.out (by rw [HOKB]; exact h)]
        have h1 := HO.out
        rw [hend, ← HIN.out, List.take_length] at h1
        exact ownT_rd (h1.keep hb) (by unfold maxLen; have := HLB.out; omega)
      have hlen : ∀ x : Aft wr, (Builtin.len_ #[54] 3 #[.map (some mb)]).run Tryz.prog x.w = .ok (.int .i64 (c : Int)) x.w := fun x => (HMP.out.keep (HB2R.out.trans (x.bel.mono HB2R.out.size))).len _
      obtain ⟨x4, x5, x6, x7, x8, x9, x10⟩ := bx_cells11w (bx_keep HHD.out HBWR.out)
      have ax10 := aft_cell x10
      clear x4 x5 x6 x7 x8 x9 x10
      go_upto_region 8 with fail
      refine wp_region_after (w0 := wr) (by kernel_rfl) (by kernel_rfl) ?_
      repeat (go_big_quiet_step (fail))
      refine wpQuiet_nil ?_
      rintro w6 ⟨⟨_, hb6⟩, rfl⟩
      have HE := Lib.hid (HFF.out w6 hb6)
      clear hb6 ax10 hlen
      go_wp2_with fail
      first | exact HE.out | (refine bodyPost_ret (results_tmp2 Tryz.results14 _ _ _) rfl ?_; exact HE.out)
end Dm
end Go.Proofs.YtfocooehnmpndaaGreat
namespace Go.Proofs.YtfocooehnmpndaaGreat
open Go.RowKit
namespace Dm
theorem rowsI_at {S : Nat → Prop} {w : World} {l : List (List Int)} {a : Option Addr} {n cap i : Nat} (h : Rd S w (.sl (l.map D.ints)) [.slice a n cap]) (hi : i < l.length) :
    ∃ b off u, a = some ⟨b, off, none⟩ ∧ w.cell? ⟨b, off + i, none⟩ = some u ∧ Sl w u (ints l[i]) := by
  obtain ⟨b, off, cs, ha, hS, hlt, hr, hl, hc⟩ := h.at (k := 1) (fun d hd => by simp at hd; obtain ⟨t, _, rfl⟩ := hd; simp [D.ints, D.cells]) (by decide) (i := i) (by simpa using hi)
  simp at hr
  obtain ⟨x, rfl⟩ : ∃ x, cs = [x] := by
    match cs, hl with
    | [x], _ => exact ⟨x, rfl⟩
  refine ⟨b, off, x, ha, by simpa using hc 0 (by simp), ?_⟩
  exact sl_rd hr
set_option maxHeartbeats 2000000 in
set_option maxRecDepth 100000 in
theorem sr1E (l l' : List Int) (v v' : Value) (w : World) (h : Sl w v (ints l)) (h' : Sl w v' (ints l')) : Calls Tryz.prog 29 #[v, v'] w fun e w' => e = .returned (.bool (l == l')) ∧ Below w.heap.size w w' := by
  have HEQ := Lib.hid (equal v v' l l' w h h')
  obtain ⟨b, HB⟩ := nameIt (l == l')
  rw [HB.out] at HEQ
  rw [HB.out]
  obtain ⟨a0, k0, rfl⟩ := h.form
  obtain ⟨a1, k1, rfl⟩ := h'.form
  obtain ⟨m0, HM0⟩ := nameIt (ints l).length
  obtain ⟨m1, HM1⟩ := nameIt (ints l').length
  rw [HM0.out, HM1.out] at HEQ
  rw [HM0.out, HM1.out]
  clear h h'
  go_enter Tryz.func29, Tryz.ntmps29
  go_wp2_with (refine HEQ.out.mono ?_)
  rintro e w2 ⟨rfl, hb2⟩
  have HB2 := Lib.hid hb2
  clear hb2
  go_wp2_with fail
  go_ret
  exact ⟨rfl, HB2.out⟩
set_option maxHeartbeats 4000000 in
set_option maxRecDepth 100000 in
theorem eqRowsE (L : List (List Int)) (a a' : Option Addr) (c c' : Nat) (w : World) (h : Rd AnyB w (.sl (L.map D.ints)) [.slice a L.length c]) (h' : Rd AnyB w (.sl (L.map D.ints)) [.slice a' L.length c']) :
    Calls Tryz.prog 28 #[.slice a L.length c, .slice a' L.length c', .func (.func 29) #[] #[]] w fun e w' => e = .returned (.bool true) ∧ Below w.heap.size w w' := by
  have hc := h.bounds.2
  unfold maxLen at hc
  obtain ⟨hc1, hc2⟩ := hc
  have H1 := Lib.hid h
  have H2 := Lib.hid h'
  have eg : ∀ args w, (callFunc 29 args).run Tryz.prog w = .ok (.enter 29 args) w := fun _ _ => by kernel_rfl
  obtain ⟨n, HN⟩ := nameIt L.length
  rw [HN.out] at H1 H2 hc1
  rw [HN.out]
  clear h h'
  go_enter Tryz.func28, Tryz.ntmps28
  go_wp2_with fail
  go_loopg [17] n (fun gg v17 wr => ∃ i : Nat, i ≤ n ∧ n - i ≤ gg ∧ v17 = .int .i64 i ∧ Hid (Below w.heap.size w wr))
  case atStart => exact ⟨0, by omega, by omega, rfl, Below.refl _ _⟩
  case round =>
    obtain ⟨i, hi, hg, rfl, HB⟩ := hrel
    obtain ⟨w1, rfl⟩ : ∃ ww : World, ww = wr := ⟨_, rfl⟩
    by_cases hlt : i < n
    · have hlt' : (i : Int) < (n : Int) := by omega
      have hi0 : (0 : Int) ≤ (i : Int) := by omega
      have hix : i < L.length := by rw [HN.out]; exact hlt
      obtain ⟨b, off, v, hae, c0, hsl⟩ := rowsI_at (H1.out.below HB.out) hix
      obtain ⟨b', off', v', hae', c1, hsl'⟩ := rowsI_at (H2.out.below HB.out) hix
      have HEQ := Lib.hid (fun W (hb : Below w1.heap.size w1 W) => sr1E L[i] L[i] v v' W (hsl.keep hb) (hsl'.keep hb))
      simp only [beq_self_eq_true] at HEQ
      obtain ⟨a0, k0, rfl⟩ := hsl.form
      obtain ⟨a1, k1, rfl⟩ := hsl'.form
      obtain ⟨m, HM⟩ := nameIt (ints L[i]).length
      rw [HM.out] at c0 c1 HEQ
      subst hae hae'
      clear hsl hsl'
      go_wp2_with fail
      refine (HEQ.out _ (Below.refl _ _)).mono ?_
      rintro e w2 ⟨rfl, hb2⟩
      have HB2 := Lib.hid (HB.out.trans (hb2.mono HB.out.size))
      clear hb2 c0 c1
      go_wp2_with fail
      go_roundg (n - (i + 1))
      case measure => omega
      case rel => exact ⟨i + 1, by omega, by omega, by go_num, HB2⟩
    · have hlt' : ¬ (i : Int) < (n : Int) := by omega
      go_wp2_with fail
      go_ret
      exact ⟨rfl, HB.out⟩
set_option maxHeartbeats 2000000 in
set_option maxRecDepth 100000 in
theorem sameRowsE (L : List (List Int)) (v v' : Value) (w : World) (h : Rd AnyB w (.sl (L.map D.ints)) [v]) (h' : Rd AnyB w (.sl (L.map D.ints)) [v']) :
    Calls Tryz.prog 10 #[v, v'] w fun e w' => e = .returned (.bool true) ∧ Below w.heap.size w w' := by
  obtain ⟨a, c, rfl, -, -⟩ := h.form
  obtain ⟨a', c', rfl, -, -⟩ := h'.form
  rw [List.length_map] at h h'
  have HEQ := Lib.hid (eqRowsE L a a' c c' w h h')
  simp only [List.length_map]
  obtain ⟨n, HN⟩ := nameIt L.length
  rw [HN.out] at HEQ
  rw [HN.out]
  clear h h'
  go_enter Tryz.func10, Tryz.ntmps10
  go_wp2_with (refine HEQ.out.mono ?_)
  rintro e w2 ⟨rfl, hb2⟩
  have HB2 := Lib.hid hb2
  clear hb2
  go_wp2_with fail
  go_ret
  exact ⟨rfl, HB2.out⟩
end Dm
end Go.Proofs.YtfocooehnmpndaaGreat
namespace Go.Proofs.YtfocooehnmpndaaGreat
open Go.RowKit
namespace At
end At
end Go.Proofs.YtfocooehnmpndaaGreat
namespace Go.Proofs.YtfocooehnmpndaaGreat
open Go.RowKit
namespace At
end At
end Go.Proofs.YtfocooehnmpndaaGreat
namespace Go.Proofs.YtfocooehnmpndaaGreat
open Go.RowKit
namespace At
theorem leaves_okK : ∀ q ∈ leavesS.eqs, okEqK q := by
  intro q hq
  simp [leavesS] at hq
  rcases hq with rfl | rfl <;> simp [okEqK, okRefI, i64]
end At
end Go.Proofs.YtfocooehnmpndaaGreat
