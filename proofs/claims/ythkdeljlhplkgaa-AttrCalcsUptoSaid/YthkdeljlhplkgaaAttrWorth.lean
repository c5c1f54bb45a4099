/- The contract of the reference's Worth. -/
import Derived.Test.YthkdeljlhplkgaaAttrCalc
namespace Go.Proofs.Ythkdeljlhplkgaa
open Go.RowKit
namespace At

set_option maxHeartbeats 8000000 in
set_option maxRecDepth 100000 in
theorem worthE (g : Nat) (lb : Array Value) (get : Ref → Int) (hget : ∀ r, okRefV r → inM (get r)) (eg : ∀ args w, (callFunc g args).run Try.prog w = .ok (.enter g args) w) : ∀ (m : Nat) (x : Expr) (v : Value) (w : World), x.size ≤ m → okX x → GetAt g lb get w → Rd AnyB w (.sl (x.args.map Expr.d)) [v] → x.size ≤ 100000 →
    Calls Try.prog 9 #[.agg #[.int .i64 x.kind, .int .i64 x.n, .int .i64 x.ref.at', .int .i64 x.ref.attr, v], .func (.func g) #[] lb] w (fun e w' => e = .returned (.int .i64 (worth get x)) ∧ Below w.heap.size w w') := by
  intro m
  induction m with
  | zero => intro x v w hm; have := x.size_pos; omega
  | succ m ih =>
  intro x v w hm hx hgf hv hbig
  obtain ⟨a, cap, rfl, hc1, hc2⟩ := hv.form
  rw [List.length_map] at hc1 hv ⊢
  unfold maxLen at hc2
  have HV := Lib.hid hv
  have HM := Lib.hid hm
  have HSZ := Lib.hid x.size_eq
  have HXS := Lib.hid hx.self
  have hkn : x.args.length ≤ 100000 := by have := sizeL_len x.args; rw [Expr.size_eq] at hbig; omega
  have IH := Lib.hid (fun y u W h1 h2 h3 h4 => ih y u W h1 h2 h3 h4)
  have HOK := Lib.hid (fun y (hy : y ∈ x.args) => hx.kid hy)
  have HWE := Lib.hid (worth_eq get x)
  have HVM := Lib.hid (worthL_inM hget hx)
  have HVI := Lib.hid (fun (i : Nat) (h : i < x.args.length) => show ∀ h2, (worthL get x.args)[i]'h2 = worth get x.args[i] from fun h2 => by simp [worthL_map])
  have HVL : Hid ((worthL get x.args).length = x.args.length) := by show _ = _; rw [worthL_map, List.length_map]
  have HGR := Lib.hid (hget x.ref)
  have HKBIG := Lib.hid (fun y (hy : y ∈ x.args) => show y.size ≤ 100000 by
    obtain ⟨i, hi, rfl⟩ := List.getElem_of_mem hy
    have := sizeL_kid hi
    rw [Expr.size_eq] at hbig
    omega)
  obtain ⟨w0, HW0⟩ := nameIt (w.alloc (.cells #[.int .i64 x.kind, .int .i64 x.n, .int .i64 x.ref.at', .int .i64 x.ref.attr, .slice a x.args.length cap] 33))
  have HB0 : Hid (Below w.heap.size w w0) := by rw [← HW0.out]; exact (Below.refl _ _).alloc (Nat.le_refl _) _
  have X0 : Hid (w0.heap[w.heap.size]? = some (.cells #[.int .i64 x.kind, .int .i64 x.n, .int .i64 x.ref.at', .int .i64 x.ref.attr, .slice a x.args.length cap] 33 (0, 0))) := by rw [← HW0.out]; exact bx_new _ _ _ rfl
  have HS0 : Hid (w0.heap.size = w.heap.size + 1) := by show _ = _; rw [← HW0.out]; simp
  have HGF := Lib.hid (fun (W : World) (hb : Below w0.heap.size w0 W) => (hgf.below HB0.out).below hb)
  obtain ⟨V, HVV⟩ := nameIt (worthL get x.args)
  obtain ⟨K, HKN⟩ := nameIt x.args
  simp only [HVV.out] at HWE HVM HVI HVL
  simp only [HKN.out] at HVI HVL HKBIG HOK HV HSZ
  obtain ⟨kn, HKL⟩ := nameIt K.length
  obtain ⟨q0, HQ0⟩ := nameIt x.kind
  obtain ⟨q1, HQ1⟩ := nameIt x.n
  obtain ⟨q2, HQ2⟩ := nameIt x.ref.at'
  obtain ⟨q3, HQ3⟩ := nameIt x.ref.attr
  obtain ⟨gr, HGRR⟩ := nameIt (get x.ref)
  obtain ⟨rs, HRS⟩ := nameIt (worth get x)
  rw [HKN.out, HKL.out] at hc1 X0 HW0 hkn ⊢
  rw [HKL.out] at HV HVL
  rw [HQ0.out, HQ1.out, HQ2.out, HQ3.out] at X0 HW0 ⊢
  rw [HRS.out, HQ0.out, HQ1.out, HGRR.out] at HWE
  rw [HGRR.out] at HGR
  rw [HRS.out]
  have HOA : Hid (okArgs q0 kn = true) := by have h := HXS.out.1; rw [HQ0.out, HKN.out, HKL.out] at h; exact h
  have HO1R : Hid (q0 = 1 → okRefV x.ref) := fun h => HXS.out.2.2 (by rw [HQ0.out]; exact h)
  have HO0 : Hid (w0.ownsRow (w.heap.size + 1) 3 1 (.slice none 0 0) 0 (ints (V.take 0))) := World.ownsRow_nil _ _ _ _
  have HB00 := Lib.hid (Below.refl w0.heap.size w0)
  have HGC := Lib.hid (fun (W : World) (hb : Below w0.heap.size w0 W) (h : q0 = 1) => HGF.out W hb W x.ref (HO1R.out h) (Below.refl _ _))
  rw [HQ2.out, HQ3.out, HGRR.out] at HGC
  obtain ⟨x0, x1, x2, x3, x4⟩ := bx_cells5 X0.out
  have HEG := Lib.hid eg
  have HHG := Lib.hid hget
  clear hm hx hgf hv ih hbig hget
  go_enter Try.func9, Try.ntmps9
  go_upto_region 1 with fail
  rw [HW0.out]
  go_wp2_with fail
  clear x0 x1 x2 x3 x4
  go_loopg [5, 20] kn (fun gg vl vc wr => ∃ i : Nat, i ≤ kn ∧ kn - i ≤ gg ∧ vc = .int .i64 i ∧ Hid (wr.ownsRow (w.heap.size + 1) 3 1 vl i (ints (V.take i))) ∧ Hid (Below w0.heap.size w0 wr))
  case atStart => exact ⟨0, by omega, by omega, rfl, HO0, HB00⟩
  case round =>
    clear HO0 HB00
    obtain ⟨i, hi, hg, rfl, HO, HB⟩ := hrel
    by_cases hlt : i < kn
    · have hlt' : (i : Int) < (kn : Int) := by omega
      have hltK : i < K.length := by rw [HKL.out]; exact hlt
      have hbw : Below w.heap.size w wr := HB0.out.trans (HB.out.mono HB0.out.size)
      obtain ⟨b, off, v, hae, -, hbl, e0, e1, e2, e3, e4, hkid⟩ := Rd.arg (HV.out.below hbw) hltK
      obtain ⟨av, cv, rfl, -, -⟩ := hkid.form
      rw [List.length_map] at e4 hkid
      have hms : K[i].size ≤ m := by
        have h1 := HM.out
        rw [HSZ.out] at h1
        have := sizeL_kid hltK
        omega
      have hvi : i < V.length := by rw [HVL.out]; exact hlt
      have HVT : Hid (V.take (i + 1) = V.take i ++ [worth get (K[i]'hltK)]) := by
        show _ = _
        rw [List.take_succ_eq_append_getElem hvi]
        congr 2
        rw [HVI.out i hltK hvi]
      obtain ⟨w1, HW1⟩ := nameIt (wr.alloc (.cells #[.int .i64 K[i].kind, .int .i64 K[i].n, .int .i64 K[i].ref.at', .int .i64 K[i].ref.attr, .slice av K[i].args.length cv] 33))
      have hb1 : Below wr.heap.size wr w1 := by rw [← HW1.out]; exact (Below.refl _ _).alloc (Nat.le_refl _) _
      have X1 : Hid (w1.heap[wr.heap.size]? = some (.cells #[.int .i64 K[i].kind, .int .i64 K[i].n, .int .i64 K[i].ref.at', .int .i64 K[i].ref.attr, .slice av K[i].args.length cv] 33 (0, 0))) := by rw [← HW1.out]; exact bx_new _ _ _ rfl
      have HB1 : Hid (Below w0.heap.size w0 w1) := HB.out.trans (hb1.mono HB.out.size)
      have hih := IH.out K[i] _ w1 hms (HOK.out _ (List.getElem_mem hltK)) (HGF.out w1 HB1.out) (hkid.below hb1) (HKBIG.out _ (List.getElem_mem hltK))
      obtain ⟨kid, HKI⟩ := nameIt (K[i]'hltK)
      rw [HKI.out] at e0 e1 e2 e3 e4 hih HVT X1 HW1
      obtain ⟨q0, HQ0⟩ := nameIt kid.kind
      obtain ⟨q1, HQ1⟩ := nameIt kid.n
      obtain ⟨q2, HQ2⟩ := nameIt kid.ref.at'
      obtain ⟨q3, HQ3⟩ := nameIt kid.ref.attr
      obtain ⟨qn, HQN⟩ := nameIt kid.args.length
      obtain ⟨val, HVAL⟩ := nameIt (worth get kid)
      rw [HVAL.out] at hih HVT
      rw [HQ0.out, HQ1.out, HQ2.out, HQ3.out, HQN.out] at hih X1 HW1
      rw [HQ0.out] at e0
      rw [HQ1.out] at e1
      rw [HQ2.out] at e2
      rw [HQ3.out] at e3
      rw [HQN.out] at e4
      have HC := Lib.hid hih
      have HO1 := Lib.hid (own_keep HO.out hb1)
      obtain ⟨ar, cr, hvr, hr1, hr2⟩ := own_len HO1.out
      obtain ⟨y0, y1, y2, y3, y4⟩ := bx_cells5 X1.out
      subst hae hvr
      clear hih hkid hms hb1 hbw hvi
      go_upto_region 5 with fail
      rw [HW1.out]
      clear e0 e1 e2 e3 e4
      go_wp2_with fail
      refine HC.out.mono ?_
      rintro e w2 ⟨rfl, hb2⟩
      have HB2 : Hid (Below w0.heap.size w0 w2) := HB1.out.trans (hb2.mono HB1.out.size)
      have HO2 := Lib.hid (own_keep HO1.out hb2)
      have hle2 : w.heap.size + 1 ≤ w2.heap.size := by have := HB2.out.size; have := HS0.out; omega
      clear hb2 y0 y1 y2 y3 y4
      go_wp2_with (at_builtin; refine wp_app1at elInt rfl _ _ rfl HO2.out rfl rfl (by simp) rfl rfl (by omega) (by unfold maxLen; omega) (by omega) ?_)
      intro v3 w3 ho3 hg3 hat3
      have HO3 : Hid (w3.ownsRow (w.heap.size + 1) 3 1 v3 (i + 1) (ints (V.take (i + 1)))) := by
        show w3.ownsRow _ _ _ _ _ _
        rw [HVT.out]
        simpa [ints] using ho3
      have HB3 : Hid (Below w0.heap.size w0 w3) := HB2.out.grown hg3 HB2.out.size (fun k e => by have := (HO2.out.lt k e).1; have := HS0.out; omega)
      obtain ⟨a3, c3, rfl, -, -⟩ := own_len ho3
      clear ho3 hg3 hat3
      go_wp2_with fail
      go_roundg (kn - (i + 1))
      case measure => omega
      case rel => exact ⟨i + 1, by omega, by omega, by go_num, HO3, HB3⟩
    · have hlt' : ¬ (i : Int) < (kn : Int) := by omega
      have HO5 : Hid (wr.ownsRow (w.heap.size + 1) 3 1 u5 kn (ints V)) := by
        have h := HO.out
        rw [List.take_of_length_le (by rw [HVL.out]; omega)] at h
        have e : i = kn := by omega
        rw [e] at h
        exact h
      obtain ⟨ar, cr, hvr, hr1, hr2⟩ := own_len HO5.out
      subst hvr
      have HSL : Hid (Sl wr (.slice ar V.length cr) (ints V)) := by rw [HVL.out]; exact sl_of_own HO5.out
      have HBW : Hid (Below w.heap.size w wr) := HB0.out.trans (HB.out.mono HB0.out.size)
      have XK := Lib.hid (bx_keep X0.out HB.out)
      obtain ⟨x0, x1, x2, x3, x4⟩ := bx_cells5 XK.out
      by_cases e1 : q0 = 1
      · subst e1
        have HE : Hid (rs = gr) := by show _ = _; rw [HWE.out, comb_1]
        have HC := Lib.hid (HGC.out wr HB.out rfl)
        go_wp2_with fail
        refine HC.out.mono ?_
        rintro e w7 ⟨rfl, hb7⟩
        have HB7 := Lib.hid hb7
        clear hb7
        go_wp2_with fail
        go_ret
        exact ⟨by rw [HE.out]; rfl, HBW.out.trans (HB7.out.mono HBW.out.size)⟩
      by_cases e2 : q0 = 2
      · subst e2
        have HZ0 : Hid ((V.take 0).sum = (0 : Int)) := by show _ = _; simp
        go_wp2_with fail
        go_loopg [8, 43] kn (fun gg vs vc wq => ∃ (i : Nat) (z : Int), i ≤ kn ∧ kn - i ≤ gg ∧ vc = .int .i64 i ∧ vs = .int .i64 z ∧ wq = wr ∧ Hid ((V.take i).sum = z))
        case atStart => exact ⟨0, _, by omega, by omega, rfl, rfl, rfl, HZ0⟩
        case round =>
          clear HZ0
          obtain ⟨j, z, hj, hgj, rfl, rfl, rfl, HZ⟩ := hrel
          by_cases hjn : j < kn
          · have hjn' : (j : Int) < (kn : Int) := by omega
            have hjV : j < V.length := by rw [HVL.out]; exact hjn
            obtain ⟨bl, ol, hal, hcl⟩ := HSL.out.at hjV
            have c1 := hcl j (by rw [ints_len]; exact hjV)
            rw [ints_get] at c1
            have hv := HVM.out _ (List.getElem_mem hjV)
            have hzr := sum_range HVM.out j (by rw [HVL.out]; omega)
            rw [HZ.out] at hzr
            have HST : Hid ((V.take (j + 1)).sum = z + V[j]) := by show _ = _; rw [sum_take hjV, ← HZ.out]
            obtain ⟨u, HU⟩ := nameIt (V[j]'hjV)
            rw [HU.out] at c1 hv HST
            obtain ⟨hv0, hv1⟩ := hv
            obtain ⟨hz0, hz1⟩ := hzr
            obtain ⟨z2, HZ2⟩ := nameIt (z + u)
            have HST2 : Hid ((V.take (j + 1)).sum = z2) := by show _ = _; rw [HST.out, HZ2.out]
            have m3 : z + u = z2 := HZ2.out
            have hz20 : 0 ≤ z2 ∧ z2 ≤ 1000000000000 := by omega
            have mw : IntKind.i64.wrap (z + u) = z2 := by rw [m3]; exact IntWalk.i64_in _ (by omega)
            clear m3
            subst hal
            clear hcl
            go_wp2_with fail
            go_roundg (kn - (j + 1))
            case measure => omega
            case rel => exact ⟨j + 1, z2, by omega, by omega, by go_num, rfl, rfl, HST2⟩
          · have hjn' : ¬ (j : Int) < (kn : Int) := by omega
            have hzr := sum_range HVM.out j (by rw [HVL.out]; omega)
            rw [HZ.out] at hzr
            have HE : Hid (rs = z % 1000003) := by show _ = _; rw [HWE.out, ← HZ.out, comb_2]; rw [List.take_of_length_le (show V.length ≤ j by rw [HVL.out]; omega)]
            obtain ⟨hz0, hz1⟩ := hzr
            have m4 : z.tmod 1000003 = rs := by rw [tmod_nn hz0]; exact HE.out.symm
            have m5 : z % 1000003 = rs := HE.out.symm
            go_wp2_with fail
            go_ret
            exact ⟨rfl, HBW.out⟩
      by_cases e3 : q0 = 3
      · subst e3
        have HZ0 : Hid ((V.take 0).foldl (fun a v => a * v % 1000003) 1 = (1 : Int)) := by show _ = _; rfl
        go_wp2_with fail
        go_loopg [11, 57] kn (fun gg vs vc wq => ∃ (i : Nat) (z : Int), i ≤ kn ∧ kn - i ≤ gg ∧ vc = .int .i64 i ∧ vs = .int .i64 z ∧ wq = wr ∧ Hid ((V.take i).foldl (fun a v => a * v % 1000003) 1 = z))
        case atStart => exact ⟨0, _, by omega, by omega, rfl, rfl, rfl, HZ0⟩
        case round =>
          clear HZ0
          obtain ⟨j, z, hj, hgj, rfl, rfl, rfl, HZ⟩ := hrel
          by_cases hjn : j < kn
          · have hjn' : (j : Int) < (kn : Int) := by omega
            have hjV : j < V.length := by rw [HVL.out]; exact hjn
            obtain ⟨bl, ol, hal, hcl⟩ := HSL.out.at hjV
            have c1 := hcl j (by rw [ints_len]; exact hjV)
            rw [ints_get] at c1
            have hv := HVM.out _ (List.getElem_mem hjV)
            have hzr : inM z := by rw [← HZ.out]; exact fold_mul_inM _ _ ⟨by decide, by decide⟩ (fun q hq => HVM.out q (List.mem_of_mem_take hq))
            have HST : Hid ((V.take (j + 1)).foldl (fun a v => a * v % 1000003) 1 = z * V[j] % 1000003) := by show _ = _; rw [fold_take hjV, HZ.out]
            obtain ⟨u, HU⟩ := nameIt (V[j]'hjV)
            rw [HU.out] at c1 hv HST
            obtain ⟨hv0, hv1⟩ := hv
            obtain ⟨hz0, hz1⟩ := hzr
            obtain ⟨z2, HZ2⟩ := nameIt (z * u % 1000003)
            have HST2 : Hid ((V.take (j + 1)).foldl (fun a v => a * v % 1000003) 1 = z2) := by show _ = _; rw [HST.out, HZ2.out]
            have hp0 : 0 ≤ z * u := Int.mul_nonneg hz0 hv0
            have hp1 : z * u ≤ 1000003 * 1000003 := Int.mul_le_mul (by omega) (by omega) hv0 (by omega)
            have hz2 := emod_inM (z * u)
            rw [HZ2.out] at hz2
            obtain ⟨hz20, hz21⟩ := hz2
            have m1 : u.tmod 1000003 = u := by rw [tmod_nn hv0]; exact Int.emod_eq_of_lt hv0 hv1
            have m2 : u % 1000003 = u := Int.emod_eq_of_lt hv0 hv1
            have m3 : z * u % 1000003 = z2 := HZ2.out
            have m4 : (z * u).tmod 1000003 = z2 := by rw [tmod_nn hp0]; exact m3
            have m5 : (z2 + 1000003) % 1000003 = z2 := by rw [Int.add_emod_right]; exact Int.emod_eq_of_lt hz20 hz21
            have m6 : (z2 + 1000003).tmod 1000003 = z2 := by rw [tmod_nn (by omega)]; exact m5
            have m7 : z2 % 1000003 = z2 := Int.emod_eq_of_lt hz20 hz21
            have mw : IntKind.i64.wrap (z * u) = z * u := IntWalk.i64_in _ (by omega)
            subst hal
            clear hcl
            go_wp2_with fail
            go_roundg (kn - (j + 1))
            case measure => omega
            case rel => exact ⟨j + 1, z2, by omega, by omega, by go_num, rfl, rfl, HST2⟩
          · have hjn' : ¬ (j : Int) < (kn : Int) := by omega
            have HE : Hid (rs = z) := by show _ = _; rw [HWE.out, ← HZ.out, comb_3]; rw [List.take_of_length_le (show V.length ≤ j by rw [HVL.out]; omega)]
            go_wp2_with fail
            go_ret
            exact ⟨by rw [HE.out]; rfl, HBW.out⟩
      by_cases e4 : q0 = 4
      · subst e4
        have hk1 : 0 < V.length := by have h : 1 ≤ kn := (by simpa [okArgs] using HOA.out); rw [HVL.out]; omega
        have HHD : Hid (V[0]'hk1 = V.headD 0) := by
          show _ = _
          have h : ∀ (l : List Int) (h : 0 < l.length), l[0]'h = l.headD 0 := fun l h => by
            cases l with
            | nil => simp at h
            | cons a l => rfl
          exact h V hk1
        obtain ⟨b0, o0, ha0, hc0⟩ := HSL.out.at (k := 0) hk1
        have c0 := hc0 0 (by rw [ints_len]; exact hk1)
        rw [ints_get, HHD.out, Nat.add_zero] at c0
        have HE : Hid (rs = maxF V) := by show _ = _; rw [HWE.out, comb_4]
        have HME : Hid (maxF V = V.foldl max (V.headD 0)) := rfl
        obtain ⟨h0, HH0⟩ := nameIt (V.headD 0)
        rw [HH0.out] at c0 HME
        have hkn0 : (0 : Int) < (kn : Int) := by rw [HVL.out] at hk1; omega
        subst ha0
        clear hc0
        have HZ0 : Hid ((V.take 0).foldl max h0 = h0) := by show _ = _; rfl
        go_wp2_with fail
        go_loopg [14, 74] kn (fun gg vs vc wq => ∃ (i : Nat) (z : Int), i ≤ kn ∧ kn - i ≤ gg ∧ vc = .int .i64 i ∧ vs = .int .i64 z ∧ wq = wr ∧ Hid ((V.take i).foldl max h0 = z))
        case atStart => exact ⟨0, _, by omega, by omega, rfl, rfl, rfl, HZ0⟩
        case round =>
          clear HZ0
          obtain ⟨j, z, hj, hgj, rfl, rfl, rfl, HZ⟩ := hrel
          by_cases hjn : j < kn
          · have hjn' : (j : Int) < (kn : Int) := by omega
            have hjV : j < V.length := by rw [HVL.out]; exact hjn
            obtain ⟨bl, ol, hal, hcl⟩ := HSL.out.at hjV
            have c1 := hcl j (by rw [ints_len]; exact hjV)
            rw [ints_get] at c1
            have hv := HVM.out _ (List.getElem_mem hjV)
            have HST : Hid ((V.take (j + 1)).foldl max h0 = max z (V[j])) := by show _ = _; rw [fold_take hjV, HZ.out]
            obtain ⟨u, HU⟩ := nameIt (V[j]'hjV)
            rw [HU.out] at c1 hv HST
            obtain ⟨hv0, hv1⟩ := hv
            obtain ⟨z2, HZ2⟩ := nameIt (max z u)
            have HST2 : Hid ((V.take (j + 1)).foldl max h0 = z2) := by show _ = _; rw [HST.out, HZ2.out]
            have hmx : max z u = z2 := HZ2.out
            cases hal
            clear hcl
            go_wp2_with fail
            go_roundg (kn - (j + 1))
            case measure => omega
            case rel => exact ⟨j + 1, z2, by omega, by omega, by go_num, rfl, rfl, HST2⟩
          · have hjn' : ¬ (j : Int) < (kn : Int) := by omega
            have HEE : Hid (rs = z) := by show _ = _; rw [HE.out, HME.out, ← HZ.out]; rw [List.take_of_length_le (show V.length ≤ j by rw [HVL.out]; omega)]
            go_wp2_with fail
            go_ret
            exact ⟨by rw [HEE.out]; rfl, HBW.out⟩
      by_cases e5 : q0 = 5
      · subst e5
        have hk2 : kn = 2 := by have h := HOA.out; simpa [okArgs] using h
        obtain ⟨bl, ol, hal, hcl⟩ := HSL.out.at (k := 0) (by rw [HVL.out]; omega)
        have c0 := hcl 0 (by rw [ints_len, HVL.out]; omega)
        rw [ints_get] at c0
        have HG0 : Hid (V[0]?.getD 0 = V[0]'(by rw [HVL.out]; omega)) := by show _ = _; rw [List.getElem?_eq_getElem (by rw [HVL.out]; omega)]; rfl
        have c1 := hcl 1 (by rw [ints_len, HVL.out]; omega)
        rw [ints_get] at c1
        have HG1 : Hid (V[1]?.getD 0 = V[1]'(by rw [HVL.out]; omega)) := by show _ = _; rw [List.getElem?_eq_getElem (by rw [HVL.out]; omega)]; rfl
        obtain ⟨u0, HU0⟩ := nameIt (V[0]'(by rw [HVL.out]; omega))
        rw [HU0.out] at c0 HG0
        obtain ⟨u1, HU1⟩ := nameIt (V[1]'(by rw [HVL.out]; omega))
        rw [HU1.out] at c1 HG1
        rw [Nat.add_zero] at c0
        subst hal
        clear hcl
        have HE : Hid (rs = if u0 < u1 then 1 else 0) := by show _ = _; rw [HWE.out, comb_5, HG0.out, HG1.out]
        subst hk2
        by_cases hlt2 : u0 < u1
        · have hd2 : decide (u0 < u1) = true := by simpa using hlt2
          have HE2 : Hid (rs = 1) := by show _ = _; rw [HE.out, if_pos hlt2]
          clear hlt2
          go_upto_region 35 with fail
          go_quiet (fail)
          go_wp2_with fail
          go_ret
          exact ⟨by rw [HE2.out]; rfl, HBW.out.trans ((below_drewN _ _).mono HBW.out.size)⟩
        · have hd2 : decide (u0 < u1) = false := by simpa using hlt2
          have HE2 : Hid (rs = 0) := by show _ = _; rw [HE.out, if_neg hlt2]
          clear hlt2
          go_upto_region 35 with fail
          go_quiet (fail)
          go_wp2_with fail
          go_ret
          exact ⟨by rw [HE2.out]; rfl, HBW.out.trans ((below_drewN _ _).mono HBW.out.size)⟩
      by_cases e6 : q0 = 6
      · subst e6
        have hk3 : kn = 3 := by have h := HOA.out; simpa [okArgs] using h
        obtain ⟨bl, ol, hal, hcl⟩ := HSL.out.at (k := 0) (by rw [HVL.out]; omega)
        have c0 := hcl 0 (by rw [ints_len, HVL.out]; omega)
        rw [ints_get] at c0
        have HG0 : Hid (V[0]?.getD 0 = V[0]'(by rw [HVL.out]; omega)) := by show _ = _; rw [List.getElem?_eq_getElem (by rw [HVL.out]; omega)]; rfl
        have c1 := hcl 1 (by rw [ints_len, HVL.out]; omega)
        rw [ints_get] at c1
        have HG1 : Hid (V[1]?.getD 0 = V[1]'(by rw [HVL.out]; omega)) := by show _ = _; rw [List.getElem?_eq_getElem (by rw [HVL.out]; omega)]; rfl
        have c2 := hcl 2 (by rw [ints_len, HVL.out]; omega)
        rw [ints_get] at c2
        have HG2 : Hid (V[2]?.getD 0 = V[2]'(by rw [HVL.out]; omega)) := by show _ = _; rw [List.getElem?_eq_getElem (by rw [HVL.out]; omega)]; rfl
        obtain ⟨u0, HU0⟩ := nameIt (V[0]'(by rw [HVL.out]; omega))
        rw [HU0.out] at c0 HG0
        obtain ⟨u1, HU1⟩ := nameIt (V[1]'(by rw [HVL.out]; omega))
        rw [HU1.out] at c1 HG1
        obtain ⟨u2, HU2⟩ := nameIt (V[2]'(by rw [HVL.out]; omega))
        rw [HU2.out] at c2 HG2
        rw [Nat.add_zero] at c0
        subst hal
        clear hcl
        have HE : Hid (rs = if u0 ≠ 0 then u1 else u2) := by show _ = _; rw [HWE.out, comb_6, HG0.out, HG1.out, HG2.out]
        subst hk3
        by_cases hz3 : u0 = 0
        · subst hz3
          have HE2 : Hid (rs = u2) := by show _ = _; rw [HE.out, if_neg (by simp)]
          go_wp2_with fail
          go_ret
          exact ⟨by rw [HE2.out]; rfl, HBW.out⟩
        · have hb3 : (u0 == 0) = false := by simpa using hz3
          have hb4 : (u0 != 0) = true := by simpa using hz3
          have HE2 : Hid (rs = u1) := by show _ = _; rw [HE.out, if_pos hz3]
          clear hz3
          go_wp2_with fail
          go_ret
          exact ⟨by rw [HE2.out]; rfl, HBW.out⟩

      have e0 : q0 = 0 := by
        have h := HOA.out
        unfold okArgs at h
        by_cases e0 : q0 = 0
        · exact e0
        · rw [if_neg (by omega), if_neg (by omega), if_neg e4, if_neg e5, if_neg e6] at h
          cases h
      subst e0
      have HE : Hid (rs = q1) := by show _ = _; rw [HWE.out, comb_0]
      clear e1 e2 e3 e4 e5 e6
      go_wp2_with fail
      go_ret
      exact ⟨by rw [HE.out]; rfl, HBW.out⟩
end At
end Go.Proofs.Ythkdeljlhplkgaa
