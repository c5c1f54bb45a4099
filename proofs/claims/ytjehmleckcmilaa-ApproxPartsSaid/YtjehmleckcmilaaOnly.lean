/- The contracts of Component.in and Component.only. -/
import Derived.Test.YtjehmleckcmilaaCompFunc
import Derived.Test.YtjehmleckcmilaaPreds
import Derived.Deep.DeepCutAuto
namespace Go.Proofs.Ytjehmleckcmilaa
open Go.RowKit

set_option maxHeartbeats 1000000 in
set_option maxRecDepth 100000 in
theorem compInE (k : Int) (a : Option Addr) (cap : Nat) (l : List Int) (st : Bool) (sn : Int) (w : World) (hl : Sl w (.slice a l.length cap) (ints l)) :
    Calls Try.prog 235 #[.agg #[.int .i64 k, .slice a l.length cap], .agg #[.bool st, .int .i64 sn]] w fun e w' => e = .returned (.bool (!st && inL l sn)) ∧ Below w.heap.size w w' := by
  obtain ⟨n, HN⟩ := nameIt l.length
  obtain ⟨w0, HW0⟩ := nameIt ((w.alloc (.cells #[.int .i64 k, .slice a n cap] 98)).alloc (.cells #[.bool st, .int .i64 sn] 88))
  have HB0 : Hid (Below w.heap.size w w0) := by rw [← HW0.out]; exact ((Below.refl _ _).alloc (Nat.le_refl _) _).alloc (by simp) _
  have X1 : Hid (w0.heap[w.heap.size]? = some (.cells #[.int .i64 k, .slice a n cap] 98 (0, 0))) := by
    rw [← HW0.out]; exact bx_keep (bx_new _ _ _ rfl) ((Below.refl _ _).alloc (Nat.le_refl _) _)
  have X2 : Hid (w0.heap[w.heap.size + 1]? = some (.cells #[.bool st, .int .i64 sn] 88 (0, 0))) := by
    rw [← HW0.out]; exact bx_new _ _ _ (by simp)
  have HC := Lib.hid (containsInt a cap l sn w0 (hl.keep HB0.out))
  rw [HN.out] at HC
  rw [HN.out]
  obtain ⟨x0, x1⟩ := bx_cells2 X1.out
  obtain ⟨y0, y1⟩ := bx_cells2 X2.out
  clear hl
  go_enter Try.func235, Try.ntmps235
  go_upto_region 1 with fail
  rw [HW0.out]
  cases st with
  | true =>
    go_wp2_with fail
    go_ret
    exact ⟨rfl, HB0.out⟩
  | false =>
    go_wp2_with fail
    refine HC.out.mono ?_
    rintro e w1 ⟨rfl, rfl⟩
    go_wp2_with fail
    go_ret
    exact ⟨rfl, HB0.out⟩

/-- a place function -/
def PlaceF (F : Nat) (p : Nat → Nat → Bool) : Prop := (∀ args w, (callFunc F args).run Try.prog w = .ok (.enter F args) w) ∧ ∀ (i n : Nat) (W : World), i < 1000 → n < 1000 → Calls Try.prog F #[.int .i64 i, .int .i64 n] W fun e w' => e = .returned (.bool (p i n)) ∧ W = w'
theorem placeLast : PlaceF 192 pLast := by
  refine ⟨fun _ _ => by kernel_rfl, fun i n W hi hn => ?_⟩
  have h1 : IntKind.i64.wrap ((n : Int) - 1) = (n : Int) - 1 := IntWalk.i64_in _ (by omega)
  have h2 : ((i : Int) == (n : Int) - 1) = pLast i n := by
    unfold pLast
    rw [Bool.eq_iff_iff]
    simp; omega
  go_enter Try.func192, Try.ntmps192
  go_wp2_with fail
  go_ret
  exact ⟨rfl, rfl⟩
theorem placeFirst : PlaceF 193 pFirst := by
  refine ⟨fun _ _ => by kernel_rfl, fun i n W hi hn => ?_⟩
  have h2 : ((i : Int) == 0) = pFirst i n := by
    unfold pFirst
    rw [Bool.eq_iff_iff]
    simp
  go_enter Try.func193, Try.ntmps193
  go_wp2_with fail
  go_ret
  exact ⟨by rw [← h2]; rfl, rfl⟩

theorem all_range_next {f : Nat → Bool} {q : Nat} : (List.range (q + 1)).all f = ((List.range q).all f && f q) := by
  rw [List.range_succ, List.all_append]; simp
theorem all_range_bad {f : Nat → Bool} {q n : Nat} (hq : q < n) (h : f q = false) : (List.range n).all f = false := by
  rw [List.all_eq_false]
  exact ⟨q, by simpa using hq, by rw [h]; decide⟩

set_option maxHeartbeats 2000000 in
set_option maxRecDepth 100000 in
theorem onlyE (g : Gram) (hg : checkG g = 0) (F : Nat) (p : Nat → Nat → Bool) (hp : PlaceF F p) (k : Int) (a : Option Addr) (cap : Nat) (l : List Int) (ar : Option Addr) (cr : Nat) (w : World) (hl : Sl w (.slice a l.length cap) (ints l)) (hr : Rd AnyB w (.sl (g.rules.map Rule.d)) [.slice ar g.rules.length cr]) :
    Calls Try.prog 191 #[.agg #[.int .i64 k, .slice a l.length cap], .agg #[.int .i64 g.terms, .int .i64 g.nons, .int .i64 g.start, .slice ar g.rules.length cr], .func (.func F) #[] #[]] w fun e w' => e = .returned (.bool (onlyB g.rules l p)) ∧ Below w.heap.size w w' := by
  obtain ⟨_, hg7, hg8⟩ := checkG_zero hg
  have HRU := Lib.hid hg8
  have hbs := hr.bounds.2
  unfold maxLen at hbs
  obtain ⟨hc1, hc2⟩ := hbs
  obtain ⟨hpe, hpc⟩ := hp
  have HPC := Lib.hid hpc
  obtain ⟨n, HN⟩ := nameIt l.length
  obtain ⟨gt, HGT⟩ := nameIt g.terms
  obtain ⟨gn, HGN⟩ := nameIt g.nons
  obtain ⟨gs, HGS⟩ := nameIt g.start
  obtain ⟨K, HK⟩ := nameIt g.rules
  obtain ⟨w0, HW0⟩ := nameIt ((w.alloc (.cells #[.int .i64 k, .slice a n cap] 98)).alloc (.cells #[.int .i64 gt, .int .i64 gn, .int .i64 gs, .slice ar K.length cr] 77))
  have HB0 : Hid (Below w.heap.size w w0) := by rw [← HW0.out]; exact ((Below.refl _ _).alloc (Nat.le_refl _) _).alloc (by simp) _
  have X1 : Hid (w0.heap[w.heap.size]? = some (.cells #[.int .i64 k, .slice a n cap] 98 (0, 0))) := by
    rw [← HW0.out]; exact bx_keep (bx_new _ _ _ rfl) ((Below.refl _ _).alloc (Nat.le_refl _) _)
  have X2 : Hid (w0.heap[w.heap.size + 1]? = some (.cells #[.int .i64 gt, .int .i64 gn, .int .i64 gs, .slice ar K.length cr] 77 (0, 0))) := by
    rw [← HW0.out]; exact bx_new _ _ _ (by simp)
  have HCI := Lib.hid (fun x W (hb : Below w0.heap.size w0 W) => containsInt a cap l x W ((hl.keep HB0.out).keep hb))
  have HIN := Lib.hid (fun st sn W (hb : Below w0.heap.size w0 W) => compInE k a cap l st sn W ((hl.keep HB0.out).keep hb))
  have HR := Lib.hid (hr.below HB0.out)
  rw [HN.out] at HCI HIN
  rw [HK.out] at HR hc1 hg7 HRU
  rw [HN.out, HGT.out, HGN.out, HGS.out, HK.out]
  have HALL : Hid (K.all (fitRule l p) = onlyB K l p) := rfl
  obtain ⟨ans, HANS⟩ := nameIt (onlyB K l p)
  rw [HANS.out] at HALL
  obtain ⟨x0, x1, x2, x3⟩ := bx_cells4 X2.out
  clear hl hr hg8 hpc
  go_enter Try.func191, Try.ntmps191
  go_upto_region 1 with fail
  rw [HW0.out]
  go_wp2_with fail
  clear x0 x1 x2 x3
  go_loopg [14] K.length (fun gg v14 wr => ∃ j : Nat, j ≤ K.length ∧ K.length - j ≤ gg ∧ v14 = .int .i64 j ∧ Hid (Below w0.heap.size w0 wr) ∧ Hid ((K.take j).all (fitRule l p) = true))
  case atStart => exact ⟨0, by omega, by omega, rfl, Below.refl _ _, Lib.hid (by simp)⟩
  case round =>
    obtain ⟨wo, rfl⟩ : ∃ wo : World, wo = wr := ⟨_, rfl⟩
    obtain ⟨j, hj, hgj, rfl, HB, HA⟩ := hrel
    by_cases hjK : j < K.length
    · have hjK' : (j : Int) < (K.length : Int) := by omega
      obtain ⟨b, off, vr, hae, -, hbl, c0, c1, hkr⟩ := (HR.out.below HB.out).rule_at hjK
      obtain ⟨av, cv, rfl, -, hcv⟩ := hkr.form
      rw [List.length_map] at c1 hkr
      have HTK : Hid (K.take (j + 1) = K.take j ++ [K[j]'hjK]) := List.take_succ_eq_append_getElem hjK
      have HMM : Hid (K[j]'hjK ∈ K) := List.getElem_mem hjK
      obtain ⟨hl0, hl1, hl2, -⟩ := HRU.out K[j] (List.getElem_mem hjK)
      obtain ⟨r, HRn⟩ := nameIt (K[j]'hjK)
      rw [HRn.out] at c0 c1 hkr HTK HMM hl0 hl1 hl2
      have HOR : Hid (fitRule l p r = (!inL l r.left || (List.range r.right.length).all (okAt l p r.right))) := rfl
      have HBAD : Hid (fitRule l p r = false → ans = false) := by
        intro h
        rw [← HALL.out, List.all_eq_false]
        exact ⟨r, HMM.out, by rw [h]; decide⟩
      have HNXT : Hid (fitRule l p r = true → (K.take (j + 1)).all (fitRule l p) = true) := by
        intro h
        rw [HTK.out, List.all_append, HA.out]
        simp [h]
      obtain ⟨lf, HLF⟩ := nameIt r.left
      obtain ⟨R, HRR⟩ := nameIt r.right
      rw [HLF.out] at c0 HOR
      rw [HRR.out] at c1 hkr HOR hl2
      obtain ⟨okr, HOKR⟩ := nameIt (fitRule l p r)
      rw [HOKR.out] at HOR HBAD HNXT
      obtain ⟨w4, HW4⟩ := nameIt (wo.alloc (.cells #[.int .i64 lf, .slice av R.length cv] 189))
      have hb4 : Below wo.heap.size wo w4 := by rw [← HW4.out]; exact (Below.refl _ _).alloc (Nat.le_refl _) _
      have X4 : Hid (w4.heap[wo.heap.size]? = some (.cells #[.int .i64 lf, .slice av R.length cv] 189 (0, 0))) := by rw [← HW4.out]; exact bx_new _ _ _ rfl
      have HB4 : Hid (Below w0.heap.size w0 w4) := HB.out.trans (hb4.mono HB.out.size)
      have HKR := Lib.hid (hkr.below hb4)
      obtain ⟨y0, y1⟩ := bx_cells2 X4.out
      obtain ⟨k0, k1⟩ := bx_cells2 (bx_keep X1.out HB4.out)
      have HCL := Lib.hid (HCI.out lf w4 HB4.out)
      obtain ⟨il, HIL⟩ := nameIt (l.any fun y => lf == y)
      have HIL2 : Hid (inL l lf = il) := HIL.out
      rw [HIL.out] at HCL
      rw [HIL2.out] at HOR
      subst hae
      clear hkr hb4
      go_upto_region 4 with fail
      rw [HW4.out]
      go_wp2_with fail
      refine HCL.out.mono ?_
      rintro e w5 ⟨rfl, rfl⟩
      cases il with
      | false =>
        have HOK : Hid (okr = true) := by show _ = _; rw [HOR.out]; rfl
        go_wp2_with fail
        go_roundg (K.length - (j + 1))
        case measure => omega
        case rel => exact ⟨j + 1, by omega, by omega, by go_num, HB4, HNXT.out HOK.out⟩
      | true =>
        go_wp2_with fail
        clear c0 c1 k0 k1 y0 y1
        go_loopg [27] R.length (fun gg v27 wr => ∃ q : Nat, q ≤ R.length ∧ R.length - q ≤ gg ∧ v27 = .int .i64 q ∧ Hid (Below w4.heap.size w4 wr) ∧ Hid ((List.range q).all (okAt l p R) = true))
        case atStart => exact ⟨0, by omega, by omega, rfl, Below.refl _ _, Lib.hid (by simp)⟩
        case round =>
          obtain ⟨q, hq, hgq, rfl, HBW, HQ⟩ := hrel
          by_cases hqR : q < R.length
          · have hqR' : (q : Int) < (R.length : Int) := by omega
            obtain ⟨b', off', hae', -, hbl', e0, e1⟩ := (HKR.out.below HBW.out).sym_at hqR
            have HAT := Lib.hid (okAt_eq (l := l) (p := p) hqR)
            obtain ⟨s, HSn⟩ := nameIt (R[q]'hqR)
            rw [HSn.out] at e0 e1 HAT
            obtain ⟨st, HST⟩ := nameIt s.term
            obtain ⟨sn, HSN⟩ := nameIt s.n
            rw [HST.out] at e0 HAT
            rw [HSN.out] at e1 HAT
            obtain ⟨w6, HW6⟩ := nameIt (wr.alloc (.cells #[.bool st, .int .i64 sn] 88))
            have hb6 : Below wr.heap.size wr w6 := by rw [← HW6.out]; exact (Below.refl _ _).alloc (Nat.le_refl _) _
            have X6 : Hid (w6.heap[wr.heap.size]? = some (.cells #[.bool st, .int .i64 sn] 88 (0, 0))) := by rw [← HW6.out]; exact bx_new _ _ _ rfl
            have HB6 : Hid (Below w4.heap.size w4 w6) := HBW.out.trans (hb6.mono HBW.out.size)
            have HB6w : Hid (Below w0.heap.size w0 w6) := HB4.out.trans (HB6.out.mono HB4.out.size)
            obtain ⟨z0, z1⟩ := bx_cells2 X6.out
            obtain ⟨k0, k1⟩ := bx_cells2 (bx_keep X1.out HB6w.out)
            have HII := Lib.hid (HIN.out st sn w6 HB6w.out)
            obtain ⟨ii, HIN2⟩ := nameIt (!st && inL l sn)
            rw [HIN2.out] at HII HAT
            subst hae'
            clear hb6
            go_upto_region 8 with fail
            rw [HW6.out]
            go_wp2_with fail
            refine HII.out.mono ?_
            rintro e w7 ⟨rfl, hb7⟩
            have HB7 : Hid (Below w4.heap.size w4 w7) := HB6.out.trans (hb7.mono HB6.out.size)
            clear hb7 z0 z1 k0 k1 e0 e1
            cases ii with
            | false =>
              have HQ1 : Hid ((List.range (q + 1)).all (okAt l p R) = true) := by show _ = _; rw [all_range_next, HQ.out, HAT.out]; rfl
              go_wp2_with fail
              go_roundg (R.length - (q + 1))
              case measure => omega
              case rel => exact ⟨q + 1, by omega, by omega, by go_num, HB7, HQ1⟩
            | true =>
              obtain ⟨y0, y1⟩ := bx_cells2 (bx_keep X4.out HB7.out)
              have HPP := Lib.hid (HPC.out q R.length w7 (by omega) (by omega))
              obtain ⟨pp, HPn⟩ := nameIt (p q R.length)
              rw [HPn.out] at HPP HAT
              go_wp2_with fail
              refine HPP.out.mono ?_
              rintro e w8 ⟨rfl, rfl⟩
              cases pp with
              | true =>
                have HQ1 : Hid ((List.range (q + 1)).all (okAt l p R) = true) := by show _ = _; rw [all_range_next, HQ.out, HAT.out]; rfl
                go_wp2_with fail
                go_roundg (R.length - (q + 1))
                case measure => omega
                case rel => exact ⟨q + 1, by omega, by omega, by go_num, HB7, HQ1⟩
              | false =>
                have HZ : Hid (ans = false) := by
                  refine HBAD.out ?_
                  rw [HOR.out, all_range_bad hqR (by rw [HAT.out]; rfl)]
                  rfl
                go_wp2_with fail
                go_ret
                have h7 := HB4.out.trans (HB7.out.mono HB4.out.size)
                exact ⟨by rw [HANS.out, HZ.out]; rfl, HB0.out.trans (h7.mono HB0.out.size)⟩
          · have hqR' : ¬ (q : Int) < (R.length : Int) := by omega
            have HOK : Hid (okr = true) := by
              obtain rfl : q = R.length := by omega
              show _ = _
              rw [HOR.out, HQ.out]; rfl
            have HBN : Hid (Below w0.heap.size w0 wr) := HB4.out.trans (HBW.out.mono HB4.out.size)
            go_wp2_with fail
            go_roundg (K.length - (j + 1))
            case measure => omega
            case rel => exact ⟨j + 1, by omega, by omega, by go_num, HBN, HNXT.out HOK.out⟩
    · have hjK' : ¬ (j : Int) < (K.length : Int) := by omega
      have HZ : Hid (ans = true) := by
        show _ = _
        rw [← HALL.out]
        have h := HA.out
        rw [List.take_of_length_le (by omega)] at h
        exact h
      go_wp2_with fail
      go_ret
      exact ⟨by rw [HANS.out, HZ.out]; rfl, HB0.out.trans (HB.out.mono HB0.out.size)⟩
end Go.Proofs.Ytjehmleckcmilaa
