/- The walk of the law RepairAligns. -/
import Derived.Test.YtjehmleckcmilaaAlignW
import Derived.Test.YtjehmleckcmilaaAligned
import Derived.Test.YtjehmleckcmilaaRunOps
namespace Go.Proofs.Ytjehmleckcmilaa
open Go.RowKit
namespace Al
open Wg

set_option maxHeartbeats 1000000 in
set_option maxRecDepth 100000 in
theorem equalOps (l : List Op) (a a' : Option Addr) (n n' cap cap' : Nat) (w : World) (hl : Rd AnyB w (.sl (l.map Op.d)) [.slice a n cap]) (hm : Rd AnyB w (.sl (l.map Op.d)) [.slice a' n' cap']) :
    Calls Try.prog 18 #[.slice a n cap, .slice a' n' cap'] w fun e w' => e = .returned (.bool true) ∧ Below w.heap.size w w' := by
  have HL := Lib.hid hl
  have HM := Lib.hid hm
  obtain ⟨hn, hn1, hn2⟩ := hl.bounds
  obtain ⟨hn', hn1', hn2'⟩ := hm.bounds
  obtain rfl : n' = n := by rw [hn, hn']
  rw [List.length_map] at hn
  have HN := Lib.hid hn
  unfold maxLen at hn2 hn2'
  have hnb : ((n' : Int) != (n' : Int)) = false := by simp
  have heg : Try.prog.eqGuardType Try.prog.depth 33 = false := by kernel_rfl
  clear hl hm hn hn'
  go_enter Try.func18, Try.ntmps18
  go_wp2_with fail
  go_loopg [13] n' (fun gg v13 wr => ∃ i : Nat, i ≤ n' ∧ n' - i ≤ gg ∧ v13 = .int .i64 i ∧ Hid (Below w.heap.size w wr))
  case atStart => exact ⟨0, by omega, by omega, rfl, Below.refl _ _⟩
  case round =>
    obtain ⟨i, hi, hg, rfl, HB⟩ := hrel
    by_cases hlt : i < n'
    · have hlt' : (i : Int) < (n' : Int) := by omega
      have hi0 : (0 : Int) ≤ (i : Int) := by omega
      have hil : i < l.length := by rw [← HN.out]; exact hlt
      obtain ⟨b, off, hae, -, hbl, k0, k1, k2⟩ := Rd.op_at (HL.out.below HB.out) hil
      obtain ⟨b', off', hae', -, hbl', j0, j1, j2⟩ := Rd.op_at (HM.out.below HB.out) hil
      obtain ⟨q0, HQ0⟩ := nameIt (l[i]'hil).kind
      obtain ⟨q1, HQ1⟩ := nameIt (l[i]'hil).at'
      obtain ⟨q2, HQ2⟩ := nameIt (l[i]'hil).term
      rw [HQ0.out] at k0 j0
      rw [HQ1.out] at k1 j1
      rw [HQ2.out] at k2 j2
      have hne := opNe q0 q1 q2
      subst hae hae'
      go_wp2_with fail
      go_quiet (fail)
      go_wp2_with fail
      go_roundg (n' - (i + 1))
      case measure => omega
      case rel => exact ⟨i + 1, by omega, by omega, by go_num, HB.out.trans ((below_drewN _ _).mono HB.out.size)⟩
    · have hlt' : ¬ (i : Int) < (n' : Int) := by omega
      go_wp2_with fail
      go_ret
      exact ⟨rfl, HB.out⟩

theorem lit_al : alErr [1, 2] [1, 3] 5 5 7 = 0 ∧ alN [1, 2] [1, 3] 5 5 7 = 7 := by
  have h : alErr [1, 2] [1, 3] 5 5 7 = 0 := by decide
  refine ⟨h, ?_⟩
  unfold alN
  rw [if_pos h]
  simp [dAt, al]
  omega
theorem al_big {l r : List Int} {c0 c1 c2 : Int} (h : 200 < l.length ∨ 200 < r.length) : alErr l r c0 c1 c2 = 2 ∧ alN l r c0 c1 c2 = 0 ∧ alOps l r c0 c1 c2 = [] := by
  have e : alErr l r c0 c1 c2 = 2 := by simp [alErr, h]
  simp [alN, alOps, e]
theorem al_bad {l r : List Int} {c0 c1 c2 : Int} (h : ¬ (200 < l.length ∨ 200 < r.length)) (hb : [c0, c1, c2].any badC = true) : alErr l r c0 c1 c2 = 1 ∧ alN l r c0 c1 c2 = 0 ∧ alOps l r c0 c1 c2 = [] := by
  have e : alErr l r c0 c1 c2 = 1 := by unfold alErr; rw [if_neg h, hb]; rfl
  simp [alN, alOps, e]
theorem al_ok {l r : List Int} {c0 c1 c2 : Int} (h : ¬ (200 < l.length ∨ 200 < r.length)) (hb : [c0, c1, c2].any badC = false) : alErr l r c0 c1 c2 = 0 ∧ alN l r c0 c1 c2 = dAt c0 c1 c2 l r 0 0 ∧ alOps l r c0 c1 c2 = opsAt c0 c1 c2 l r 0 0 := by
  have e : alErr l r c0 c1 c2 = 0 := by unfold alErr; rw [if_neg h, hb]; rfl
  simp [alN, alOps, e]

set_option maxHeartbeats 8000000 in
set_option maxRecDepth 100000 in
theorem law (va vb : Value) (l r : List Int) (c0 c1 c2 : Int) (vo : Value) (ops : List Op) (w : World) (hl : Sl w va (ints l)) (hr : Sl w vb (ints r)) (ho : Rd AnyB w (.sl (ops.map Op.d)) [vo]) (hsz : ops.length * 24 ≤ 140737488351232) :
    Calls Try.prog 3 #[va, vb, .agg #[.int .i64 c0, .int .i64 c1, .int .i64 c2], vo] w fun e w' => e = .returned (.bool true) ∧ Below w.heap.size w w' := by
  obtain ⟨a, ca, rfl⟩ := hl.form
  obtain ⟨b, cb, rfl⟩ := hr.form
  obtain ⟨bo, co, rfl, -, -⟩ := ho.form
  rw [ints_len] at hl hr
  rw [ints_len, ints_len]
  rw [List.length_map] at ho
  rw [List.length_map]
  have HL := Lib.hid hl
  have HR := Lib.hid hr
  have hcl := hl.len.2
  have hcr := hr.len.2
  unfold maxLen at hcl hcr
  obtain ⟨hcl1, hcl2⟩ := hcl
  obtain ⟨hcr1, hcr2⟩ := hcr
  obtain ⟨w0, HW0⟩ := nameIt (w.alloc (.cells #[.int .i64 c0, .int .i64 c1, .int .i64 c2] 23))
  have X0 : Hid (w0.heap[w.heap.size]? = some (.cells #[.int .i64 c0, .int .i64 c1, .int .i64 c2] 23 (0, 0))) := by rw [← HW0.out]; exact bx_new _ _ _ rfl
  have HB0 : Hid (Below w.heap.size w w0) := by rw [← HW0.out]; exact (Below.refl _ _).alloc (Nat.le_refl _) _
  have CA := Lib.hid (fun W (hb : Below w.heap.size w W) => alignE a b ca cb l r c0 c1 c2 W (HL.out.keep hb) (HR.out.keep hb))
  have CW := Lib.hid (fun W (hb : Below w.heap.size w W) => weighE l r a ca b cb c0 c1 c2 W (HL.out.keep hb) (HR.out.keep hb))
  have CR := Lib.hid (fun W (hb : Below w.heap.size w W) => runE a ca l bo co ops W (HL.out.keep hb) (ho.below hb) hsz)
  have CP := Lib.hid (fun W (hb : Below w.heap.size w W) => perfE a ca l bo co ops W (HL.out.keep hb) (ho.below hb) hsz)
  have HBIG := Lib.hid (fun h => al_big (l := l) (r := r) (c0 := c0) (c1 := c1) (c2 := c2) h)
  have HBAD := Lib.hid (fun h h' => al_bad (l := l) (r := r) (c0 := c0) (c1 := c1) (c2 := c2) h h')
  have HOK := Lib.hid (fun h h' => al_ok (l := l) (r := r) (c0 := c0) (c1 := c1) (c2 := c2) h h')
  have COF := Lib.hid (fun (h1 : l.length ≤ 200) (h2 : r.length ≤ 200) (h : [c0, c1, c2].any badC = false) mb wb cx vb ob bm K W hE hM => ofE l r a ca b cb c0 c1 c2 mb wb cx vb ob bm h1 h2 (good_c h).1 (good_c h).2.1 (good_c h).2.2.1 (good_c h).2.2.2.1 (good_c h).2.2.2.2.1 (good_c h).2.2.2.2.2 _ 0 0 K W (Nat.lt_succ_self _) (Nat.zero_le _) (Nat.zero_le _) hE hM)
  have CAD := Lib.hid (fun (h1 : l.length ≤ 200) (h2 : r.length ≤ 200) (h : [c0, c1, c2].any badC = false) mb wb cx vb ob bm K W hE hM => alignedE a b ca cb l r c0 c1 c2 mb wb cx vb ob bm K W hE hM h1 h2 (good_c h).1 (good_c h).2.1 (good_c h).2.2.1 (good_c h).2.2.2.1 (good_c h).2.2.2.2.1 (good_c h).2.2.2.2.2)
  have CC := Lib.hid (fun W => costsE c0 c1 c2 W)
  obtain ⟨E, HE⟩ := nameIt (alErr l r c0 c1 c2)
  obtain ⟨N, HNN⟩ := nameIt (alN l r c0 c1 c2)
  obtain ⟨OPS, HOPS⟩ := nameIt (alOps l r c0 c1 c2)
  obtain ⟨RN, HRN⟩ := nameIt (run l 0 ops)
  rw [HE.out, HNN.out, HOPS.out] at HBIG HBAD HOK
  obtain ⟨bc, HBC⟩ := nameIt ([c0, c1, c2].any badC)
  rw [HBC.out] at HBAD HOK COF CAD CC
  obtain ⟨n, HN⟩ := nameIt l.length
  obtain ⟨m, HM⟩ := nameIt r.length
  obtain ⟨no, HNO⟩ := nameIt ops.length
  rw [HN.out] at hcl1
  rw [HM.out] at hcr1
  rw [HN.out, HM.out] at CA CW HBIG HBAD HOK COF CAD
  rw [HN.out, HNO.out] at CR CP
  rw [HN.out, HM.out, HNO.out]
  obtain ⟨y0, y1, y2⟩ := bx_cells3 X0.out
  clear hl hr ho hsz
  go_enter Try.func3, Try.ntmps3
  go_upto_region 1 with fail
  rw [HW0.out]
  obtain ⟨w1, HW1⟩ := nameIt ((w0.alloc (.cells #[.int .i64 1, .int .i64 2] 3)).alloc (.cells #[.int .i64 1, .int .i64 3] 3))
  have HB1 : Hid (Below w0.heap.size w0 w1) := by rw [← HW1.out]; exact ((Below.refl _ _).alloc (Nat.le_refl _) _).alloc (by simp) _
  have hlit := alignE (some ⟨w0.heap.size, 0, none⟩) (some ⟨w0.heap.size + 1, 0, none⟩) 2 2 [1, 2] [1, 3] 5 5 7 w1 (by rw [← HW1.out]; exact (sl_lit (v := #[.int .i64 1, .int .i64 2]) rfl (by simp [maxLen])).keep ((Below.refl _ _).alloc (Nat.le_refl _) _)) (by rw [← HW1.out]; exact sl_lit (v := #[.int .i64 1, .int .i64 3]) (by simp) (by simp [maxLen]))
  have HLIT := Lib.hid hlit
  clear hlit
  go_wp2_with fail
  rw [HW1.out]
  refine HLIT.out.mono ?_
  rintro e w2 ⟨v2, rfl, hr2, hb2⟩
  rw [lit_al.1, lit_al.2]
  obtain ⟨a2, c2', rfl, -, -⟩ := hr2.form
  obtain ⟨n2, HN2⟩ := nameIt ((alOps [1, 2] [1, 3] 5 5 7).map Op.d).length
  rw [HN2.out]
  have HB2 : Hid (Below w.heap.size w w2) := HB0.out.trans ((HB1.out.trans (hb2.mono HB1.out.size)).mono HB0.out.size)
  have X2 := Lib.hid (bx_keep X0.out (HB1.out.trans (hb2.mono HB1.out.size)))
  clear hr2 hb2 y0 y1 y2 HLIT
  obtain ⟨y0, y1, y2⟩ := bx_cells3 X2.out
  go_wp2_with fail
  refine (CA.out _ HB2.out).mono ?_
  rintro e w3 ⟨v3, rfl, hr3, hb3⟩
  obtain ⟨a3, c3, rfl, -, -⟩ := hr3.form
  rw [List.length_map, HOPS.out] at hr3
  rw [HE.out, HNN.out, List.length_map, HOPS.out]
  have HR3 := Lib.hid hr3
  have HB3 : Hid (Below w.heap.size w w3) := HB2.out.trans (hb3.mono HB2.out.size)
  have X3 := Lib.hid (bx_keep X2.out hb3)
  clear hr3 hb3 y0 y1 y2
  obtain ⟨y0, y1, y2⟩ := bx_cells3 X3.out
  by_cases hbig : 200 < n ∨ 200 < m
  · obtain ⟨e1, e2, e3⟩ := HBIG.out hbig
    subst e1 e2 e3
    by_cases h1 : 200 < n
    · have h1' : (200 : Int) < (n : Int) := by omega
      go_wp2_with fail
      refine (CR.out _ HB3.out).mono ?_
      rintro e wr ⟨vr, rfl, hrr, hbr⟩
      obtain ⟨ar, cr, rfl⟩ := hrr.form
      rw [ints_len] at hrr
      rw [ints_len]
      rw [HRN.out] at hrr
      rw [HRN.out]
      obtain ⟨re, HRE⟩ := nameIt (if RN.isSome then (0 : Int) else 1)
      obtain ⟨rx, HRX⟩ := nameIt (RN.getD [])
      rw [HRX.out] at hrr
      rw [HRE.out, HRX.out]
      have HRR := Lib.hid hrr
      have HBR : Hid (Below w.heap.size w wr) := HB3.out.trans (hbr.mono HB3.out.size)
      clear hrr hbr
      go_wp2_with fail
      refine (CP.out _ HBR.out).mono ?_
      rintro e wp ⟨vp, x, rfl, hpp, hpx, hbp⟩
      obtain ⟨ap, cp, rfl⟩ := hpp.form
      rw [ints_len] at hpp
      rw [ints_len]
      rw [HRN.out] at hpx
      rw [HRN.out]
      obtain ⟨rb, HRB⟩ := nameIt RN.isSome
      rw [HRB.out, HRX.out] at hpx
      rw [HRB.out] at HRE
      rw [HRB.out]
      have HRP := Lib.hid (HRR.out.keep hbp)
      have HPP := Lib.hid hpp
      have HPX := Lib.hid hpx
      have HBP : Hid (Below w.heap.size w wp) := HBR.out.trans (hbp.mono HBR.out.size)
      clear hpp hpx hbp
      cases rb with
      | false =>
        obtain rfl : re = 1 := by rw [← HRE.out]; rfl
        have hrn : RN = none := by have h := HRB.out; simpa using h
        obtain rfl : rx = [] := by rw [← HRX.out, hrn]; rfl
        clear hrn
        go_wp2_with fail
        go_ret
        exact ⟨rfl, HBP.out⟩
      | true =>
        obtain rfl : re = 0 := by rw [← HRE.out]; rfl
        obtain rfl : rx = x := HPX.out rfl
        go_wp2_with fail
        refine (equal _ _ rx rx _ HRP.out HPP.out).mono ?_
        rintro e wq ⟨rfl, hbq⟩
        rw [show (rx == rx) = true by simp]
        have HBQ : Hid (Below w.heap.size w wq) := HBP.out.trans (hbq.mono HBP.out.size)
        clear hbq
        go_wp2_with fail
        go_ret
        exact ⟨rfl, HBQ.out⟩
    · have h1' : ¬ (200 : Int) < (n : Int) := by omega
      have h2' : (200 : Int) < (m : Int) := by omega
      go_wp2_with fail
      refine (CR.out _ HB3.out).mono ?_
      rintro e wr ⟨vr, rfl, hrr, hbr⟩
      obtain ⟨ar, cr, rfl⟩ := hrr.form
      rw [ints_len] at hrr
      rw [ints_len]
      rw [HRN.out] at hrr
      rw [HRN.out]
      obtain ⟨re, HRE⟩ := nameIt (if RN.isSome then (0 : Int) else 1)
      obtain ⟨rx, HRX⟩ := nameIt (RN.getD [])
      rw [HRX.out] at hrr
      rw [HRE.out, HRX.out]
      have HRR := Lib.hid hrr
      have HBR : Hid (Below w.heap.size w wr) := HB3.out.trans (hbr.mono HB3.out.size)
      clear hrr hbr
      go_wp2_with fail
      refine (CP.out _ HBR.out).mono ?_
      rintro e wp ⟨vp, x, rfl, hpp, hpx, hbp⟩
      obtain ⟨ap, cp, rfl⟩ := hpp.form
      rw [ints_len] at hpp
      rw [ints_len]
      rw [HRN.out] at hpx
      rw [HRN.out]
      obtain ⟨rb, HRB⟩ := nameIt RN.isSome
      rw [HRB.out, HRX.out] at hpx
      rw [HRB.out] at HRE
      rw [HRB.out]
      have HRP := Lib.hid (HRR.out.keep hbp)
      have HPP := Lib.hid hpp
      have HPX := Lib.hid hpx
      have HBP : Hid (Below w.heap.size w wp) := HBR.out.trans (hbp.mono HBR.out.size)
      clear hpp hpx hbp
      cases rb with
      | false =>
        obtain rfl : re = 1 := by rw [← HRE.out]; rfl
        have hrn : RN = none := by have h := HRB.out; simpa using h
        obtain rfl : rx = [] := by rw [← HRX.out, hrn]; rfl
        clear hrn
        go_wp2_with fail
        go_ret
        exact ⟨rfl, HBP.out⟩
      | true =>
        obtain rfl : re = 0 := by rw [← HRE.out]; rfl
        obtain rfl : rx = x := HPX.out rfl
        go_wp2_with fail
        refine (equal _ _ rx rx _ HRP.out HPP.out).mono ?_
        rintro e wq ⟨rfl, hbq⟩
        rw [show (rx == rx) = true by simp]
        have HBQ : Hid (Below w.heap.size w wq) := HBP.out.trans (hbq.mono HBP.out.size)
        clear hbq
        go_wp2_with fail
        go_ret
        exact ⟨rfl, HBQ.out⟩
  · have h1' : ¬ (200 : Int) < (n : Int) := by omega
    have h2' : ¬ (200 : Int) < (m : Int) := by omega
    have hn2 : n ≤ 200 := by omega
    have hm2 : m ≤ 200 := by omega
    go_wp2_with fail
    refine (CC.out _).mono ?_
    rintro e w4 ⟨rfl, hb4⟩
    have HB4 : Hid (Below w.heap.size w w4) := HB3.out.trans (hb4.mono HB3.out.size)
    have X4 := Lib.hid (bx_keep X3.out hb4)
    have HR4 := Lib.hid (HR3.out.below hb4)
    clear hb4 y0 y1 y2
    cases bc with
    | true =>
      obtain ⟨e1, e2, e3⟩ := HBAD.out hbig rfl
      subst e1 e2 e3
      clear hbig
      go_wp2_with fail
      refine (CR.out _ HB4.out).mono ?_
      rintro e wr ⟨vr, rfl, hrr, hbr⟩
      obtain ⟨ar, cr, rfl⟩ := hrr.form
      rw [ints_len] at hrr
      rw [ints_len]
      rw [HRN.out] at hrr
      rw [HRN.out]
      obtain ⟨re, HRE⟩ := nameIt (if RN.isSome then (0 : Int) else 1)
      obtain ⟨rx, HRX⟩ := nameIt (RN.getD [])
      rw [HRX.out] at hrr
      rw [HRE.out, HRX.out]
      have HRR := Lib.hid hrr
      have HBR : Hid (Below w.heap.size w wr) := HB4.out.trans (hbr.mono HB4.out.size)
      clear hrr hbr
      go_wp2_with fail
      refine (CP.out _ HBR.out).mono ?_
      rintro e wp ⟨vp, x, rfl, hpp, hpx, hbp⟩
      obtain ⟨ap, cp, rfl⟩ := hpp.form
      rw [ints_len] at hpp
      rw [ints_len]
      rw [HRN.out] at hpx
      rw [HRN.out]
      obtain ⟨rb, HRB⟩ := nameIt RN.isSome
      rw [HRB.out, HRX.out] at hpx
      rw [HRB.out] at HRE
      rw [HRB.out]
      have HRP := Lib.hid (HRR.out.keep hbp)
      have HPP := Lib.hid hpp
      have HPX := Lib.hid hpx
      have HBP : Hid (Below w.heap.size w wp) := HBR.out.trans (hbp.mono HBR.out.size)
      clear hpp hpx hbp
      cases rb with
      | false =>
        obtain rfl : re = 1 := by rw [← HRE.out]; rfl
        have hrn : RN = none := by have h := HRB.out; simpa using h
        obtain rfl : rx = [] := by rw [← HRX.out, hrn]; rfl
        clear hrn
        go_wp2_with fail
        go_ret
        exact ⟨rfl, HBP.out⟩
      | true =>
        obtain rfl : re = 0 := by rw [← HRE.out]; rfl
        obtain rfl : rx = x := HPX.out rfl
        go_wp2_with fail
        refine (equal _ _ rx rx _ HRP.out HPP.out).mono ?_
        rintro e wq ⟨rfl, hbq⟩
        rw [show (rx == rx) = true by simp]
        have HBQ : Hid (Below w.heap.size w wq) := HBP.out.trans (hbq.mono HBP.out.size)
        clear hbq
        go_wp2_with fail
        go_ret
        exact ⟨rfl, HBQ.out⟩
    | false =>
      obtain ⟨e1, e2, e3⟩ := HOK.out hbig rfl
      subst e1 e2 e3
      obtain ⟨y0, y1, y2⟩ := bx_cells3 X4.out
      obtain ⟨N, HN0⟩ := nameIt (dAt c0 c1 c2 l r 0 0)
      obtain ⟨OPS, HOP0⟩ := nameIt (opsAt c0 c1 c2 l r 0 0)
      rw [HOP0.out] at HR4 CAD
      rw [HN0.out, HOP0.out]
      clear hbig
      go_wp2_with fail
      refine (CW.out _ HB4.out).mono ?_
      rintro e w5 ⟨mb, wb, cx, vb, ob, bm, rfl, hE5, hM5, hb5, hbm5⟩
      have HB5 : Hid (Below w.heap.size w w5) := HB4.out.trans (hb5.mono HB4.out.size)
      have hsz4 := HB4.out.size
      have hw4 : w.heap.size < w4.heap.size := (Array.getElem?_eq_some_iff.1 X4.out).1
      have X5 := Lib.hid (bx_keep X4.out hb5)
      have HR5 : Hid (Rd (fun k => k ≠ bm) w5 (.sl (OPS.map Op.d)) [.slice a3 OPS.length c3]) := (HR4.out.mono (S' := fun k => k ≠ bm) fun k _ hlt => by omega).below hb5
      have HE5 := Lib.hid hE5
      have HM5 := Lib.hid hM5
      have HC5 : Hid (Calls Try.prog 98 #[.int .i64 0, .int .i64 0, .pointer (some ⟨mb, 0, none⟩), .pointer (some ⟨wb, 0, none⟩), .pointer (some ⟨cx, 0, none⟩), .pointer (some ⟨vb, 0, none⟩), .pointer (some ⟨ob, 0, none⟩)] w5 (OfPost bm (dAt c0 c1 c2 l r) [] 0 0 w5)) := COF.out hn2 hm2 (by first | trivial | rfl) mb wb cx vb ob bm [] w5 hE5 hM5
      have eg : ∀ args w, (callFunc 98 args).run Try.prog w = .ok (.enter 98 args) w := fun _ _ => by kernel_rfl
      simp only [lbW]
      clear hE5 hM5 hb5 y0 y1 y2
      go_wp2_with fail
      refine HC5.out.mono ?_
      rintro e w6 ⟨K6, rfl, hm6, hk6, hg6⟩
      rw [HN0.out]
      have hnn : (N != N) = false := by simp
      have HE6 := Lib.hid (HE5.out.grown hg6)
      have HM6 := Lib.hid hm6
      have HB6 : Hid (Below w.heap.size w w6) := HB5.out.grown hg6 HB5.out.size (fun k e => by cases e; omega)
      have X6 := Lib.hid (bx_grown X5.out hg6 (by omega))
      have HR6 : Hid (Rd (fun k => k ≠ bm) w6 (.sl (OPS.map Op.d)) [.slice a3 OPS.length c3]) := Rd.keep (fun k hk hlt => ⟨hk, hg6.block k hlt (by simpa using hk)⟩) _ _ HR5.out
      have HC6 : Hid (Calls Try.prog 19 #[.slice a n ca, .slice b m cb, .agg #[.int .i64 c0, .int .i64 c1, .int .i64 c2], .func (.func 98) #[] #[.pointer (some ⟨mb, 0, none⟩), .pointer (some ⟨wb, 0, none⟩), .pointer (some ⟨cx, 0, none⟩), .pointer (some ⟨vb, 0, none⟩), .pointer (some ⟨ob, 0, none⟩)]] w6 (AlignedPost bm (dAt c0 c1 c2 l r) OPS w6)) := CAD.out hn2 hm2 (by first | trivial | rfl) mb wb cx vb ob bm K6 w6 HE6.out HM6.out
      obtain ⟨y0, y1, y2⟩ := bx_cells3 X6.out
      clear hm6 hk6 hg6
      go_wp2_with fail
      refine HC6.out.mono ?_
      rintro e w7 ⟨v7, K7, rfl, hr7, hm7, hg7⟩
      obtain ⟨a7, c7, rfl, -, -⟩ := hr7.form
      rw [List.length_map] at hr7 ⊢
      have HB7 : Hid (Below w.heap.size w w7) := HB6.out.grown hg7 HB6.out.size (fun k e => by cases e; omega)
      have HR7 : Hid (Rd (fun k => k ≠ bm) w7 (.sl (OPS.map Op.d)) [.slice a3 OPS.length c3]) := Rd.keep (fun k hk hlt => ⟨hk, hg7.block k hlt (by simpa using hk)⟩) _ _ HR6.out
      have HQ7 := Lib.hid (equalOps OPS a3 a7 OPS.length OPS.length c3 c7 w7 HR7.out.any hr7)
      clear hr7 hm7 hg7 y0 y1 y2
      go_wp2_with fail
      refine HQ7.out.mono ?_
      rintro e w8 ⟨rfl, hb8⟩
      have HB8 : Hid (Below w.heap.size w w8) := HB7.out.trans (hb8.mono HB7.out.size)
      clear hb8
      go_wp2_with fail
      refine (CR.out _ HB8.out).mono ?_
      rintro e wr ⟨vr, rfl, hrr, hbr⟩
      obtain ⟨ar, cr, rfl⟩ := hrr.form
      rw [ints_len] at hrr
      rw [ints_len]
      rw [HRN.out] at hrr
      rw [HRN.out]
      obtain ⟨re, HRE⟩ := nameIt (if RN.isSome then (0 : Int) else 1)
      obtain ⟨rx, HRX⟩ := nameIt (RN.getD [])
      rw [HRX.out] at hrr
      rw [HRE.out, HRX.out]
      have HRR := Lib.hid hrr
      have HBR : Hid (Below w.heap.size w wr) := HB8.out.trans (hbr.mono HB8.out.size)
      clear hrr hbr
      go_wp2_with fail
      refine (CP.out _ HBR.out).mono ?_
      rintro e wp ⟨vp, x, rfl, hpp, hpx, hbp⟩
      obtain ⟨ap, cp, rfl⟩ := hpp.form
      rw [ints_len] at hpp
      rw [ints_len]
      rw [HRN.out] at hpx
      rw [HRN.out]
      obtain ⟨rb, HRB⟩ := nameIt RN.isSome
      rw [HRB.out, HRX.out] at hpx
      rw [HRB.out] at HRE
      rw [HRB.out]
      have HRP := Lib.hid (HRR.out.keep hbp)
      have HPP := Lib.hid hpp
      have HPX := Lib.hid hpx
      have HBP : Hid (Below w.heap.size w wp) := HBR.out.trans (hbp.mono HBR.out.size)
      clear hpp hpx hbp
      cases rb with
      | false =>
        obtain rfl : re = 1 := by rw [← HRE.out]; rfl
        have hrn : RN = none := by have h := HRB.out; simpa using h
        obtain rfl : rx = [] := by rw [← HRX.out, hrn]; rfl
        clear hrn
        go_wp2_with fail
        go_ret
        exact ⟨rfl, HBP.out⟩
      | true =>
        obtain rfl : re = 0 := by rw [← HRE.out]; rfl
        obtain rfl : rx = x := HPX.out rfl
        go_wp2_with fail
        refine (equal _ _ rx rx _ HRP.out HPP.out).mono ?_
        rintro e wq ⟨rfl, hbq⟩
        rw [show (rx == rx) = true by simp]
        have HBQ : Hid (Below w.heap.size w wq) := HBP.out.trans (hbq.mono HBP.out.size)
        clear hbq
        go_wp2_with fail
        go_ret
        exact ⟨rfl, HBQ.out⟩
end Al
end Go.Proofs.Ytjehmleckcmilaa
