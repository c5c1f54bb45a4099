/- The walk of the law EditScripts. -/
import Derived.Test.YtjehmleckcmilaaEdSame
import Derived.Deep.DeepCutAuto
namespace Go.Proofs.Ytjehmleckcmilaa
open Go.RowKit

set_option maxHeartbeats 600000 in
set_option maxRecDepth 100000 in
theorem lawES (va vb vo : Value) (l r : List Int) (es : List Ed) (w : World) (hl : Sl w va (ints l)) (hr : Sl w vb (ints r)) (ho : Rd AnyB w (.sl (es.map Ed.d)) [vo]) (hT : l.length + newSum es ≤ 8388608) (hE : es.length ≤ 8388608) :
    Calls Try.prog 5 #[va, vb, vo] w fun e w' => e = .returned (.bool true) ∧ Below w.heap.size w w' := by
  obtain ⟨a, ca, rfl⟩ := hl.form
  obtain ⟨b, cb, rfl⟩ := hr.form
  obtain ⟨o, co, rfl, hco1, hco2⟩ := ho.form
  rw [ints_len] at hl
  rw [ints_len] at hr
  rw [List.length_map] at ho hco1
  rw [ints_len, ints_len, List.length_map]
  obtain ⟨w0, HW0⟩ := nameIt ((w.alloc (.cells #[.int .i64 1, .int .i64 2, .int .i64 3] 3)).alloc (.cells #[.int .i64 1, .int .i64 4, .int .i64 3, .int .i64 5] 3))
  have HB0 : Hid (Below w.heap.size w w0) := by rw [← HW0.out]; exact ((Below.refl _ _).alloc (Nat.le_refl _) _).alloc (by simp) _
  have s1 : Sl w0 (.slice (some ⟨w.heap.size, 0, none⟩) 3 3) (ints [1, 2, 3]) := by
    rw [← HW0.out]
    exact (sl_lit (w := w) (v := #[.int .i64 1, .int .i64 2, .int .i64 3]) rfl (by simp [maxLen])).keep ((Below.refl _ _).alloc (Nat.le_refl _) _)
  have s2 : Sl w0 (.slice (some ⟨w.heap.size + 1, 0, none⟩) 4 4) (ints [1, 4, 3, 5]) := by
    rw [← HW0.out]
    exact sl_lit (v := #[.int .i64 1, .int .i64 4, .int .i64 3, .int .i64 5]) (by simp) (by simp [maxLen])
  have hd0 := distanceE _ _ 3 4 [1, 2, 3] [1, 4, 3, 5] w0 s1 s2
  rw [lit_dist.1, lit_dist.2] at hd0
  simp only [List.length_cons, List.length_nil] at hd0
  have HD0 := Lib.hid hd0
  have HSC := Lib.hid (fun W (hb : Below w.heap.size w W) => scriptE a b ca cb l r W (hl.keep hb) (hr.keep hb))
  have HDI := Lib.hid (fun W (hb : Below w.heap.size w W) => distanceE a b ca cb l r W (hl.keep hb) (hr.keep hb))
  have HES := Lib.hid (fun W (hb : Below w.heap.size w W) h1 h2 => editsE a b ca cb l r W (hl.keep hb) (hr.keep hb) h1 h2)
  have HCM := Lib.hid (fun W (hb : Below w.heap.size w W) h1 h2 => commonE a b ca cb l r W (hl.keep hb) (hr.keep hb) h1 h2)
  have HRU := Lib.hid (fun W (hb : Below w.heap.size w W) => editRun a ca l o co es W (hl.keep hb) (ho.below hb) hT hE)
  have HRF := Lib.hid (fun W (hb : Below w.heap.size w W) => runFault a ca l o co es W (hl.keep hb) (ho.below hb) hT hE)
  have HRN := Lib.hid (fun W (hb : Below w.heap.size w W) hok => ran a ca l o co es W (hl.keep hb) (ho.below hb) hT hE hok)
  have HOK := Lib.hid (fun (h : ¬ (200 < l.length ∨ 200 < r.length)) => big_ok h)
  have HNO := Lib.hid (fun (h : 200 < l.length ∨ 200 < r.length) => big_no h)
  have HEQ := Lib.hid (cAt_lAt (l := l) (r := r) (i := 0) (j := 0) (Nat.zero_le _) (Nat.zero_le _))
  have HLB := Lib.hid (lAt_bd (l := l) (r := r) (i := 0) (j := 0))
  have hcl := hl.len.2
  have hcr := hr.len.2
  unfold maxLen at hcl hcr hco2
  obtain ⟨hcl1, hcl2⟩ := hcl
  obtain ⟨hcr1, hcr2⟩ := hcr
  obtain ⟨n, HN⟩ := nameIt l.length
  obtain ⟨m, HM⟩ := nameIt r.length
  obtain ⟨k, HK⟩ := nameIt es.length
  rw [HN.out] at hcl1
  rw [HM.out] at hcr1
  rw [HK.out] at hco1
  rw [HN.out, HM.out] at HSC HDI HES HCM HOK HNO HEQ
  rw [HN.out] at HLB
  rw [HN.out, HK.out] at HRU HRF HRN
  rw [HN.out, HM.out, HK.out]
  obtain ⟨D, HDN⟩ := nameIt (lAt l r)
  rw [HDN.out] at HCM HEQ HLB
  obtain ⟨S, HSN⟩ := nameIt (scr l r)
  rw [HSN.out] at HES HOK
  clear hl hr ho hT hE s1 s2 hd0
  go_enter Try.func5, Try.ntmps5
  go_upto_region 1 with fail
  go_wp2_with fail
  rw [HW0.out]
  refine HD0.out.mono ?_
  rintro e w1 ⟨rfl, hb1⟩
  have HB1 : Hid (Below w.heap.size w w1) := HB0.out.trans (hb1.mono HB0.out.size)
  clear hb1
  go_wp2_with fail
  refine (HSC.out w1 HB1.out).mono ?_
  rintro e w2 ⟨vs, rfl, hrs, hb2⟩
  have HB2 : Hid (Below w.heap.size w w2) := HB1.out.trans (hb2.mono HB1.out.size)
  have HRS := Lib.hid hrs
  obtain ⟨sa, sc, rfl, hs1, hs2⟩ := hrs.form
  rw [List.length_map] at hs1
  rw [List.length_map]
  unfold maxLen at hs2
  clear hb2 hrs
  go_wp2_with fail
  refine (HDI.out w2 HB2.out).mono ?_
  rintro e w3 ⟨rfl, hb3⟩
  have HB3 : Hid (Below w.heap.size w w3) := HB2.out.trans (hb3.mono HB2.out.size)
  have HRS3 := Lib.hid (HRS.out.below hb3)
  rw [List.length_map] at HRS3
  clear hb3 HRS
  obtain ⟨ns, HNS⟩ := nameIt (scrOf l r).length
  obtain ⟨er, HER⟩ := nameIt (bigErr l r)
  obtain ⟨di, HDIS⟩ := nameIt (distOf l r)
  rw [HNS.out] at hs1 HRS3
  rw [HNS.out, HER.out, HDIS.out]
  rw [HER.out, HDIS.out] at HOK HNO
  obtain ⟨bg, HBG⟩ : ∃ bg : Bool, Hid (bg = true ↔ (200 < n ∨ 200 < m)) := ⟨decide (200 < n ∨ 200 < m), by show _ ↔ _; simp⟩
  go_upto_region 6 with fail
  go_cut [47] (fun tt wx => tt = .bool bg ∧ wx = w3)
  case first =>
    by_cases hA : 200 < n
    · have hi2 : (200 : Int) < (n : Int) := by omega
      obtain rfl : bg = true := HBG.out.2 (.inl hA)
      go_wp2_with fail
      go_meet
      exact ⟨rfl, rfl⟩
    · have hi2 : ¬ (200 : Int) < (n : Int) := by omega
      by_cases hB : 200 < m
      · have hj2 : (200 : Int) < (m : Int) := by omega
        obtain rfl : bg = true := HBG.out.2 (.inr hB)
        go_wp2_with fail
        go_meet
        exact ⟨rfl, rfl⟩
      · have hj2 : ¬ (200 : Int) < (m : Int) := by omega
        obtain rfl : bg = false := by
          cases bg with
          | false => rfl
          | true => have h := HBG.out.1 rfl; omega
        go_wp2_with fail
        go_meet
        exact ⟨rfl, rfl⟩
  case rest =>
    obtain ⟨rfl, rfl⟩ := hcut
    obtain ⟨w3, rfl⟩ : ∃ ww : World, ww = wc := ⟨_, rfl⟩
    go_upto_if 47 with fail
    go_cut [] (fun wx => Hid (Below w.heap.size w wx))
    case first =>
      cases bg with
      | true =>
        obtain ⟨q1, q2, q3⟩ := HNO.out (HBG.out.1 rfl)
        have q4 := HNS.out
        rw [q2] at q4
        simp only [List.length_nil] at q4
        subst q1 q3 q4
        clear q2
        go_wp2_with fail
        go_meet
        exact HB3
      | false =>
        have hnb : ¬ (200 < n ∨ 200 < m) := fun h => by have := HBG.out.2 h; cases this
        have hn2 : n ≤ 200 := by omega
        have hm2 : m ≤ 200 := by omega
        obtain ⟨q1, q2, q3⟩ := HOK.out hnb
        have HRS4 := HRS3.out
        rw [q2] at HRS4
        have HRS5 := Lib.hid HRS4
        have HQ3 := Lib.hid q3
        subst q1
        clear q2 q3 hnb HRS4
        go_wp2_with fail
        refine (HES.out w3 HB3.out hn2 hm2).mono ?_
        rintro e w4 ⟨v4, rfl, hr4, hb4⟩
        have HB4 : Hid (Below w.heap.size w w4) := HB3.out.trans (hb4.mono HB3.out.size)
        have HQ4 := Lib.hid hr4
        have HRS6 := Lib.hid (HRS5.out.below hb4)
        obtain ⟨a4, n4, c4, rfl⟩ : ∃ a n c, v4 = .slice a n c := by obtain ⟨a, c, e, _⟩ := hr4.form; exact ⟨_, _, _, e⟩
        have HEE := Lib.hid (eqEds S _ _ _ _ _ _ w4 HRS6.out HQ4.out)
        clear hr4 hb4
        go_wp2_with fail
        refine HEE.out.mono ?_
        rintro e w5 ⟨rfl, hb5⟩
        have HB5 : Hid (Below w.heap.size w w5) := HB4.out.trans (hb5.mono HB4.out.size)
        clear hb5
        go_wp2_with fail
        refine (HCM.out w5 HB5.out hn2 hm2).mono ?_
        rintro e w6 ⟨bt, rb, rfl, ht, hb6⟩
        have HB6 : Hid (Below w.heap.size w w6) := HB5.out.trans (hb6.mono HB5.out.size)
        have h0 := ht.hdr (k := 0) (by omega) (by omega)
        have v00 := ht.cell (k := 0) (j := 0) (by omega) (by omega) (by omega)
        have hlb := HLB.out
        have hed : di = (n : Int) + (m : Int) - 2 * D 0 0 := by
          rw [HQ3.out, HEQ.out]; simp
        obtain ⟨ri, HRI⟩ := nameIt (rb 0)
        obtain ⟨d, HD⟩ := nameIt (D 0 0)
        rw [HRI.out] at h0 v00
        rw [HD.out] at v00 hlb hed
        have hn1 : (0 : Int) < (n : Int) + 1 := by omega
        have hm1 : (0 : Int) < (m : Int) + 1 := by omega
        have t1 : IntKind.i64.wrap ((n : Int) + (m : Int)) = (n : Int) + (m : Int) := IntWalk.i64_in _ (by omega)
        have t2 : IntKind.i64.wrap (2 * d) = 2 * d := IntWalk.i64_in _ (by omega)
        have t3 : IntKind.i64.wrap ((n : Int) + (m : Int) - 2 * d) = di := by rw [hed]; exact IntWalk.i64_in _ (by omega)
        have t4 : (di != di) = false := by simp
        clear ht hb6 hed hlb
        go_wp2_with fail
        go_meet
        exact HB6
    case rest =>
      have HB7 := Lib.hid hcut.out
      obtain ⟨w7, rfl⟩ : ∃ ww : World, ww = wc := ⟨_, rfl⟩
      clear hcut HB3 HRS3
      go_wp2_with fail
      refine (HRU.out w7 HB7.out).mono ?_
      rintro e w8 ⟨v8, rfl, hs8, hb8⟩
      have HB8 : Hid (Below w.heap.size w w8) := HB7.out.trans (hb8.mono HB7.out.size)
      have HS8 := Lib.hid hs8
      obtain ⟨a8, c8, rfl⟩ := hs8.form
      rw [ints_len]
      rw [ints_len] at HS8
      have hc8 := hs8.len.2
      unfold maxLen at hc8
      obtain ⟨hc81, hc82⟩ := hc8
      clear hs8 hb8
      go_wp2_with fail
      refine (HRF.out w8 HB8.out).mono ?_
      rintro e w9 ⟨rfl, hb9⟩
      have HB9 : Hid (Below w.heap.size w w9) := HB8.out.trans (hb9.mono HB8.out.size)
      have HS9 := Lib.hid (HS8.out.keep hb9)
      clear hb9
      obtain ⟨rr, HRR⟩ := nameIt (runErr l es)
      rw [HRR.out]
      have HRB := Lib.hid (fun (h : runErr l es ≠ 0) => ranOf_bad h)
      have HRK := Lib.hid (fun (h : runErr l es = 0) => runErr_ok h)
      rw [HRR.out] at HRB HRK
      obtain ⟨ro, HRO⟩ := nameIt (ranOf l es)
      rw [HRO.out] at HRB HRK HS9 hc81
      rw [HRO.out]
      by_cases hz : rr = 0
      · obtain ⟨hok, hro⟩ := HRK.out hz
        rw [HN.out] at hok
        have HOKE := Lib.hid hok
        have HROE := Lib.hid hro
        subst hz
        clear hok hro
        obtain ⟨nro, HNRO⟩ := nameIt ro.length
        rw [HNRO.out]
        rw [HNRO.out] at HS9
        go_wp2_with fail
        refine (HRN.out w9 HB9.out HOKE.out).mono ?_
        rintro e w10 ⟨a10, c10, rfl, ho10, hb10⟩
        have HB10 : Hid (Below w.heap.size w w10) := HB9.out.trans (hb10.mono HB9.out.size)
        have HE := Lib.hid (equal _ _ _ _ w10 (HS9.out.keep hb10) (sl_of_own ho10))
        rw [← HROE.out] at HE
        rw [← HROE.out]
        simp only [beq_self_eq_true] at HE
        clear ho10 hb10
        go_wp2_with fail
        refine HE.out.mono ?_
        rintro e w11 ⟨rfl, hb11⟩
        have HB11 : Hid (Below w.heap.size w w11) := HB10.out.trans (hb11.mono HB10.out.size)
        clear hb11
        go_wp2_with fail
        go_ret
        exact ⟨rfl, HB11.out⟩
      · have hro := HRB.out hz
        have hzb : (rr != 0) = true := by simpa using hz
        have hrb : (rr == rr) = true := by simp
        rw [hro]
        clear hro hz
        simp only [List.length_nil]
        go_wp2_with fail
        go_ret
        exact ⟨rfl, HB9.out⟩
end Go.Proofs.Ytjehmleckcmilaa
