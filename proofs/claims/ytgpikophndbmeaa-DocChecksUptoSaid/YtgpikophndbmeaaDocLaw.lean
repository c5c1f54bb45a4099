/- The walk of the law DocChecks. -/
import Derived.Test.YtgpikophndbmeaaDocTop
import Derived.Test.YtgpikophndbmeaaDocFault
import Derived.Deep.RegionLaw
namespace Go.Proofs.Ytgpikophndbmeaa
open Go.RowKit
namespace Dc

theorem bts_eq {s : ByteArray} {l : List UInt8} (h : BtsD s l) : s = ⟨l.toArray⟩ := by
  unfold BtsD at h
  cases s with
  | mk d => cases d with
    | mk x => simp at h; subst h; rfl
theorem bts_same {s s' : ByteArray} {l : List UInt8} (h : BtsD s l) (h' : BtsD s' l) : s = s' := by rw [bts_eq h, bts_eq h']
theorem zeroD_at {v v' : Value} {W : World} (h : Calls Try.prog 9 #[.agg #[.int .i64 zeroD.kind, .string zeroD.txt, .int .i64 zeroD.n, v], .agg #[.int .i64 zeroD.kind, .string zeroD.txt, .int .i64 zeroD.n, v']] W fun e w' => e = .returned (.bool true) ∧ Below W.heap.size W w') :
    Calls Try.prog 9 #[.agg #[.int .i64 0, .string ⟨#[]⟩, .int .i64 0, v], .agg #[.int .i64 0, .string ⟨#[]⟩, .int .i64 0, v']] W fun e w' => e = .returned (.bool true) ∧ Below W.heap.size W w' := h
set_option maxHeartbeats 4000000 in
set_option maxRecDepth 100000 in
theorem lawDC (t : Doc) (v : Value) (w : World) (hv : Rd AnyB w (.sl (t.kids.map Doc.d)) [v]) (hN : (nodes t).length ≤ 2000000) (hT : ∀ x ∈ nodes t, x.txt.size ≤ 100000000) (hF : (flatB t).length ≤ 100000000) :
    Calls Try.prog 3 #[.agg #[.int .i64 t.kind, .string t.txt, .int .i64 t.n, v]] w (fun e w' => e = .returned (.bool true) ∧ Below w.heap.size w w') := by
  obtain ⟨a, cap, rfl, -, -⟩ := hv.form
  obtain ⟨w1, HW1⟩ := nameIt (w.alloc (.cells #[.int .i64 t.kind, .string t.txt, .int .i64 t.n, .slice a (t.kids.map Doc.d).length cap] 24))
  have hb1 : Below w.heap.size w w1 := by rw [← HW1.out]; exact (Below.refl _ _).alloc (Nat.le_refl _) _
  have HX1 : Hid (w1.heap[w.heap.size]? = some (.cells #[.int .i64 t.kind, .string t.txt, .int .i64 t.n, .slice a (t.kids.map Doc.d).length cap] 24 (0, 0))) := by rw [← HW1.out]; exact bx_new _ _ _ rfl
  have HB1 := Lib.hid hb1
  have HDF := Lib.hid (fun W (h : Below w.heap.size w W) => docFaultE t _ W (hv.below h) hN hT)
  have HFL := Lib.hid (fun W (h : Below w.heap.size w W) => flatTopE t _ W (hv.below h) hN (fun _ => hF))
  have HNM := Lib.hid (fun W (h : Below w.heap.size w W) => normTopE t _ W (hv.below h) hN)
  have HCK := Lib.hid (fun W (h : Below w.heap.size w W) => checkE t _ W (hv.below h) (by omega))
  have HSI := Lib.hid (fun (h0 : docErr t = 0) W (h : Below w.heap.size w W) => simpleE (nodes t).length t _ W (Nat.le_refl _) (by have := (docErr_ok h0).1; omega) (docErr_ok h0).2 (hv.below h))
  have HSO := Lib.hid (fun W (h : Below w.heap.size w W) => solidE t _ W (hv.below h) hN)
  have HON := Lib.hid (fun (h0 : docErr t = 0) W (h : Below w.heap.size w W) => oneE t _ W (hv.below h) (docErr_ok h0).2 hF)
  obtain ⟨PST, HP⟩ := nameIt (fun (e : Ending) (w' : World) => e = .returned (.bool true) ∧ Below w.heap.size w w')
  have HFIN : Hid (∀ w', Below w.heap.size w w' → PST (.returned (.bool true)) w') := fun w' h => by rw [← HP.out]; exact ⟨rfl, h⟩
  rw [HP.out]
  obtain ⟨nd, HND⟩ := nameIt (nrm t)
  obtain ⟨de, HDE⟩ := nameIt (docErr t)
  obtain ⟨AH, HAH⟩ := nameIt ((nodes t).any isHard)
  obtain ⟨FB, HFB⟩ := nameIt (flatB t)
  unfold FlatPost at HFL
  unfold NormPost at HNM
  rw [HND.out] at HNM
  rw [HDE.out] at HDF HCK HSI HON HNM HFL
  rw [HAH.out] at HFL HSO
  rw [HFB.out] at HFL HON
  obtain ⟨q0, HQ0⟩ := nameIt t.kind
  obtain ⟨q1, HQ1⟩ := nameIt t.txt
  obtain ⟨q2, HQ2⟩ := nameIt t.n
  obtain ⟨nk, HNK⟩ := nameIt (t.kids.map Doc.d).length
  rw [HQ0.out, HQ1.out, HQ2.out, HNK.out] at HW1 HX1
  simp only [HQ0.out, HQ1.out, HQ2.out, HNK.out] at HDF HFL HNM HCK HSO
  rw [HND.out, HQ0.out, HQ1.out, HQ2.out, HNK.out] at HSI
  rw [HQ0.out, HQ1.out, HQ2.out, HNK.out] at HON
  rw [HQ0.out, HQ1.out, HQ2.out, HNK.out]
  clear hv hb1
  go_enter Try.func3, Try.ntmps3
  go_upto_region 1 with fail
  rw [HW1.out]
  go_wp2_with fail
  refine (pairE w1).mono ?_
  rintro e w2 ⟨up, rfl, hrp, hb2⟩
  have HB2 := Lib.hid hb2
  have hfp := flatTopE pairD _ w2 hrp (by rw [pairD_nodes]; omega) (fun _ => by rw [pairD_flat]; simp)
  unfold FlatPost at hfp
  rw [pairD_err, if_pos rfl, if_pos rfl, pairD_hard, if_neg (by decide), if_neg (by decide), pairD_flat] at hfp
  have HFP := Lib.hid hfp
  obtain ⟨ap, cp, rfl, -, -⟩ := hrp.form
  clear hrp hb2 hfp
  go_wp2_with fail
  refine HFP.out.mono ?_
  rintro e w3 ⟨s, rfl, hs, hb3⟩
  obtain rfl := bts_eq hs
  have HB3 := Lib.hid (HB2.out.trans (hb3.mono HB2.out.size))
  clear hs hb3 HFP
  have HTO : Hid (∀ W, Below w1.heap.size w1 W → Below w.heap.size w W) := fun W h => HB1.out.trans (h.mono HB1.out.size)
  obtain ⟨x0, x1, x2, x3⟩ := bx_cells4d (bx_keep HX1.out HB3.out)
  go_wp2_with fail
  refine (HDF.out w3 (HTO.out _ HB3.out)).mono ?_
  rintro e w4 ⟨rfl, hb4⟩
  have HB4 := Lib.hid (HB3.out.trans (hb4.mono HB3.out.size))
  clear hb4 x0 x1 x2 x3
  obtain ⟨x0, x1, x2, x3⟩ := bx_cells4d (bx_keep HX1.out HB4.out)
  go_wp2_with fail
  refine (HFL.out w4 (HTO.out _ HB4.out)).mono ?_
  rintro e w5 ⟨s, rfl, hs, hb5⟩
  have HS5 := Lib.hid hs
  have HB5 := Lib.hid (HB4.out.trans (hb5.mono HB4.out.size))
  clear hs hb5 x0 x1 x2 x3
  obtain ⟨x0, x1, x2, x3⟩ := bx_cells4d (bx_keep HX1.out HB5.out)
  obtain ⟨fe, HFE⟩ := nameIt (if de = 0 then (if AH = true then 5 else 0) else de)
  rw [HFE.out]
  go_wp2_with fail
  refine (HNM.out w5 (HTO.out _ HB5.out)).mono ?_
  rintro e w6 ⟨d, u, rfl, hd, hr6, hb6⟩
  obtain ⟨au, cu, rfl, -, -⟩ := hr6.form
  have HD := Lib.hid hd
  obtain ⟨w7, HW7⟩ := nameIt (w6.alloc (.cells #[.int .i64 d.kind, .string d.txt, .int .i64 d.n, .slice au (d.kids.map Doc.d).length cu] 24))
  have hb7 : Below w6.heap.size w6 w7 := by rw [← HW7.out]; exact (Below.refl _ _).alloc (Nat.le_refl _) _
  have HX7 : Hid (w7.heap[w6.heap.size]? = some (.cells #[.int .i64 d.kind, .string d.txt, .int .i64 d.n, .slice au (d.kids.map Doc.d).length cu] 24 (0, 0))) := by rw [← HW7.out]; exact bx_new _ _ _ rfl
  have HR7 := Lib.hid (hr6.below hb7)
  have HB7 := Lib.hid ((HB5.out.trans (hb6.mono HB5.out.size)).trans (hb7.mono (HB5.out.trans (hb6.mono HB5.out.size)).size))
  have HZ7 : Hid (w1.heap.size ≤ w6.heap.size) := (HB5.out.trans (hb6.mono HB5.out.size)).size
  obtain ⟨k0, HK0⟩ := nameIt d.kind
  obtain ⟨k1, HK1⟩ := nameIt d.txt
  obtain ⟨k2, HK2⟩ := nameIt d.n
  obtain ⟨nv, HNV⟩ := nameIt (d.kids.map Doc.d).length
  rw [HK0.out, HK1.out, HK2.out, HNV.out] at HW7 HX7
  rw [HNV.out] at HR7
  rw [HK0.out, HK1.out, HK2.out, HNV.out]
  clear hd hr6 hb6 hb7 x0 x1 x2 x3
  go_upto_region 7 with fail
  rw [HW7.out]
  obtain ⟨x0, x1, x2, x3⟩ := bx_cells4d (bx_keep HX1.out HB7.out)
  go_wp2_with fail
  refine (HCK.out w7 (HTO.out _ HB7.out)).mono ?_
  rintro e w8 ⟨rfl, hb8⟩
  have HB8 := Lib.hid (HB7.out.trans (hb8.mono HB7.out.size))
  have HX8 := Lib.hid (bx_keep HX7.out hb8)
  have HR8 := Lib.hid (HR7.out.below hb8)
  clear hb8 x0 x1 x2 x3 HX7 HR7 HW7
  obtain ⟨x0, x1, x2, x3⟩ := bx_cells4d (bx_keep HX1.out HB8.out)
  obtain ⟨y0, y1, y2, y3⟩ := bx_cells4d HX8.out
  have hde0 : (de != de) = false := by simp
  by_cases h0 : de = 0
  · have hd := HD.out
    rw [if_pos h0] at hd
    subst hd
    have HSI2 := Lib.hid (HSI.out h0)
    have HON2 := Lib.hid (HON.out h0)
    have hs5 := HS5.out
    rw [if_pos h0] at hs5 HFE
    have HSX := Lib.hid hs5
    subst h0
    unfold CatPost at HSI2
    rw [HK0.out, HK1.out, HK2.out] at HSI2
    have HSAME := Lib.hid (fun W u (hb : Below w8.heap.size w8 W) (hu : Rd AnyB W (.sl (d.kids.map Doc.d)) [u]) => sameDE _ d (Nat.le_refl _) _ u W (HR8.out.below hb) hu)
    rw [HK0.out, HK1.out, HK2.out] at HSAME
    clear HSI HON HFL HNM HCK hs5
    have hlw : w.heap.size < w8.heap.size := lt_of_cell x0
    have hlw6 : w6.heap.size < w8.heap.size := lt_of_cell y0
    go_upto_region 11 with fail
    go_region_law
      (first
        | (go_simp; go_at_call 10; (refine (HSI2.out w8.drew (HTO.out _ (HB8.out.drew))).mono ?_; rintro e w9 ⟨u, rfl, hr9, hb9⟩; have HB9 : Hid (Below w8.heap.size w8 w9) := ((Below.refl _ w8).drew.trans (hb9.mono (Nat.le_refl _))); have HR9 := Lib.hid hr9.any; obtain ⟨a9, c9, rfl, -, -⟩ := hr9.form; rw [HNV.out] at HR9; rw [HNV.out]; have y0' := (HB9.out.cell hlw6).trans y0; have y1' := (HB9.out.cell hlw6).trans y1; have y2' := (HB9.out.cell hlw6).trans y2; have y3' := (HB9.out.cell hlw6).trans y3; clear hr9 hb9))
        | (go_simp; go_at_call 9; ((with_reducible refine (HSAME.out w9 _ HB9.out HR9.out).mono ?_); rintro e w10 ⟨rfl, hb10⟩; have HB10 : Hid (Below w8.heap.size w8 w10) := HB9.out.trans (hb10.mono HB9.out.size); clear hb10)))
    all_goals
      have HC10 := Lib.hid (HB8.out.trans (HB10.out.mono HB8.out.size))
      have HX10 := bx_keep HX1.out HC10.out
      clear y0 y1 y2 y3 y0' y1' y2' y3' x0 x1 x2 x3
      obtain ⟨x0, x1, x2, x3⟩ := bx_cells4d HX10
      go_wp2_with fail
      refine (HSO.out w10 (HTO.out _ HC10.out)).mono ?_
      rintro e w11 ⟨rfl, hb11⟩
      have HC11 := Lib.hid (HC10.out.trans (hb11.mono HC10.out.size))
      clear hb11 x0 x1 x2 x3 HX10
      have hs6 := HSX.out
      cases AH with
      | true =>
        obtain rfl : fe = 5 := by rw [← HFE.out, if_pos rfl]
        rw [if_pos rfl] at hs6
        obtain rfl := bts_eq hs6
        have HE := Lib.hid (HFIN.out w11 (HTO.out _ HC11.out))
        clear hs6
        go_wp2_with fail
        first | exact HE.out | (go_ret; exact HE.out)
      | false =>
        obtain rfl : fe = 0 := by rw [← HFE.out, if_neg (by decide)]
        rw [if_neg (by decide)] at hs6
        have HX11 := bx_keep HX1.out HC11.out
        obtain ⟨x0, x1, x2, x3⟩ := bx_cells4d HX11
        have HS6 := Lib.hid hs6
        clear hs6 HX11
        go_wp2_with fail
        refine (HON2.out w11 (HTO.out _ HC11.out)).mono ?_
        rintro e w12 ⟨s', rfl, hs', hb12⟩
        obtain rfl := bts_same HS6.out hs'
        have HE := Lib.hid (HFIN.out w12 (HTO.out _ (HC11.out.trans (hb12.mono HC11.out.size))))
        clear hb12 hs' x0 x1 x2 x3
        go_wp2_with fail
        first | exact HE.out | (go_ret; exact HE.out)
  · have h0' : (de != 0) = true := by simpa using h0
    have hfe : fe = de := by rw [← HFE.out, if_neg h0]
    have hs5 := HS5.out
    rw [if_neg h0] at hs5
    obtain rfl := bts_eq hs5
    have hd := HD.out
    rw [if_neg h0] at hd
    subst hd hfe
    obtain rfl : k0 = 0 := HK0.out.symm
    obtain rfl : k1 = ⟨#[]⟩ := HK1.out.symm
    obtain rfl : k2 = 0 := HK2.out.symm
    obtain rfl : nv = 0 := HNV.out.symm
    have HSM := Lib.hid (sameDE 1 zeroD (by decide) _ _ w8 HR8.out rd_nil)
    clear hs5
    have hee : (fe == fe) = true := by simp
    have HT9 := Lib.hid (zeroD_at HSM.out)
    go_wp2_with fail
    refine HT9.out.mono ?_
    rintro e w9 ⟨rfl, hb9⟩
    have HE := Lib.hid (HFIN.out w9 (HTO.out _ (HB8.out.trans (hb9.mono HB8.out.size))))
    clear hb9
    go_wp2_with fail
    first | exact HE.out | (go_ret; exact HE.out)
end Dc
end Go.Proofs.Ytgpikophndbmeaa
