/- The walks of Lens and of the law LensTells. -/
import Derived.Test.YtjehmleckcmilaaLenWalk
import Derived.Test.YtjehmleckcmilaaEqualB
import Derived.Deep.RegionLaw
namespace Go.Proofs.Ytjehmleckcmilaa
open Go.RowKit
namespace Ln

def LensPost (g : Gram) (n : Nat) (w : World) (e : Ending) (w' : World) : Prop :=
  ∃ v, e = .returned v ∧ Sl w' v (bls (lensL g.rules n g.start)) ∧ Below w.heap.size w w'
open Classical in
theorem lens_row {K : List Rule} {n N bt B : Nat} {rb : Nat → Nat} {C : Nat → Nat → Bool} {W : World} {st : Nat} (hst : st < N) (hn : n ≤ 400) (h : Grd 78 4 B bt N (n + 1) N rb (fun i j => .bool (C i j)) W) (hC : ∀ a k, a < N → k ≤ n → (C a k = true ↔ Has K (a : Int) k)) : Sl W (.slice (some ⟨rb st, 0, none⟩) (n + 1) (n + 1)) (bls (lensL K n (st : Int))) := by
  have h1 : Brow (rb st) (n + 1) (C st) W := h.row st hst hst
  have h2 : (List.range (n + 1)).map (C st) = lensL K n (st : Int) := by
    unfold lensL
    refine List.map_congr_left fun k hk => ?_
    have h3 := hC st k hst (by simp at hk; omega)
    cases hH : C st k with
    | true => simp [h3.1 hH]
    | false =>
      have : ¬ Has K (st : Int) k := fun h => by rw [h3.2 h] at hH; cases hH
      simp [this]
  rw [← h2]
  exact sl_brow h1 (by unfold maxLen; omega)

set_option maxHeartbeats 4000000 in
set_option maxRecDepth 100000 in
theorem lensE (g : Gram) (hg : checkG g = 0) (n : Nat) (hn : n ≤ 400) (ar : Option Addr) (cr : Nat) (w : World) (hr : Rd AnyB w (.sl (g.rules.map Rule.d)) [.slice ar g.rules.length cr]) :
    Calls Try.prog 45 #[.agg #[.int .i64 g.terms, .int .i64 g.nons, .int .i64 g.start, .slice ar g.rules.length cr], .int .i64 n] w (LensPost g n w) := by
  obtain ⟨⟨hg1, hg2, hg3, hg4, hg5, hg6⟩, -, -⟩ := checkG_zero hg
  obtain ⟨w0, HW0⟩ := nameIt (w.alloc (.cells #[.int .i64 g.terms, .int .i64 g.nons, .int .i64 g.start, .slice ar g.rules.length cr] 77))
  have HB0 : Hid (Below w.heap.size w w0) := by rw [← HW0.out]; exact (Below.refl _ _).alloc (Nat.le_refl _) _
  have X1 : Hid (w0.heap[w.heap.size]? = some (.cells #[.int .i64 g.terms, .int .i64 g.nons, .int .i64 g.start, .slice ar g.rules.length cr] 77 (0, 0))) := by rw [← HW0.out]; exact bx_new _ _ _ rfl
  have HLE := Lib.hid (fun W (hb : Below w0.heap.size w0 W) => lengthsE g hg n hn ar cr W ((hr.below HB0.out).below hb))
  obtain ⟨N, HN⟩ : ∃ N : Nat, g.nons = (N : Int) := ⟨g.nons.toNat, by omega⟩
  obtain ⟨st, HST⟩ : ∃ s : Nat, g.start = (s : Int) := ⟨g.start.toNat, by omega⟩
  have hstN : st < N := by omega
  have HLP : Hid (∀ W0 e W, LenPost g n W0 e W → ∃ bt rb, e = .returned (.slice (some ⟨bt, 0, none⟩) N N) ∧ W.cell? ⟨bt, st, none⟩ = some (.slice (some ⟨rb, 0, none⟩) (n + 1) (n + 1)) ∧ Sl W (.slice (some ⟨rb, 0, none⟩) (n + 1) (n + 1)) (bls (lensL g.rules n g.start)) ∧ Below W0.heap.size W0 W) := by
    rintro W0 e W ⟨bt, rb, C, h1, h2, h3, h4⟩
    have e : g.nons.toNat = N := by omega
    rw [e] at h1 h2 h3
    refine ⟨bt, rb st, h1, h2.hdr hstN hstN, ?_, h4⟩
    rw [HST]
    exact lens_row hstN hn h2 h3
  have HFIN : Hid (∀ v W, Sl W v (bls (lensL g.rules n g.start)) → Below w.heap.size w W → LensPost g n w (.returned v) W) := fun v W h1 h2 => ⟨v, rfl, h1, h2⟩
  obtain ⟨gt, HGT⟩ := nameIt g.terms
  obtain ⟨nk, HNK⟩ := nameIt g.rules.length
  obtain ⟨LL, HLL⟩ := nameIt (bls (lensL g.rules n g.start))
  rw [HLL.out] at HLP HFIN
  rw [HGT.out, HN, HST, HNK.out] at X1 HW0 HLE
  rw [HGT.out, HN, HST, HNK.out]
  obtain ⟨x0, x1, x2, x3⟩ := bx_cells4 X1.out
  have hst0 : (0 : Int) ≤ (st : Int) := by omega
  have hst1 : (st : Int) < (N : Int) := by omega
  clear hr HN HST hg1 hg2 hg3 hg4 hg5 hg6
  go_enter Try.func45, Try.ntmps45
  go_upto_region 1 with fail
  rw [HW0.out]
  go_region_law
    (first
      | (go_simp; go_at_call 108; (with_reducible refine (HLE.out _ (by first | exact (Below.refl _ _).drew | exact Below.refl _ _)).mono ?_); intro e w7 hpost; obtain ⟨bt, rb, rfl, hcb, hsl, hb7⟩ := HLP.out _ e w7 hpost; have HB7 : Hid (Below w0.heap.size w0 w7) := (Below.refl _ _).drew.trans hb7; have HSL := Lib.hid hsl; have K0 := (HB7.out.cell (p := ⟨w.heap.size, 0, none⟩) (lt_of_cell x0)).trans x0; have K1 := (HB7.out.cell (p := ⟨w.heap.size, 0 + 1, none⟩) (lt_of_cell x1)).trans x1; have K2 := (HB7.out.cell (p := ⟨w.heap.size, 0 + 2, none⟩) (lt_of_cell x2)).trans x2; have K3 := (HB7.out.cell (p := ⟨w.heap.size, 0 + 3, none⟩) (lt_of_cell x3)).trans x3; clear hpost hb7 hsl)
      | fail)
  all_goals
    go_wp2_with fail
    go_ret
    exact HFIN.out _ _ HSL.out (HB0.out.trans (HB7.out.mono HB0.out.size))

theorem lensL_len (K : List Rule) (n : Nat) (a : Int) : (bls (lensL K n a)).length = n + 1 := by simp [bls, lensL]

set_option maxHeartbeats 4000000 in
set_option maxRecDepth 100000 in
theorem lawLT (g : Gram) (nn : Int) (u : Value) (w : World) (hr : Rd AnyB w (.sl (g.rules.map Rule.d)) [u]) :
    Calls Try.prog 6 #[.agg #[.int .i64 g.terms, .int .i64 g.nons, .int .i64 g.start, u], .int .i64 nn] w fun e w' => e = .returned (.bool true) ∧ Below w.heap.size w w' := by
  obtain ⟨ar, cr, rfl, hc1, hc2⟩ := hr.form
  rw [List.length_map] at hr hc1
  rw [List.length_map]
  obtain ⟨w0, HW0⟩ := nameIt (w.alloc (.cells #[.int .i64 g.terms, .int .i64 g.nons, .int .i64 g.start, .slice ar g.rules.length cr] 77))
  have HB0 : Hid (Below w.heap.size w w0) := by rw [← HW0.out]; exact (Below.refl _ _).alloc (Nat.le_refl _) _
  have X1 : Hid (w0.heap[w.heap.size]? = some (.cells #[.int .i64 g.terms, .int .i64 g.nons, .int .i64 g.start, .slice ar g.rules.length cr] 77 (0, 0))) := by rw [← HW0.out]; exact bx_new _ _ _ rfl
  have HSE := Lib.hid (fun W (hb : Below w0.heap.size w0 W) => setE g nn ar cr W ((hr.below HB0.out).below hb))
  have HRF := Lib.hid (fun W (hb : Below w0.heap.size w0 W) => ruleFault g ar cr W ((hr.below HB0.out).below hb))
  have HLE := Lib.hid (fun (hg : checkG g = 0) (n : Nat) (hn : n ≤ 400) W (hb : Below w0.heap.size w0 W) => lensE g hg n hn ar cr W ((hr.below HB0.out).below hb))
  have HSC : Hid (setErr g nn = if checkG g ≠ 0 then checkG g else if nn < 0 ∨ 200 < nn then 1 else 0) := rfl
  have HSL : Hid (∀ v W, setErr g nn ≠ 0 → Sl W v (bls (setOf g nn)) → ∃ a c, v = .slice a 0 c) := by
    intro v W h1 h2
    unfold setOf at h2
    rw [if_neg h1] at h2
    exact h2.form
  have HSL2 : Hid (∀ v W (n : Nat), nn = (n : Int) → setErr g nn = 0 → Sl W v (bls (setOf g nn)) → Sl W v (bls (lensL g.rules n g.start))) := by
    intro v W n hn h1 h2
    unfold setOf at h2
    rw [if_pos h1, hn] at h2
    exact h2
  have HPL := Lib.hid plE
  have HPS := Lib.hid (fun (v : Value) W (h : Rd AnyB W (.sl (plG.rules.map Rule.d)) [v]) => (by
    obtain ⟨a, c, rfl, _⟩ := h.form
    rw [List.length_map] at h
    exact setE plG 1 a c W h : Calls Try.prog 41 #[.agg #[.int .i64 plG.terms, .int .i64 plG.nons, .int .i64 plG.start, v], .int .i64 1] W (SetPost plG 1 W)))
  obtain ⟨gt, HGT⟩ := nameIt g.terms
  obtain ⟨gn, HGN⟩ := nameIt g.nons
  obtain ⟨gs, HGS⟩ := nameIt g.start
  obtain ⟨K, HK⟩ := nameIt g.rules
  obtain ⟨ck, HC⟩ := nameIt (checkG g)
  obtain ⟨se, HSR⟩ := nameIt (setErr g nn)
  have HSP : Hid (∀ W0 e W, SetPost g nn W0 e W → ∃ v, e = .returned (.tuple #[v, .int .i64 se]) ∧ Sl W v (bls (setOf g nn)) ∧ Below W0.heap.size W0 W) := by
    rintro W0 e W ⟨v, h1, h2, h3⟩
    rw [HSR.out] at h1
    exact ⟨v, h1, h2, h3⟩
  have HLP : Hid (∀ n W0 e W, LensPost g n W0 e W → ∃ v, e = .returned v ∧ Sl W v (bls (lensL K n gs)) ∧ Below W0.heap.size W0 W) := by
    rintro n W0 e W ⟨v, h1, h2, h3⟩
    rw [HK.out, HGS.out] at h2
    exact ⟨v, h1, h2, h3⟩
  rw [HGT.out, HGN.out, HGS.out, HK.out] at X1 HW0 HSE HRF HLE
  rw [HC.out] at HRF HLE HSC
  rw [HSR.out] at HSC HSL HSL2
  rw [HK.out, HGS.out] at HSL2
  rw [HGT.out, HGN.out, HGS.out, HK.out]
  clear hr hc1 hc2
  go_enter Try.func6, Try.ntmps6
  go_upto_region 1 with fail
  rw [HW0.out]
  go_wp2_with fail
  refine (HPL.out w0).mono ?_
  rintro e w1 ⟨v1, rfl, hv1, hb1⟩
  have HV1 := Lib.hid hv1
  have HB1 := Lib.hid hb1
  obtain ⟨a1, n1, c1, rfl⟩ : ∃ x y z, v1 = Value.slice x y z := by obtain ⟨x, z, e, _⟩ := hv1.form; exact ⟨_, _, _, e⟩
  clear hv1 hb1
  go_wp2_with fail
  refine (HPS.out _ w1 HV1.out).mono ?_
  rintro e w2 ⟨v2, rfl, hv2, hb2⟩
  have HB2 : Hid (Below w0.heap.size w0 w2) := HB1.out.trans (hb2.mono HB1.out.size)
  have hs2 : setErr plG 1 = 0 := by unfold setErr; rw [plG_ok]; decide
  have hs3 : setOf plG 1 = [false, true] := by unfold setOf; rw [if_pos hs2]; exact plain_lens
  rw [hs3] at hv2
  rw [hs2]
  have HV2 := Lib.hid hv2
  obtain ⟨a2, c2, rfl⟩ := hv2.form
  simp only [bls, List.map_cons, List.map_nil, List.length_cons, List.length_nil]
  have hw3 := (Below.refl w2.heap.size w2).alloc (Nat.le_refl _) (.cells #[.bool false, .bool true] 4)
  have HE3 := Lib.hid (equalB [false, true] _ _ (w2.alloc (.cells #[.bool false, .bool true] 4)) (HV2.out.keep hw3) (sl_of_own (B := 0) (own_lit (w := w2) (e := 4) (g := w2.heap.size) (n := 2) (news := #[.bool false, .bool true]) rfl (Nat.zero_le _) rfl (by simp [maxLen]))))
  clear hs2 hs3 hv2 hb2
  go_wp2_with fail
  refine HE3.out.mono ?_
  rintro e w3 ⟨rfl, hb3⟩
  have HB3 : Hid (Below w0.heap.size w0 w3) := (HB2.out.trans (hw3.mono HB2.out.size)).trans (hb3.mono (Nat.le_trans HB2.out.size hw3.size))
  clear hb3 hw3 HE3
  obtain ⟨x0, x1, x2, x3⟩ := bx_cells4 (bx_keep X1.out HB3.out)
  go_wp2_with fail
  refine (HSE.out w3 HB3.out).mono ?_
  intro e w4 hpost
  obtain ⟨v4, rfl, hv4, hb4⟩ := HSP.out w3 e w4 hpost
  have HB4 : Hid (Below w0.heap.size w0 w4) := HB3.out.trans (hb4.mono HB3.out.size)
  have HV4 := Lib.hid hv4
  obtain ⟨a4, n4, c4, rfl⟩ : ∃ x y z, v4 = Value.slice x y z := by obtain ⟨x, z, e⟩ := hv4.form; exact ⟨_, _, _, e⟩
  clear hpost hv4 hb4 x0 x1 x2 x3
  obtain ⟨x0, x1, x2, x3⟩ := bx_cells4 (bx_keep X1.out HB4.out)
  go_wp2_with fail
  refine (HRF.out w4 HB4.out).mono ?_
  rintro e w5 ⟨rfl, hb5⟩
  have HB5 : Hid (Below w0.heap.size w0 w5) := HB4.out.trans (hb5.mono HB4.out.size)
  have HV5 := Lib.hid (HV4.out.keep hb5)
  clear hb5 x0 x1 x2 x3
  obtain ⟨x0, x1, x2, x3⟩ := bx_cells4 (bx_keep X1.out HB5.out)
  have hse := HSC.out
  by_cases hz : ck = 0
  · have hzb : (ck == 0) = true := by simpa using hz
    rw [if_neg (by simp [hz])] at hse
    by_cases hbad : nn < 0 ∨ 200 < nn
    · rw [if_pos hbad] at hse
      obtain ⟨a6, c6, he6⟩ := HSL.out _ _ (by rw [hse]; decide) HV5.out
      cases he6
      subst hse
      by_cases hn0 : nn < 0
      · have hn0' : decide (nn < 0) = true := by simpa using hn0
        clear hbad hn0 hz
        go_wp2_with fail
        go_ret
        exact ⟨rfl, HB0.out.trans (HB5.out.mono HB0.out.size)⟩
      · have hn0' : decide (nn < 0) = false := by simpa using hn0
        have hn1' : decide (200 < nn) = true := by simp; omega
        clear hbad hn0 hz
        go_wp2_with fail
        go_ret
        exact ⟨rfl, HB0.out.trans (HB5.out.mono HB0.out.size)⟩
    · rw [if_neg hbad] at hse
      obtain ⟨n, hnn⟩ : ∃ n : Nat, nn = (n : Int) := ⟨nn.toNat, by omega⟩
      have HV6 := Lib.hid (HSL2.out _ _ n hnn hse HV5.out)
      have hn0' : decide (nn < 0) = false := by simp; omega
      have hn1' : decide (200 < nn) = false := by simp; omega
      have HL5 := Lib.hid (HLE.out hz n (by omega) w5 HB5.out)
      subst hnn hse
      have hzb2 : (ck != 0) = false := by simpa using hz
      clear hbad hz
      go_wp2_with fail
      refine HL5.out.mono ?_
      intro e w6 hpost
      obtain ⟨v6, rfl, hv6, hb6⟩ := HLP.out n w5 e w6 hpost
      have HB6 : Hid (Below w0.heap.size w0 w6) := HB5.out.trans (hb6.mono HB5.out.size)
      have HEQ := Lib.hid (equalB _ _ _ w6 (HV6.out.keep hb6) hv6)
      obtain ⟨a6, n6, c6, rfl⟩ : ∃ x y z, v6 = Value.slice x y z := by obtain ⟨x, z, e⟩ := hv6.form; exact ⟨_, _, _, e⟩
      clear hpost hv6 hb6 x0 x1 x2 x3
      go_wp2_with fail
      refine HEQ.out.mono ?_
      rintro e w7 ⟨rfl, hb7⟩
      have HB7 : Hid (Below w0.heap.size w0 w7) := HB6.out.trans (hb7.mono HB6.out.size)
      clear hb7
      go_wp2_with fail
      go_ret
      exact ⟨rfl, HB0.out.trans (HB7.out.mono HB0.out.size)⟩
  · have hzb : (ck == 0) = false := by simpa using hz
    have hzb2 : (ck != 0) = true := by simpa using hz
    rw [if_pos hz] at hse
    obtain ⟨a6, c6, he6⟩ := HSL.out _ _ (by rw [hse]; exact hz) HV5.out
    cases he6
    subst hse
    have hck : (se == se) = true := by simp
    clear hz
    go_wp2_with fail
    go_ret
    exact ⟨rfl, HB0.out.trans (HB5.out.mono HB0.out.size)⟩
end Ln
end Go.Proofs.Ytjehmleckcmilaa
