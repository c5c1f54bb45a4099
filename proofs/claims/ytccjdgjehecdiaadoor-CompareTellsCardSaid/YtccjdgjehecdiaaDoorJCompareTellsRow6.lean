/- For every input the law CompareTells returns true, and its arguments read afterwards as before. No condition. -/
import Derived.Test.YtccjdgjehecdiaaDoorJCompareTellsRow4
import Derived.Test.YtccjdgjehecdiaaDoorJCompareTellsRow5
import Derived.Deep.RegionHeld3
import Derived.Deep.CutBlock
import Derived.Test.YtccjdgjehecdiaaDoorRows
import Derived.Test.YtccjdgjehecdiaaDoorJCompareTellsRow1
import Derived.ChangeArms
import Derived.ChangeSame
import Derived.SizedLaws
import Derived.Deep.Slices
import Derived.Test.YtccjdgjehecdiaaDoorJCompareTellsRow2
import Derived.Lib.SmallJoins
import Derived.OpenShut
import Derived.ChangeOld
import Derived.Carry
import Derived.JoinedCond
import Derived.Test.YtccjdgjehecdiaaDoorCards
import Derived.Test.YtccjdgjehecdiaaDoorTie
import Derived.WalkKit
import Derived.ProofKit
import Derived.Deep.DeepHandedRow
import Derived.Lib.LaidTab
namespace Go.Proofs.YtccjdgjehecdiaaDoor
open Go.RowKit
namespace Lg
open Tx

def emG : Gram := ⟨2, 1, 0, []⟩
theorem lang_pl0 : langB plG [] = false := by
  rw [Bool.eq_false_iff, Ne, langB_iff]
  rintro ⟨h, hs⟩
  cases h with
  | zero => exact hs
  | succ h =>
    obtain ⟨r, h1, h2, h3⟩ := hs
    simp [plG] at h1
    rcases h1 with rfl | rfl
    · obtain ⟨a, b, e, e1, e2⟩ := h3
      simp [LS] at e1
      subst e1
      simp at e
    · obtain ⟨a, b, e, e1, e2⟩ := h3
      simp [LS] at e1
      subst e1
      simp at e
theorem lang_pl1 : langB plG [0] = true := by
  rw [langB_iff]
  refine ⟨1, ⟨0, [⟨true, 0⟩]⟩, by simp [plG], rfl, [0], [], rfl, by simp [LS], rfl⟩
theorem lang_em (u : List Int) : langB emG u = false := by
  rw [Bool.eq_false_iff, Ne, langB_iff]
  rintro ⟨h, hs⟩
  cases h with
  | zero => exact hs
  | succ h =>
    obtain ⟨r, h1, h2, h3⟩ := hs
    simp [emG] at h1
theorem lst_pl : lstF plG emG (every 2 2) = some ([0], true) := by
  have e : every 2 2 = [] :: [0] :: (every 2 2).drop 2 := by decide
  rw [e]
  unfold lstF
  rw [if_pos (by rw [lang_pl0, lang_em])]
  unfold lstF
  rw [if_neg (by rw [lang_pl1, lang_em]; decide), lang_pl1]
theorem cmp_pl : cmpErr plG emG 2 = 0 := by decide
theorem leastPre (v : Value) (w : World) (hv : Rd AnyB w (.sl (plG.rules.map Rule.d)) [v]) (hT : TabG w) :
    Calls Tryd.prog 4 #[.agg #[.int .i64 2, .int .i64 1, .int .i64 0, v], .agg #[.int .i64 2, .int .i64 1, .int .i64 0, .slice none 0 0], .int .i64 2] w fun e w' => ∃ a c, e = .returned (.tuple #[.slice a 1 c, .int .i64 1, .int .i64 0]) ∧ Sl w' (.slice a 1 c) (ints [0]) ∧ Below w.heap.size w w' := by
  obtain ⟨a, c, rfl, _⟩ := hv.form
  rw [List.length_map] at hv
  refine (leastE plG emG 2 a c none 0 w hv ⟨none, 0, [], rfl, by simp [emG], by simp [maxLen], fun _ => rfl, fun i hi => by simp at hi, rfl⟩ hT).mono ?_
  rintro e w' ⟨a, l, c, s, er, rfl, -, h2, h3⟩
  have h := h2 cmp_pl
  unfold LeastOk at h
  rw [show every plG.terms.toNat (2 : Int).toNat = every 2 2 from rfl, lst_pl] at h
  obtain ⟨rfl, rfl, h4⟩ := h
  obtain ⟨a', c', e⟩ := h4.form
  cases e
  exact ⟨a, c, rfl, h4, h3⟩
set_option maxHeartbeats 8000000 in
set_option maxRecDepth 100000 in
theorem lawCT (g h : Gram) (n : Int) (u0 u1 : Value) (w : World) (hr : Rd AnyB w (.sl (g.rules.map Rule.d)) [u0]) (hq : Rd AnyB w (.sl (h.rules.map Rule.d)) [u1]) (hT : TabG w) :
    Calls Tryd.prog 3 #[.agg #[.int .i64 g.terms, .int .i64 g.nons, .int .i64 g.start, u0], .agg #[.int .i64 h.terms, .int .i64 h.nons, .int .i64 h.start, u1], .int .i64 n] w fun e w' => e = .returned (.bool true) ∧ Below w.heap.size w w' := by
  obtain ⟨ra, rcap, rfl, hc1, hc2⟩ := hr.form
  obtain ⟨qa, qcap, rfl, hd1, hd2⟩ := hq.form
  rw [List.length_map] at hr hc1 hq hd1
  rw [List.length_map, List.length_map]
  obtain ⟨w0, HW0⟩ := nameIt (w.alloc (.cells #[.int .i64 g.terms, .int .i64 g.nons, .int .i64 g.start, .slice ra g.rules.length rcap] 24))
  have hb0 : Below w.heap.size w w0 := by rw [← HW0.out]; exact (Below.refl _ _).alloc (Nat.le_refl _) _
  have X0 : w0.heap[w.heap.size]? = some (.cells #[.int .i64 g.terms, .int .i64 g.nons, .int .i64 g.start, .slice ra g.rules.length rcap] 24 (0, 0)) := by rw [← HW0.out]; exact bx_new _ _ _ rfl
  obtain ⟨w1, HW1⟩ := nameIt (w0.alloc (.cells #[.int .i64 h.terms, .int .i64 h.nons, .int .i64 h.start, .slice qa h.rules.length qcap] 24))
  have hb1 : Below w0.heap.size w0 w1 := by rw [← HW1.out]; exact (Below.refl _ _).alloc (Nat.le_refl _) _
  have HX0 : Hid (w1.heap[w.heap.size]? = some (.cells #[.int .i64 g.terms, .int .i64 g.nons, .int .i64 g.start, .slice ra g.rules.length rcap] 24 (0, 0))) := bx_keep X0 hb1
  have HX1 : Hid (w1.heap[w0.heap.size]? = some (.cells #[.int .i64 h.terms, .int .i64 h.nons, .int .i64 h.start, .slice qa h.rules.length qcap] 24 (0, 0))) := by rw [← HW1.out]; exact bx_new _ _ _ rfl
  have HB01 : Hid (Below w.heap.size w w1) := hb0.trans (hb1.mono hb0.size)
  have HR1 := Lib.hid (hr.below HB01.out)
  have HQ1 := Lib.hid (hq.below HB01.out)
  have HT1 := Lib.hid (hT.keep HB01.out)
  have HPL := Lib.hid plE
  have HPR := Lib.hid leastPre
  have HLE : Hid (∀ W, Below w1.heap.size w1 W → Calls Tryd.prog 4 #[.agg #[.int .i64 g.terms, .int .i64 g.nons, .int .i64 g.start, .slice ra g.rules.length rcap], .agg #[.int .i64 h.terms, .int .i64 h.nons, .int .i64 h.start, .slice qa h.rules.length qcap], .int .i64 n] W (LeastPost g h n W)) := fun W hb => leastE g h n ra rcap qa qcap W (HR1.out.below hb) (HQ1.out.below hb) (HT1.out.keep hb)
  have HFG : Hid (∀ W, Below w1.heap.size w1 W → Calls Tryd.prog 7 #[.agg #[.int .i64 g.terms, .int .i64 g.nons, .int .i64 g.start, .slice ra g.rules.length rcap]] W fun e w' => e = .returned (.int .i64 (checkG g)) ∧ Below W.heap.size W w') := fun W hb => ruleFault g ra rcap W (HR1.out.below hb)
  have HFH : Hid (∀ W, Below w1.heap.size w1 W → Calls Tryd.prog 7 #[.agg #[.int .i64 h.terms, .int .i64 h.nons, .int .i64 h.start, .slice qa h.rules.length qcap]] W fun e w' => e = .returned (.int .i64 (checkG h)) ∧ Below W.heap.size W w') := fun W hb => ruleFault h qa qcap W (HQ1.out.below hb)
  have HWG : Hid (checkG g = 0 → ∀ (m : Nat) W, m ≤ 12 → Below w1.heap.size w1 W → Calls Tryd.prog 8 #[.agg #[.int .i64 g.terms, .int .i64 g.nons, .int .i64 g.start, .slice ra g.rules.length rcap], .int .i64 (m : Int)] W (WsPost g m W)) := fun hck m W hm hb => wordsE g hck m hm ra rcap W (HR1.out.below hb)
  have HWH : Hid (checkG h = 0 → ∀ (m : Nat) W, m ≤ 12 → Below w1.heap.size w1 W → Calls Tryd.prog 8 #[.agg #[.int .i64 h.terms, .int .i64 h.nons, .int .i64 h.start, .slice qa h.rules.length qcap], .int .i64 (m : Int)] W (WsPost h m W)) := fun hck m W hm hb => wordsE h hck m hm qa qcap W (HQ1.out.below hb)
  obtain ⟨PST, HP⟩ := nameIt (fun (e : Ending) (w' : World) => e = .returned (.bool true) ∧ Below w.heap.size w w')
  have HFIN : Hid (∀ w', Below w1.heap.size w1 w' → PST (.returned (.bool true)) w') := by
    intro w' h1; rw [← HP.out]; exact ⟨rfl, HB01.out.trans (h1.mono HB01.out.size)⟩
  rw [HP.out]
  clear HP
  have HTM : Hid (checkG g = 0 → 1 ≤ g.terms ∧ g.terms ≤ 8) := fun h1 => ⟨(checkG_zero h1).1.1, (checkG_zero h1).1.2.1⟩
  have HE1 : Hid (checkG g ≠ 0 → cmpErr g h n = checkG g) := fun h1 => by unfold cmpErr; rw [if_pos h1]
  have HE2 : Hid (checkG g = 0 → checkG h ≠ 0 → cmpErr g h n = checkG h) := fun h1 h2 => by unfold cmpErr; rw [if_neg (by simp [h1]), if_pos h2]
  have HE3 : Hid (checkG g = 0 → checkG h = 0 → (g.terms ≠ h.terms ∨ n < 0 ∨ 12 < n) → cmpErr g h n = 1) := fun h1 h2 h3 => by unfold cmpErr; rw [if_neg (by simp [h1]), if_neg (by simp [h2]), if_pos h3]
  have HE4 : Hid (checkG g = 0 → checkG h = 0 → g.terms = h.terms → 0 ≤ n → n ≤ 12 → 500 < geo g.terms.toNat (n.toNat + 1) → cmpErr g h n = 2) := fun h1 h2 h3 h4 h5 h6 => by
    unfold cmpErr
    rw [if_neg (by simp [h1]), if_neg (by simp [h2]), if_neg (by rintro (h | h | h); exact h h3; omega; omega), if_pos h6]
  have HE5 : Hid (checkG g = 0 → checkG h = 0 → g.terms = h.terms → 0 ≤ n → n ≤ 12 → ¬ 500 < geo g.terms.toNat (n.toNat + 1) → cmpErr g h n = 0) := fun h1 h2 h3 h4 h5 h6 => by
    unfold cmpErr
    rw [if_neg (by simp [h1]), if_neg (by simp [h2]), if_neg (by rintro (h | h | h); exact h h3; omega; omega), if_neg h6]
  obtain ⟨ER, HER⟩ := nameIt (cmpErr g h n)
  have HLP : Hid (∀ W e W', LeastPost g h n W e W' → ∃ a l c s er, e = .returned (.tuple #[.slice a l c, .int .i64 s, .int .i64 er]) ∧ Hid ((ER ≠ 0 → (Value.slice a l c) = .slice none 0 0 ∧ s = 0 ∧ er = ER) ∧ (ER = 0 → LeastOk g h g.terms.toNat n.toNat (.slice a l c) s er W')) ∧ Below W.heap.size W W') := by
    rw [← HER.out]
    rintro W e W' ⟨a, l, c, s, er, h1, h2, h3, h4⟩
    exact ⟨a, l, c, s, er, h1, ⟨h2, h3⟩, h4⟩
  rw [HER.out] at HE1 HE2 HE3 HE4 HE5
  have hgb : w.heap.size < w1.heap.size := lt_of_cell (bx_cells4 HX0.out).1
  have hhb : w0.heap.size < w1.heap.size := lt_of_cell (bx_cells4 HX1.out).1
  obtain ⟨CG, HCGN⟩ := nameIt (checkG g)
  obtain ⟨CH, HCHN⟩ := nameIt (checkG h)
  rw [HCGN.out] at HE1 HE2 HE3 HE4 HE5 HTM HWG
  simp only [HCGN.out] at HFG
  rw [HCHN.out] at HE2 HE3 HE4 HE5 HWH
  simp only [HCHN.out] at HFH
  obtain ⟨gt, HGT⟩ := nameIt g.terms
  obtain ⟨gn, HGN⟩ := nameIt g.nons
  obtain ⟨gs, HGS⟩ := nameIt g.start
  obtain ⟨rl, HRL⟩ := nameIt g.rules.length
  obtain ⟨ht, HHT⟩ := nameIt h.terms
  obtain ⟨hn, HHN⟩ := nameIt h.nons
  obtain ⟨hs, HHS⟩ := nameIt h.start
  obtain ⟨ql, HQL⟩ := nameIt h.rules.length
  rw [HGT.out, HGN.out, HGS.out, HRL.out] at HW0 HX0
  rw [HHT.out, HHN.out, HHS.out, HQL.out] at HW1 HX1
  simp only [HGT.out, HGN.out, HGS.out, HRL.out, HHT.out, HHN.out, HHS.out, HQL.out] at HLE HFG HFH HWG HWH
  rw [HGT.out] at HTM HE3 HE4 HE5
  simp only [HGT.out] at HLP
  rw [HHT.out] at HE3 HE4 HE5
  rw [HGT.out, HGN.out, HGS.out, HRL.out, HHT.out, HHN.out, HHS.out, HQL.out]
  have hs0 : w0.heap.size = w.heap.size + 1 := by rw [← HW0.out]; simp
  obtain ⟨gb, HGBN⟩ := nameIt w.heap.size
  obtain ⟨hb, HHBN⟩ := nameIt w0.heap.size
  have hhg : hb = gb + 1 := by rw [← HGBN.out, ← HHBN.out]; exact hs0
  have HHG := Lib.hid hhg
  have HSZ : Hid (w.heap.size + 1 = hb) := hs0.symm.trans HHBN.out
  rw [HGBN.out] at HX0 hgb
  rw [HHBN.out] at HX1 hhb
  have HBX : Hid (∀ W, Below w1.heap.size w1 W → (W.cell? ⟨gb, 0, none⟩ = some (.int .i64 gt) ∧ W.cell? ⟨gb, 0 + 1, none⟩ = some (.int .i64 gn) ∧ W.cell? ⟨gb, 0 + 2, none⟩ = some (.int .i64 gs) ∧ W.cell? ⟨gb, 0 + 3, none⟩ = some (.slice ra rl rcap)) ∧ (W.cell? ⟨hb, 0, none⟩ = some (.int .i64 ht) ∧ W.cell? ⟨hb, 0 + 1, none⟩ = some (.int .i64 hn) ∧ W.cell? ⟨hb, 0 + 2, none⟩ = some (.int .i64 hs) ∧ W.cell? ⟨hb, 0 + 3, none⟩ = some (.slice qa ql qcap))) := fun W h => ⟨bx_cells4 (bx_keep HX0.out h), bx_cells4 (bx_keep HX1.out h)⟩
  clear hr hq hT hb0 X0 hb1 hs0 hhg hc1 hc2 hd1 hd2 HX0 HX1 HR1 HQ1
  go_enter Tryd.func3, Tryd.ntmps3
  go_upto_region 1 with fail
  rw [HW0.out, HW1.out, HSZ.out, HGBN.out]
  clear HW0 HW1
  go_wp2_with fail
  with_reducible refine (HPL.out w1).mono ?_
  intro e w2 hpl
  obtain ⟨pv, rfl, hpv, hb2⟩ := hpl
  have HB2 := Lib.hid hb2
  obtain ⟨pa, pl, pc, rfl⟩ : ∃ a l c, pv = .slice a l c := by obtain ⟨a, c, e, _⟩ := hpv.form; exact ⟨_, _, _, e⟩
  have HPR1 := Lib.hid (HPR.out _ w2 hpv (HT1.out.keep HB2.out))
  clear hb2 hpv HPL HPR
  go_wp2_with fail
  refine HPR1.out.mono ?_
  rintro e w3 ⟨a3, c3, rfl, hs3, hb3⟩
  have HB3 : Hid (Below w1.heap.size w1 w3) := HB2.out.trans (hb3.mono HB2.out.size)
  have HS3 := Lib.hid hs3
  clear hb3 hs3 HPR1 HB2
  have HEQ : Hid (Calls Tryd.prog 6 #[.slice a3 1 c3, .slice (some ⟨w3.heap.size, 0, none⟩) 1 1] (w3.alloc (.cells #[.int .i64 0] 3)) fun e w' => e = .returned (.bool true) ∧ Below (w3.heap.size + 1) (w3.alloc (.cells #[.int .i64 0] 3)) w') := by
    have := equal (.slice a3 1 c3) (.slice (some ⟨w3.heap.size, 0, none⟩) 1 1) [0] [0] (w3.alloc (.cells #[.int .i64 0] 3)) (HS3.out.keep ((Below.refl _ _).alloc (Nat.le_refl _) _)) (sl_of_own (own_of_block (bx_new w3 (.cells #[.int .i64 0] 3) _ rfl) (n := 1) (size := 1) rfl (by simp [maxLen])))
    exact Lib.hid (by simpa using this)
  go_wp2_with fail
  refine HEQ.out.mono ?_
  rintro e w4 ⟨rfl, hb4⟩
  have HB4 : Hid (Below w1.heap.size w1 w4) := HB3.out.trans ((((Below.refl _ _).alloc (Nat.le_refl _) _).trans (hb4.mono (by simp))).mono HB3.out.size)
  clear hb4 HEQ HS3 HB3
  obtain ⟨⟨x0, x1, x2, x3⟩, y0, y1, y2, y3⟩ := HBX.out w4 HB4.out
  go_wp2_with fail
  with_reducible refine (HLE.out w4 HB4.out).mono ?_
  intro e w5 hpost
  obtain ⟨a, l, c, s, er, rfl, HRS, hb5⟩ := HLP.out _ _ _ hpost
  have HB5 : Hid (Below w1.heap.size w1 w5) := HB4.out.trans (hb5.mono HB4.out.size)
  clear hpost hb5 HLP HLE HB4 x0 x1 x2 x3 y0 y1 y2 y3
  obtain ⟨⟨x0, x1, x2, x3⟩, y0, y1, y2, y3⟩ := HBX.out w5 HB5.out
  go_wp2_with fail
  with_reducible refine (HFG.out w5 HB5.out).mono ?_
  rintro e w6 ⟨rfl, hb6⟩
  have HB6 : Hid (Below w1.heap.size w1 w6) := HB5.out.trans (hb6.mono HB5.out.size)
  have HB56 := Lib.hid hb6
  clear hb6 HFG x0 x1 x2 x3 y0 y1 y2 y3
  obtain ⟨⟨x0, x1, x2, x3⟩, y0, y1, y2, y3⟩ := HBX.out w6 HB6.out
  have HEND6 := Lib.hid (HFIN.out w6 HB6.out)
  by_cases hcg : CG = 0
  · have hcg' : (CG == 0) = true := by simpa using hcg
    have HWG1 := Lib.hid (HWG.out hcg)
    have HTM1 := HTM.out hcg
    have HE2' := Lib.hid (HE2.out hcg)
    have HE3' := Lib.hid (HE3.out hcg)
    have HE4' := Lib.hid (HE4.out hcg)
    have HE5' := Lib.hid (HE5.out hcg)
    clear HE1 HE2 HE3 HE4 HE5 HTM HWG
    subst hcg
    go_wp2_with fail
    with_reducible refine (HFH.out w6 HB6.out).mono ?_
    rintro e w7 ⟨rfl, hb7⟩
    have HB7 : Hid (Below w1.heap.size w1 w7) := HB6.out.trans (hb7.mono HB6.out.size)
    have HB57 : Hid (Below w5.heap.size w5 w7) := HB56.out.trans (hb7.mono HB56.out.size)
    clear hb7 HFH x0 x1 x2 x3 y0 y1 y2 y3 HEND6
    obtain ⟨⟨x0, x1, x2, x3⟩, y0, y1, y2, y3⟩ := HBX.out w7 HB7.out
    have HEND7 := Lib.hid (HFIN.out w7 HB7.out)
    by_cases hch : CH = 0
    · have hch' : (CH == 0) = true := by simpa using hch
      have HWH1 := Lib.hid (HWH.out hch)
      have HE3 := Lib.hid (HE3'.out hch)
      have HE4 := Lib.hid (HE4'.out hch)
      have HE5 := Lib.hid (HE5'.out hch)
      clear HE2' HE3' HE4' HE5' HWH
      subst hch
      by_cases htt : gt = ht
      · subst htt
        have htb : (gt != gt) = false := by simp
        by_cases hn0 : n < 0
        · have hn0' : decide (n < 0) = true := by simpa using hn0
          have hne : (1 : Int) ≠ 0 := by decide
          have hER : ER = 1 := HE3.out (.inr (.inl hn0))
          obtain ⟨e1, e2, e3⟩ := HRS.out.1 (by rw [hER]; exact hne)
          cases e1
          subst e2
          rw [hER] at e3
          have e3 := e3.symm
          subst e3
          clear hER hne HRS HE3 HE4 HE5
          go_wp2_with fail
          exact HEND7.out
        · have hn0' : decide (n < 0) = false := by simpa using hn0
          by_cases hn12 : 12 < n
          · have hn12' : decide (12 < n) = true := by simpa using hn12
            have hne : (1 : Int) ≠ 0 := by decide
            have hER : ER = 1 := HE3.out (.inr (.inr hn12))
            obtain ⟨e1, e2, e3⟩ := HRS.out.1 (by rw [hER]; exact hne)
            cases e1
            subst e2
            rw [hER] at e3
            have e3 := e3.symm
            subst e3
            clear hER hne HRS HE3 HE4 HE5
            go_wp2_with fail
            exact HEND7.out
          · have hn12' : decide (12 < n) = false := by simpa using hn12
            obtain ⟨m, rfl⟩ : ∃ m : Nat, n = (m : Int) := ⟨n.toNat, by omega⟩
            obtain ⟨T, rfl⟩ : ∃ T : Nat, gt = (T : Int) := ⟨gt.toNat, by omega⟩
            have hm12 : m ≤ 12 := by omega
            have hT8 : T ≤ 8 := by omega
            have hT1 : 1 ≤ T := by omega
            have HE4T := Lib.hid (HE4.out rfl (by omega) (by omega))
            have HE5T := Lib.hid (HE5.out rfl (by omega) (by omega))
            clear HE3 HE4 HE5
            go_wp2_with fail
            have HG0 : Hid (geo T 0 ≤ 0 * 549755813888) := Nat.zero_le _
            clear x1 x2 x3 y0 y1 y2 y3
            go_loopg [14, 15, 16] (m + 1) (fun gg v14 v15 v16 wr => ∃ k : Nat, k ≤ m + 1 ∧ m + 1 - k ≤ gg ∧ v14 = .int .i64 (geo T k : Nat) ∧ v15 = .int .i64 (T ^ k : Nat) ∧ v16 = .int .i64 (k : Int) ∧ geo T k ≤ k * 549755813888 ∧ w7 = wr)
            case atStart => exact ⟨0, by omega, by omega, rfl, by simp, rfl, HG0.out, rfl⟩
            case round =>
              clear HG0
              obtain ⟨k, hk, hgg, rfl, rfl, rfl, hge, rfl⟩ := hrel
              have hp8 := pow8_le (T := T) (k := k) hT8 (by omega)
              have HGN : Hid (geo T (k + 1) = geo T k + T ^ k) := rfl
              have HPN : Hid (T ^ (k + 1) = T ^ k * T) := Nat.pow_succ _ _
              have HBIG : Hid (500 < geo T k → 500 < geo T (m + 1)) := fun h => Nat.lt_of_lt_of_le h (geo_mono (by omega))
              have HKM : Hid (k = m + 1 → geo T k = geo T (m + 1)) := fun h => by rw [h]
              obtain ⟨c0, HC⟩ := nameIt (geo T k)
              obtain ⟨p, HP⟩ := nameIt (T ^ k)
              rw [HC.out] at hge HGN HBIG HKM
              rw [HP.out] at hp8 HGN HPN
              rw [HC.out, HP.out]
              have hk13 : k ≤ 13 := by omega
              have hk14 : k * 549755813888 ≤ 13 * 549755813888 := Nat.mul_le_mul_right _ hk13
              by_cases hb : 500 < c0
              · have hb' : (500 : Int) < (c0 : Int) := by omega
                have hb2 : decide ((c0 : Int) ≤ 500) = false := by simp; omega
                have hne : (2 : Int) ≠ 0 := by decide
                have hER : ER = 2 := HE4T.out (HBIG.out hb)
                obtain ⟨e1, e2, e3⟩ := HRS.out.1 (by rw [hER]; exact hne)
                cases e1
                subst e2
                rw [hER] at e3
                have e3 := e3.symm
                subst e3
                clear hER hne HRS HE4T HE5T HBIG HKM hge hk14 hb
                by_cases hkm : k ≤ m
                · have hkm' : (k : Int) ≤ (m : Int) := by omega
                  go_wp2_with fail
                  exact HEND7.out
                · have hkm' : ¬ (k : Int) ≤ (m : Int) := by omega
                  have hkm2 : decide ((k : Int) ≤ (m : Int)) = false := by simp; omega
                  go_wp2_with fail
                  exact HEND7.out
              · have hb' : (c0 : Int) ≤ 500 := by omega
                by_cases hkm : k ≤ m
                · have hkm' : (k : Int) ≤ (m : Int) := by omega
                  have hp9 := pow8_le (T := T) (k := k + 1) hT8 (by omega)
                  rw [HPN.out] at hp9
                  have hpp : (p : Int) * (T : Int) = ((p * T : Nat) : Int) := by simp
                  obtain ⟨pt, HPT⟩ := nameIt (p * T)
                  rw [HPT.out] at hp9 HPN hpp
                  have hmul : IntKind.i64.wrap ((p : Int) * (T : Int)) = (pt : Int) := by rw [hpp, IntWalk.i64_in _ (by omega)]
                  have HGE : Hid (geo T (k + 1) ≤ (k + 1) * 549755813888) := by show _ ≤ _; rw [HGN.out, Nat.add_mul]; omega
                  clear hpp hk14
                  go_wp2_with fail
                  go_roundg (m + 1 - (k + 1))
                  case measure => omega
                  case rel => exact ⟨k + 1, by omega, by omega, by rw [HGN.out]; go_num, by rw [HPN.out], by go_num, HGE.out, rfl⟩
                · have hkm' : ¬ (k : Int) ≤ (m : Int) := by omega
                  have hkm2 : decide ((k : Int) ≤ (m : Int)) = false := by simp; omega
                  have hb3 : ¬ (500 : Int) < (c0 : Int) := by omega
                  have hgM : geo T (m + 1) ≤ 500 := by rw [← HKM.out (by omega)]; omega
                  have hER : ER = 0 := HE5T.out (by simpa using hgM)
                  have HLO : Hid (LeastOk g h T m (.slice a l c) s er w5) := Lib.hid (by simpa using HRS.out.2 hER)
                  have hlen : (every T m).length ≤ 500 := by rw [every_len]; exact hgM
                  clear hER HRS HE4T HE5T HBIG HKM HGN HPN hgM hge hk14 hb hp8
                  have HLEN := Lib.hid hlen
                  clear hlen hk hkm hk13 hgg
                  obtain ⟨⟨x0, x1, x2, x3⟩, y0, y1, y2, y3⟩ := HBX.out w7 HB7.out
                  go_wp2_with fail
                  with_reducible refine (HWG1.out m w7 hm12 HB7.out).mono ?_
                  rintro e w8 ⟨hh, hb8⟩
                  have HB8 : Hid (Below w1.heap.size w1 w8) := HB7.out.trans (hb8.mono HB7.out.size)
                  have HB58 : Hid (Below w5.heap.size w5 w8) := (HB57.out).trans (hb8.mono HB57.out.size)
                  have HWH2 := Lib.hid (HWH1.out m w8 hm12 HB8.out)
                  clear hb8 HWG1 HWH1 HEND7 HB7 x0 x1 x2 x3 y0 y1 y2 y3
                  obtain ⟨⟨x0, x1, x2, x3⟩, y0, y1, y2, y3⟩ := HBX.out w8 HB8.out
                  rcases hh with rfl | ⟨b1, cc1, rfl, hm1⟩
                  · go_wp2_with fail
                    with_reducible refine HWH2.out.mono ?_
                    rintro e w9 ⟨hh, hb9⟩
                    have HEND9 := Lib.hid (HFIN.out w9 (HB8.out.trans (hb9.mono HB8.out.size)))
                    clear hb9
                    rcases hh with rfl | ⟨b2, cc2, rfl, hm2⟩
                    · go_wp2_with fail
                      exact HEND9.out
                    · clear hm2
                      go_wp2_with fail
                      exact HEND9.out
                  · have HM1 := Lib.hid hm1
                    clear hm1
                    go_wp2_with fail
                    with_reducible refine HWH2.out.mono ?_
                    rintro e w9 ⟨hh, hb9⟩
                    have HB9 : Hid (Below w1.heap.size w1 w9) := HB8.out.trans (hb9.mono HB8.out.size)
                    have HB59 : Hid (Below w5.heap.size w5 w9) := (HB58.out).trans (hb9.mono HB58.out.size)
                    have HM1' := Lib.hid (HM1.out.keep hb9)
                    clear hb9 HM1 HWH2 HB8 HB58 x0 x1 x2 x3 y0 y1 y2 y3
                    obtain ⟨⟨x0, x1, x2, x3⟩, y0, y1, y2, y3⟩ := HBX.out w9 HB9.out
                    clear x1 x2 x3 y0 y1 y2 y3
                    rcases hh with rfl | ⟨b2, cc2, rfl, hm2⟩
                    · have HEND9 := Lib.hid (HFIN.out w9 HB9.out)
                      go_wp2_with fail
                      exact HEND9.out
                    · have HM2 := Lib.hid hm2
                      have HEV := Lib.hid (everyE T m hT8 hm12 (by have := HLEN.out; omega) w9)
                      clear hm2
                      go_wp2_with fail
                      with_reducible refine HEV.out.mono ?_
                      intro e w10 hev
                      obtain ⟨v, rfl, hq, hb10⟩ := hev
                      have HQ := Lib.hid hq
                      have HB10 : Hid (Below w1.heap.size w1 w10) := HB9.out.trans (hb10.mono HB9.out.size)
                      have HB510 : Hid (Below w5.heap.size w5 w10) := (HB59.out).trans (hb10.mono HB59.out.size)
                      have HM1 := Lib.hid (HM1'.out.keep hb10)
                      have HM3 := Lib.hid (HM2.out.keep hb10)
                      obtain ⟨qa1, qc1, rfl, hqc1, hqc2⟩ := hq.form
                      unfold maxLen at hqc2
                      obtain ⟨EL, HELN⟩ := nameIt (every T m).length
                      rw [HELN.out] at HLEN HQ hqc1
                      rw [HELN.out]
                      have hEL : EL ≤ 500 := HLEN.out
                      have HLS0 : Hid (lstF g h (every T m) = lstF g h ((every T m).drop 0)) := rfl
                      clear hq hb10 HM1' HM2 HEV HB9 HB59 x0
                      have HQK := Lib.hid (fun W (hb : Below w10.heap.size w10 W) => HQ.out.keep hb)
                      go_wp2_with fail
                      go_loopg [22, 23, 24, 132] EL (fun gg v22 v23 v24 v132 wr => ∃ i : Nat, i ≤ EL ∧ EL - i ≤ gg ∧ v132 = .int .i64 (i : Int) ∧ Hid (lstF g h (every T m) = lstF g h ((every T m).drop i)) ∧ Hid (Below w10.heap.size w10 wr))
                      case atStart => exact ⟨0, by omega, by omega, rfl, HLS0, Below.refl _ _⟩
                      case round =>
                        clear HLS0 HQ
                        obtain ⟨i, hi, hgg, rfl, HLS, HBW⟩ := hrel
                        obtain ⟨w11, rfl⟩ : ∃ ww : World, ww = wr := ⟨_, rfl⟩
                        by_cases hiE : i < EL
                        · have hiE' : (i : Int) < (EL : Int) := by omega
                          have hi0 : (0 : Int) ≤ (i : Int) := by omega
                          have hiL : i < (every T m).length := by rw [HELN.out]; exact hiE
                          obtain ⟨qb, qo, qc2, u0, hv, c0', hs0⟩ := (HQK.out w11 HBW.out).at hiL
                          rw [HELN.out] at hv
                          cases hv
                          have hmem := every_mem (List.getElem_mem hiL)
                          have HD2 : Hid ((every T m).drop i = (every T m)[i] :: (every T m).drop (i + 1)) := List.drop_eq_getElem_cons hiL
                          obtain ⟨xs, HXS⟩ := nameIt (every T m)[i]
                          rw [HXS.out] at HD2 hmem hs0
                          obtain ⟨wl, HWL⟩ := nameIt xs.length
                          rw [HWL.out] at hmem
                          obtain ⟨hwl, hsym⟩ := hmem
                          have hok : okW xs := fun x hx => by
                            have := hsym x hx
                            unfold small
                            omega
                          obtain ⟨a0, l0, k0, rfl⟩ : ∃ a l k, u0 = .slice a l k := by obtain ⟨a, k, rfl⟩ := hs0.form; exact ⟨_, _, _, rfl⟩
                          have hl0 : l0 = wl := by obtain ⟨a, k, e⟩ := hs0.form; cases e; rw [ints_len]; exact HWL.out
                          subst hl0
                          have HS0 := Lib.hid hs0
                          have HH1 := Lib.hid (hasE b1 cc1 _ xs l0 HWL.out hok (by omega) a0 k0 w11 (HM1.out.keep HBW.out) hs0 (langB g xs) (by rw [langB_iff]; exact ⟨fun h => ⟨by rw [HWL.out]; exact hwl, h⟩, fun h => h.2⟩))
                          have HH2 := Lib.hid (fun W (hb : Below w11.heap.size w11 W) => hasE b2 cc2 _ xs l0 HWL.out hok (by omega) a0 k0 W ((HM3.out.keep HBW.out).keep hb) (HS0.out.keep hb) (langB h xs) (by rw [langB_iff]; exact ⟨fun h => ⟨by rw [HWL.out]; exact hwl, h⟩, fun h => h.2⟩))
                          have HLS1 : Hid (lstF g h (every T m) = if langB g xs = langB h xs then lstF g h ((every T m).drop (i + 1)) else some (xs, langB g xs)) := by show _ = _; rw [HLS.out, HD2.out]; rfl
                          clear hs0 hok hsym HXS hiL HLS HD2
                          obtain ⟨la, HLA⟩ := nameIt (langB g xs)
                          obtain ⟨lb, HLB⟩ := nameIt (langB h xs)
                          rw [HLA.out] at HLS1 HH1
                          rw [HLB.out] at HLS1
                          simp only [HLB.out] at HH2
                          go_wp2_with fail
                          with_reducible refine HH1.out.mono ?_
                          rintro e w12 ⟨rfl, hb12⟩
                          have HH3 := Lib.hid (HH2.out w12 hb12)
                          have HBX2 : Hid (Below w10.heap.size w10 w12) := HBW.out.trans (hb12.mono HBW.out.size)
                          have HS1 := Lib.hid (HS0.out.keep hb12)
                          clear hb12 HH2 HH1 HBW HS0 c0'
                          go_wp2_with fail
                          with_reducible refine HH3.out.mono ?_
                          rintro e w13 ⟨rfl, hb13⟩
                          have HB13 : Hid (Below w10.heap.size w10 w13) := HBX2.out.trans (hb13.mono HBX2.out.size)
                          have HS2 := Lib.hid (HS1.out.keep hb13)
                          clear hb13 HH3 HBX2 HS1
                          by_cases hab : la = lb
                          · have HLN : Hid (lstF g h (every T m) = lstF g h ((every T m).drop (i + 1))) := by show _ = _; rw [HLS1.out, if_pos hab]
                            have hi1 : IntKind.i64.wrap ((i : Int) + 1) = ((i + 1 : Nat) : Int) := by rw [IntWalk.i64_in _ (by omega)]; omega
                            clear HLS1
                            subst hab
                            cases la
                            all_goals
                              go_wp2_with fail
                              go_roundg (EL - (i + 1))
                              case measure => omega
                              case rel => exact ⟨i + 1, by omega, by omega, by first | rfl | go_num, HLN, HB13⟩
                          · have hne : (la != lb) = true := by simpa using hab
                            have hlo := HLO.out
                            unfold LeastOk at hlo
                            rw [HLS1.out, if_neg hab] at hlo
                            obtain ⟨rfl, h2, h3⟩ := hlo
                            have HEQ2 := Lib.hid (equal (.slice a l c) (.slice a0 l0 k0) xs xs w13 (h3.keep (HB510.out.trans (HB13.out.mono HB510.out.size))) HS2.out)
                            have HEND13 := Lib.hid (fun W (hb : Below w13.heap.size w13 W) => HFIN.out W (HB10.out.trans ((HB13.out.trans (hb.mono HB13.out.size)).mono HB10.out.size)))
                            have hxx : (xs == xs) = true := by simp
                            rw [hxx] at HEQ2
                            clear h3 HLS1 HLO hxx HS2
                            cases la with
                            | true =>
                              obtain rfl : false = lb := by cases lb; rfl; exact absurd rfl hab
                              simp only [if_true] at h2
                              subst h2
                              clear hne hab
                              go_wp2_with fail
                              with_reducible refine HEQ2.out.mono ?_
                              rintro e w14 ⟨rfl, hb14⟩
                              have HE := Lib.hid (HEND13.out w14 hb14)
                              clear hb14
                              go_wp2_with fail
                              exact HE.out
                            | false =>
                              obtain rfl : true = lb := by cases lb; exact absurd rfl hab; rfl
                              rw [if_neg (by decide)] at h2
                              subst h2
                              clear hne hab
                              go_wp2_with fail
                              with_reducible refine HEQ2.out.mono ?_
                              rintro e w14 ⟨rfl, hb14⟩
                              have HE := Lib.hid (HEND13.out w14 hb14)
                              clear hb14
                              go_wp2_with fail
                              exact HE.out
                        · have hiE' : ¬ (i : Int) < (EL : Int) := by omega
                          have hlo := HLO.out
                          unfold LeastOk at hlo
                          rw [HLS.out, List.drop_of_length_le (by rw [HELN.out]; omega)] at hlo
                          obtain ⟨rfl, rfl, h3⟩ := hlo
                          cases h3
                          have HE := Lib.hid (HFIN.out w11 (HB10.out.trans (HBW.out.mono HB10.out.size)))
                          clear HLO HLS
                          go_wp2_with fail
                          exact HE.out
      · have htb : (gt != ht) = true := by simpa using htt
        have hne : (1 : Int) ≠ 0 := by decide
        have hER : ER = 1 := HE3.out (.inl htt)
        obtain ⟨e1, e2, e3⟩ := HRS.out.1 (by rw [hER]; exact hne)
        cases e1
        subst e2
        rw [hER] at e3
        have e3 := e3.symm
        subst e3
        clear hER hne HRS HE3 HE4 HE5
        clear htt
        go_wp2_with fail
        exact HEND7.out
    · have hch' : (CH == 0) = false := by simpa using hch
      have hchn : (CH != 0) = true := by simpa using hch
      have hne := hch
      have hER : ER = CH := HE2'.out hch
      obtain ⟨e1, e2, e3⟩ := HRS.out.1 (by rw [hER]; exact hne)
      cases e1
      subst e2
      rw [hER] at e3
      have e3 := e3.symm
      subst e3
      have hself : ((CH : Int) == CH) = true := by simp
      clear hER hne HRS HE2' HE3' HE4' HE5'
      clear hch
      go_wp2_with fail
      exact HEND7.out
  · have hcg' : (CG == 0) = false := by simpa using hcg
    have hcgn : (CG != 0) = true := by simpa using hcg
    have hne := hcg
    have hER : ER = CG := HE1.out hcg
    obtain ⟨e1, e2, e3⟩ := HRS.out.1 (by rw [hER]; exact hne)
    cases e1
    subst e2
    rw [hER] at e3
    have e3 := e3.symm
    subst e3
    have hself : ((CG : Int) == CG) = true := by simp
    clear hER hne HRS HE1 HE2 HE3 HE4 HE5 HTM
    clear hcg
    go_wp2_with fail
    exact HEND6.out
end Lg
end Go.Proofs.YtccjdgjehecdiaaDoor
namespace Go.Proofs.YtccjdgjehecdiaaDoor
open Go.RowKit Go.ChangeShapes Go.WideShapes Go.Deep

/-- data of a type read as plain data, as far as the fuel N goes: sz: at most its bulk; ok: what its numbers keep; lim: what the reach gives -/
def OpensF {α : Type} (P : Program) (t : TypeId) (e : α → D) (sz : α → Nat) (ok lim : α → Prop) (N : Nat) : Prop :=
  ∀ (H : Type) (enc : TypeId × Value → H) (w : World) (n : Nat) (cs : List Value) (x : DataW H × List MemPlace), n ≤ N → DataW.trod enc P w 0 (fun _ => true) true n t cs = some x →
    ∃ a : α, Rd AnyB w (e a) cs ∧ sz a ≤ Rows.uptoBulk x.1 ∧ ok a ∧ ((∀ y ∈ DataW.weights P t x.1, y ≤ reachBytes) → lim a)
def Opens {α : Type} (P : Program) (t : TypeId) (e : α → D) (sz : α → Nat) (ok lim : α → Prop) : Prop := ∀ N, OpensF P t e sz ok lim N

def i64 (n : Int) : Prop := -9223372036854775808 ≤ n ∧ n ≤ 9223372036854775807
def one {α : Type} (_ : α) : Nat := 1
def any {α : Type} (_ : α) : Prop := True

theorem opens_int {P : Program} {t : TypeId} (ht : P.underlying t = some (.int .i64)) : Opens P t D.int one i64 any := by
  intro N H enc w n cs x _ h
  obtain ⟨z, h1, h2, h3⟩ := DataW.trod_int ht h
  subst h1 h2
  refine ⟨z, rfl, by simp [Rows.uptoBulk, one], ?_, fun _ => trivial⟩
  simpa [Lit.wf, IntKind.min, IntKind.max, IntKind.signed, IntKind.bits, i64] using h3
theorem opens_bool {P : Program} {t : TypeId} (ht : P.underlying t = some .bool) : Opens P t D.bool one any any := by
  intro N H enc w n cs x _ h
  obtain ⟨z, h1, h2⟩ := DataW.trod_bool ht h
  subst h1 h2
  exact ⟨z, rfl, by simp [Rows.uptoBulk, one], trivial, fun _ => trivial⟩

theorem bulkAll_append {H : Type} (l r : List (DataW H)) : Rows.uptoBulkAll (l ++ r) = Rows.uptoBulkAll l + Rows.uptoBulkAll r := by
  induction l with
  | nil => simp [Rows.uptoBulkAll]
  | cons x l ih => simp only [List.cons_append, Rows.uptoBulkAll, ih]; omega
theorem weightsAll_append {H : Type} (P : Program) (e : TypeId) (l r : List (DataW H)) : DataW.weightsAll P e (l ++ r) = DataW.weightsAll P e l ++ DataW.weightsAll P e r := by
  induction l with
  | nil => simp [DataW.weightsAll]
  | cons x l ih => simp [DataW.weightsAll, ih]

def slD {α : Type} (e : α → D) (l : List α) : D := .sl (l.map e)
def slSz {α : Type} (sz : α → Nat) (l : List α) : Nat := (l.map sz).sum + 1
def slOk {α : Type} (ok : α → Prop) (l : List α) : Prop := ∀ a ∈ l, ok a
def slLim {α : Type} (b : Nat) (lim : α → Prop) (l : List α) : Prop := l.length * b ≤ reachBytes ∧ ∀ a ∈ l, lim a

theorem opens_slice {α : Type} {P : Program} {t el : TypeId} {e : α → D} {sz : α → Nat} {ok lim : α → Prop} {N b : Nat} (ht : P.underlying t = some (.slice el)) (hby : P.bytesOf el = b) (ho : OpensF P el e sz ok lim N) :
    OpensF P t (slD e) (slSz sz) (slOk ok) (slLim b lim) N := by
  intro H enc w n cs x hn h
  rcases DataW.trod_slice ht h with ⟨rfl, rfl⟩ | ⟨a, len, cap, elems, rest, n', hf, rfl, rfl, hb, hl, hm, hlen, hel, _, _⟩
  · exact ⟨[], ⟨none, 0, [], rfl, by simp, by simp [maxLen], fun _ => rfl, fun i hi => by simp at hi, rfl⟩, by simp [Rows.uptoBulk, slSz], by simp [slOk], fun _ => ⟨by simp, by simp⟩⟩
  · have key : ∀ k, k ≤ len → ∃ (l : List α) (L : List Value), l.length = k ∧ RdAll AnyB w (l.map e) L ∧ L.length = k * P.cellsOf el ∧ (∀ j (hj : j < L.length), w.cell? (a.add j) = some L[j]) ∧
        (l.map sz).sum ≤ Rows.uptoBulkAll ((elems.take k).map (·.1)) ∧ slOk ok l ∧ ((∀ y ∈ DataW.weightsAll P el ((elems.take k).map (·.1)), y ≤ reachBytes) → ∀ a ∈ l, lim a) := by
      intro k
      induction k with
      | zero => intro _; exact ⟨[], [], rfl, by simp [RdAll], by simp, fun j hj => by simp at hj, by simp, by simp [slOk], fun _ => by simp⟩
      | succ k ih =>
        intro hk
        obtain ⟨l, L, h1, h2, h3, h4, h5, h6, h7⟩ := ih (by omega)
        have hk' : k < elems.length := by omega
        have he := hel k (by omega)
        rw [List.getElem?_eq_getElem hk'] at he
        obtain ⟨cs', hc1, hc2⟩ := Option.bind_eq_some_iff.1 he
        obtain ⟨a', r1, r2, r3, r4⟩ := ho H enc w n' cs' elems[k] (by omega) hc2
        obtain ⟨_, hcl, hcc⟩ := World.cells?_some hc1
        refine ⟨l ++ [a'], L ++ cs', by simp [h1], by rw [List.map_append]; exact RdAll.append h2 (RdAll.one r1), by simp [h3, hcl, Nat.add_mul], ?_, ?_, ?_, ?_⟩
        · intro j hj
          by_cases hjl : j < L.length
          · rw [List.getElem_append_left hjl]; exact h4 j hjl
          · simp at hj
            rw [List.getElem_append_right (by omega)]
            have := hcc (j - L.length) (by omega)
            rw [Deep.add_add, ← h3, show L.length + (j - L.length) = j by omega] at this
            rw [this, List.getElem?_eq_getElem (by omega)]
        · rw [List.take_succ_eq_append_getElem hk', List.map_append, List.map_append, bulkAll_append]
          simp [Rows.uptoBulkAll]
          simp at h5
          omega
        · intro y hy
          rcases List.mem_append.1 hy with h | h
          · exact h6 y h
          · simp at h; subst h; exact r3
        · intro hw y hy
          rw [List.take_succ_eq_append_getElem hk', List.map_append, weightsAll_append] at hw
          rcases List.mem_append.1 hy with h | h
          · exact h7 (fun z hz => hw z (List.mem_append_left _ hz)) y h
          · simp at h; subst h
            exact r4 (fun z hz => hw z (List.mem_append_right _ (by simpa [DataW.weightsAll] using hz)))
    obtain ⟨l, L, h1, h2, h3, h4, h5, h6, h7⟩ := key len (Nat.le_refl _)
    rw [List.take_of_length_le (by omega)] at h5 h7
    refine ⟨l, ⟨some a, cap, L, by simp [h1], by simpa [h1] using hl, hm, (fun h => by cases h), fun i hi => ⟨a, rfl, trivial, h4 i hi⟩, h2⟩, ?_, h6, ?_⟩
    · simp only [Rows.uptoBulk, slSz]; omega
    · intro hw
      simp only [DataW.weights, ht] at hw
      refine ⟨?_, h7 fun y hy => hw y (by simp [hy])⟩
      have := hw ((elems.map (·.1)).length + (rest.map (·.1)).length |>.mul (P.bytesOf el)) (by left)
      rw [h1, ← hlen, ← hby]
      have h8 : elems.length * P.bytesOf el ≤ ((elems.map (·.1)).length + (rest.map (·.1)).length) * P.bytesOf el := Nat.mul_le_mul_right _ (by simp)
      exact Nat.le_trans h8 this

theorem split2 {cs : List Value} {c0 c1 : Nat} (h : cs.length = c0 + c1) : cs = (cs.drop 0).take c0 ++ (cs.drop c0).take c1 := by
  rw [List.drop_zero, List.take_of_length_le (l := cs.drop c0) (by simp; omega), List.take_append_drop]
theorem split3 {cs : List Value} {c0 c1 c2 : Nat} (h : cs.length = c0 + c1 + c2) : cs = (cs.drop 0).take c0 ++ ((cs.drop c0).take c1 ++ (cs.drop (c0 + c1)).take c2) := by
  rw [← List.drop_drop, ← split2' (cs := cs.drop c0) (by simp; omega)]
  simp
where
  split2' {cs : List Value} {c1 c2 : Nat} (h : cs.length = c1 + c2) : cs = cs.take c1 ++ (cs.drop c1).take c2 := by
    have := split2 h
    simpa using this
theorem split4 {cs : List Value} {c0 c1 c2 c3 : Nat} (h : cs.length = c0 + c1 + c2 + c3) : cs = (cs.drop 0).take c0 ++ ((cs.drop c0).take c1 ++ ((cs.drop (c0 + c1)).take c2 ++ (cs.drop (c0 + c1 + c2)).take c3)) := by
  have h3 := split3 (cs := cs.drop c0) (c0 := c1) (c1 := c2) (c2 := c3) (by simp; omega)
  simp only [List.drop_drop, List.drop_zero] at h3 ⊢
  rw [← Nat.add_assoc, Nat.add_zero] at h3
  rw [← h3, List.take_append_drop]

theorem opens_struct2 {α β δ : Type} {P : Program} {t : TypeId} {f0 f1 : Field} {e0 : α → D} {e1 : β → D} {s0 : α → Nat} {s1 : β → Nat} {k0 l0 : α → Prop} {k1 l1 : β → Prop} {N c0 c1 : Nat} (mk : α → β → δ) {e : δ → D} {sz : δ → Nat} {ok lim : δ → Prop}
    (ht : P.underlying t = some (.struct #[f0, f1])) (ho : f0.offset = 0 ∧ f1.offset = c0 ∧ P.cellsOf f0.type = c0 ∧ P.cellsOf f1.type = c1 ∧ P.cellsOf t = c0 + c1)
    (h0 : OpensF P f0.type e0 s0 k0 l0 N) (h1 : OpensF P f1.type e1 s1 k1 l1 N)
    (he : ∀ a b, e (mk a b) = .agg [e0 a, e1 b]) (hs : ∀ a b, sz (mk a b) ≤ s0 a + s1 b + 1) (hk : ∀ a b, k0 a → k1 b → ok (mk a b)) (hl : ∀ a b, l0 a → l1 b → lim (mk a b)) : OpensF P t e sz ok lim (N + 1) := by
  intro H enc w n cs x hn h
  obtain ⟨xs, n', hf, rfl, hcl, hlen, hfs⟩ := DataW.trod_struct ht h
  obtain ⟨o0, o1, p0, p1, p2⟩ := ho
  match xs, hlen with
  | [y0, y1], _ =>
    have g0 : DataW.trod enc P w 0 (fun _ => true) true n' f0.type ((cs.drop f0.offset).take (P.cellsOf f0.type)) = some y0 := by simpa using hfs 0 f0 rfl
    have g1 : DataW.trod enc P w 0 (fun _ => true) true n' f1.type ((cs.drop f1.offset).take (P.cellsOf f1.type)) = some y1 := by simpa using hfs 1 f1 rfl
    obtain ⟨a, r1, r2, r3, r4⟩ := h0 H enc w n' _ _ (by omega) g0
    obtain ⟨b, q1, q2, q3, q4⟩ := h1 H enc w n' _ _ (by omega) g1
    rw [o0, p0] at r1
    rw [o1, p1] at q1
    refine ⟨mk a b, ?_, ?_, hk a b r3 q3, fun hw => ?_⟩
    · rw [he, split2 (hcl.trans p2)]
      exact ⟨_, _, rfl, r1, RdAll.one q1⟩
    · have := hs a b
      simp [Rows.uptoBulk, Rows.uptoBulkAll]; omega
    · simp [DataW.weights, ht, DataW.weightsEach] at hw
      exact hl a b (r4 fun y hy => hw y (by simp [hy])) (q4 fun y hy => hw y (by simp [hy]))

theorem opens_struct4 {α β γ ε δ : Type} {P : Program} {t : TypeId} {f0 f1 f2 f3 : Field} {e0 : α → D} {e1 : β → D} {e2 : γ → D} {e3 : ε → D} {s0 : α → Nat} {s1 : β → Nat} {s2 : γ → Nat} {s3 : ε → Nat} {k0 l0 : α → Prop} {k1 l1 : β → Prop} {k2 l2 : γ → Prop} {k3 l3 : ε → Prop} {N c0 c1 c2 c3 : Nat} (mk : α → β → γ → ε → δ) {e : δ → D} {sz : δ → Nat} {ok lim : δ → Prop}
    (ht : P.underlying t = some (.struct #[f0, f1, f2, f3])) (ho : f0.offset = 0 ∧ f1.offset = c0 ∧ f2.offset = c0 + c1 ∧ f3.offset = c0 + c1 + c2 ∧ P.cellsOf f0.type = c0 ∧ P.cellsOf f1.type = c1 ∧ P.cellsOf f2.type = c2 ∧ P.cellsOf f3.type = c3 ∧ P.cellsOf t = c0 + c1 + c2 + c3)
    (h0 : OpensF P f0.type e0 s0 k0 l0 N) (h1 : OpensF P f1.type e1 s1 k1 l1 N) (h2 : OpensF P f2.type e2 s2 k2 l2 N) (h3 : OpensF P f3.type e3 s3 k3 l3 N)
    (he : ∀ a b c d, e (mk a b c d) = .agg [e0 a, e1 b, e2 c, e3 d]) (hs : ∀ a b c d, sz (mk a b c d) ≤ s0 a + s1 b + s2 c + s3 d + 1) (hk : ∀ a b c d, k0 a → k1 b → k2 c → k3 d → ok (mk a b c d)) (hl : ∀ a b c d, l0 a → l1 b → l2 c → l3 d → lim (mk a b c d)) : OpensF P t e sz ok lim (N + 1) := by
  intro H enc w n cs x hn h
  obtain ⟨xs, n', hf, rfl, hcl, hlen, hfs⟩ := DataW.trod_struct ht h
  obtain ⟨o0, o1, o2, o3, p0, p1, p2, p3, p4⟩ := ho
  match xs, hlen with
  | [y0, y1, y2, y3], _ =>
    have g0 : DataW.trod enc P w 0 (fun _ => true) true n' f0.type ((cs.drop f0.offset).take (P.cellsOf f0.type)) = some y0 := by simpa using hfs 0 f0 rfl
    have g1 : DataW.trod enc P w 0 (fun _ => true) true n' f1.type ((cs.drop f1.offset).take (P.cellsOf f1.type)) = some y1 := by simpa using hfs 1 f1 rfl
    have g2 : DataW.trod enc P w 0 (fun _ => true) true n' f2.type ((cs.drop f2.offset).take (P.cellsOf f2.type)) = some y2 := by simpa using hfs 2 f2 rfl
    have g3 : DataW.trod enc P w 0 (fun _ => true) true n' f3.type ((cs.drop f3.offset).take (P.cellsOf f3.type)) = some y3 := by simpa using hfs 3 f3 rfl
    obtain ⟨a, r1, r2, r3, r4⟩ := h0 H enc w n' _ _ (by omega) g0
    obtain ⟨b, q1, q2, q3, q4⟩ := h1 H enc w n' _ _ (by omega) g1
    obtain ⟨c, u1, u2, u3, u4⟩ := h2 H enc w n' _ _ (by omega) g2
    obtain ⟨d, v1, v2, v3, v4⟩ := h3 H enc w n' _ _ (by omega) g3
    rw [o0, p0] at r1
    rw [o1, p1] at q1
    rw [o2, p2] at u1
    rw [o3, p3] at v1
    refine ⟨mk a b c d, ?_, ?_, hk a b c d r3 q3 u3 v3, fun hw => ?_⟩
    · rw [he, split4 (hcl.trans p4)]
      exact ⟨_, _, rfl, r1, _, _, rfl, q1, _, _, rfl, u1, RdAll.one v1⟩
    · have := hs a b c d
      simp [Rows.uptoBulk, Rows.uptoBulkAll]; omega
    · simp [DataW.weights, ht, DataW.weightsEach] at hw
      exact hl a b c d (r4 fun y hy => hw y (by simp [hy])) (q4 fun y hy => hw y (by simp [hy])) (u4 fun y hy => hw y (by simp [hy])) (v4 fun y hy => hw y (by simp [hy]))

/-- the argument j -/
theorem open_arg {α : Type} {P : Program} {t : TypeId} {e : α → D} {sz : α → Nat} {ok lim : α → Prop} (ho : Opens P t e sz ok lim) {H : Type} {enc : TypeId × Value → H} {W : World} {v : Value} {d : DataW H} {p : List MemPlace} (h : DataW.Trod enc P W 0 (fun _ => true) true t v d p) :
    ∃ a : α, Rd AnyB W (e a) v.cells.toList ∧ sz a ≤ Rows.uptoBulk d ∧ ok a ∧ ((∀ y ∈ DataW.weights P t d, y ≤ reachBytes) → lim a) := by
  obtain ⟨n, hn⟩ := h
  exact ho n H enc W n _ _ (Nat.le_refl _) hn
end Go.Proofs.YtccjdgjehecdiaaDoor
namespace Go.Proofs.YtccjdgjehecdiaaDoor
open Go.RowKit Go.ChangeShapes Go.WideShapes Go.Deep Go.Joins

def okSym (s : Sym) : Prop := i64 s.n
def okRule (r : Rule) : Prop := i64 r.left ∧ ∀ s ∈ r.right, okSym s
def okGram (g : Gram) : Prop := i64 g.terms ∧ i64 g.nons ∧ i64 g.start ∧ ∀ r ∈ g.rules, okRule r
def szSym (_ : Sym) : Nat := 1
def szRule (r : Rule) : Nat := slSz szSym r.right
def szGram (g : Gram) : Nat := slSz szRule g.rules

set_option maxRecDepth 100000 in
theorem opens_symF (N : Nat) : OpensF Tryd.prog 43 Sym.d szSym okSym any (N + 1) :=
  opens_struct2 (c0 := 1) (c1 := 1) (fun a b => Sym.mk a b) Tryd.underlying43 ⟨rfl, rfl, by kernel_rfl, by kernel_rfl, by kernel_rfl⟩ (opens_bool Tryd.underlying4 N) (opens_int Tryd.underlying3 N)
    (fun _ _ => rfl) (fun _ _ => by simp [szSym]) (fun _ _ _ h => h) (fun _ _ _ _ => trivial)
set_option maxRecDepth 100000 in
theorem opens_ruleF (N : Nat) : OpensF Tryd.prog 46 Rule.d szRule okRule any (N + 1 + 1) :=
  opens_struct2 (c0 := 1) (c1 := 1) (fun a b => Rule.mk a b) Tryd.underlying46 ⟨rfl, rfl, by kernel_rfl, by kernel_rfl, by kernel_rfl⟩ (opens_int Tryd.underlying3 (N + 1)) (opens_slice Tryd.underlying44 (b := 16) (by kernel_rfl) (opens_symF N))
    (fun _ _ => rfl) (fun _ _ => by simp [szRule]; omega) (fun _ _ h k => ⟨h, k⟩) (fun _ _ _ _ => trivial)
set_option maxRecDepth 100000 in
theorem opens_gramF (N : Nat) : OpensF Tryd.prog 24 Gram.d szGram okGram any (N + 1 + 1 + 1) :=
  opens_struct4 (c0 := 1) (c1 := 1) (c2 := 1) (c3 := 1) (fun a b c d => Gram.mk a b c d) Tryd.underlying24 ⟨rfl, rfl, rfl, rfl, by kernel_rfl, by kernel_rfl, by kernel_rfl, by kernel_rfl, by kernel_rfl⟩ (opens_int Tryd.underlying3 (N + 1 + 1)) (opens_int Tryd.underlying3 (N + 1 + 1)) (opens_int Tryd.underlying3 (N + 1 + 1)) (opens_slice Tryd.underlying22 (b := 32) (by kernel_rfl) (opens_ruleF N))
    (fun _ _ _ _ => rfl) (fun _ _ _ _ => by simp [szGram]; omega) (fun _ _ _ _ h1 h2 h3 h4 => ⟨h1, h2, h3, h4⟩) (fun _ _ _ _ _ _ _ _ => trivial)
theorem opens_gram : Opens Tryd.prog 24 Gram.d szGram okGram any := by
  intro N H enc w n cs x hn h
  exact opens_gramF N H enc w n cs x (by omega) h

set_option maxRecDepth 100000 in
theorem open_gramV {W : World} {base : Nat} {v : Value} {g : Gram} (hv : Value.okWide Tryd.prog W .any base 24 v) (h : Rd AnyB W g.d v.cells.toList) : ∃ u, v = .agg #[.int .i64 g.terms, .int .i64 g.nons, .int .i64 g.start, u] ∧ Rd AnyB W (.sl (g.rules.map Rule.d)) [u] := by
  obtain ⟨cs, rfl, hsz⟩ := okWide_struct Tryd.underlying24 hv
  obtain ⟨c1, r1, e1, h1, h2⟩ := h
  obtain ⟨c2, r2, rfl, h2, h3⟩ := h2
  obtain ⟨c3, r3, rfl, h3, h4⟩ := h3
  rw [RdAll.one_iff] at h4
  simp [Rd] at h1 h2 h3
  subst h1 h2 h3
  have h5 := h4
  obtain ⟨a, cap, L, e, _⟩ := h4
  subst e
  refine ⟨_, ?_, h5⟩
  congr 1
  exact Array.toList_inj.1 e1
end Go.Proofs.YtccjdgjehecdiaaDoor
namespace Go.Proofs.YtccjdgjehecdiaaDoor
open Go.RowKit Go.ChangeShapes Go.WideShapes Go.Deep Go.Joins

end Go.Proofs.YtccjdgjehecdiaaDoor
namespace Go.Proofs.YtccjdgjehecdiaaDoor.RowCompareTells
open Go.ChangeShapes Go.WideShapes Go.ChangeAt Go.RowKit
theorem own : ownKnob Tryd.prog.godebug = none := by kernel_rfl
theorem laidOut : laidOutB Tryd.prog = true := by kernel_rfl

theorem gTab : Tryd.prog.globalNamed "math/bits.deBruijn32tab" = some 0 := by kernel_rfl
theorem gTabType : (Tryd.prog.globals[0]?).map (·.type) = some 78 := by kernel_rfl
theorem cellsT : Tryd.prog.cellsOf 78 = 32 := by kernel_rfl
theorem cellsE : Tryd.prog.cellsOf 5 = 1 := by kernel_rfl
theorem tabG {W : World} (h : laidMetH Tryd.prog Rows.compareTellsRow.laid W) : Lg.TabG W := fun j hj => by
  have h2 := (Lib.tabIs_of_head (k := .u8) (zs := Lib.deBruijn32tab.map Int.ofNat) (rest := []) gTab gTabType Tryd.underlying78 Tryd.underlying5 cellsE cellsT h).cell gTab j (by rw [List.length_map]; exact hj)
  rw [h2]
  simp [List.getD_eq_getElem?_getD]
  cases (Lib.deBruijn32tab)[j]? <;> rfl
set_option maxRecDepth 100000 in
theorem contract (H : Type) (enc : TypeId × Value → H) (W : World) (base : Nat) (args : Array Value) (ds gs : List (DataW H)) (before : List MemPlace)
    (hval0 : ∀ (j : Nat) t v, Tryd.f3.params[j]? = some t → args[j]? = some v → Value.okWide Tryd.prog W .any base t v)
    (hW : DataW.Whole enc Tryd.prog Tryd.f3.params.toList Rows.compareTellsSpec.vars false W args.toList ds gs before)
    (hL : laidMetH Tryd.prog Rows.compareTellsRow.laid W)
    (hsz0 : (DataW.weightsEach Tryd.prog (Tryd.f3.params.toList ++ Rows.compareTellsSpec.plain.varTypes Tryd.prog) (ds ++ gs)).all (· ≤ reachBytes) = true) :
    Calls Tryd.prog 3 args W fun e W' => ∃ v, e = .returned v ∧ Rows.compareTellsSpec.post enc Tryd.prog Tryd.f3 false true false false W args v W' := by
  have hval : ∀ (j : Nat) t v, Tryd.f3.params[j]? = some t → args[j]? = some v → Value.okWide Tryd.prog W .any base t v := hval0
  have hW' := hW
  obtain ⟨p, q, hA0, hV, rfl, hfz, hnd⟩ := hW
  have hA : DataW.TrodAll enc Tryd.prog W 0 (fun _ => true) true Tryd.f3.params.toList args.toList ds p := hA0
  have hsz : (DataW.weightsEach Tryd.prog (Tryd.f3.params.toList ++ Rows.compareTellsSpec.plain.varTypes Tryd.prog) (ds ++ gs)).all (· ≤ reachBytes) = true := hsz0
  rw [Tryd.params3] at hA hval hsz
  obtain ⟨v0, vs0, d0, ds0, p0, q0, hargs, rfl, rfl, h0, r0'⟩ := trodAll_cons hA
  obtain ⟨v1, vs1, d1, ds1, p1, q1, rfl, rfl, rfl, h1, r1'⟩ := trodAll_cons r0'
  obtain ⟨v2, vs2, d2, ds2, p2, q2, rfl, rfl, rfl, h2, r2'⟩ := trodAll_cons r1'
  obtain ⟨rfl, rfl, rfl⟩ := trodAll_nil r2'
  obtain rfl : args = #[v0, v1, v2] := by cases args; simp_all
  obtain ⟨rfl, rfl⟩ := trodVars_none hV
  have lt0 : ∀ x ∈ p0, x.block < W.heap.size := by obtain ⟨m, hm⟩ := h0; exact DataW.trod_lt m _ _ _ hm
  have tr0 := h0
  have lt1 : ∀ x ∈ p1, x.block < W.heap.size := by obtain ⟨m, hm⟩ := h1; exact DataW.trod_lt m _ _ _ hm
  have tr1 := h1
  have lt2 : ∀ x ∈ p2, x.block < W.heap.size := by obtain ⟨m, hm⟩ := h2; exact DataW.trod_lt m _ _ _ hm
  have tr2 := h2
  have weightsAt : ∀ (j : Nat) {t : TypeId} {d : DataW H}, (Tryd.f3.params.toList ++ Rows.compareTellsSpec.plain.varTypes Tryd.prog)[j]? = some t → ([d0, d1, d2] ++ [])[j]? = some d → ∀ y ∈ DataW.weights Tryd.prog t d, y ≤ reachBytes := fun j t d ht hd y hy => of_decide_eq_true (List.all_eq_true.1 hsz0 y (DataW.weights_mem_each ht hd y hy))
  obtain ⟨a0, rd0, sz0, k0, li0⟩ := open_arg opens_gram h0
  have lim0 := li0 (weightsAt 0 rfl rfl)
  obtain ⟨u0, rfl, r0⟩ := open_gramV (hval 0 24 v0 rfl rfl) rd0
  obtain ⟨a1, rd1, sz1, k1, li1⟩ := open_arg opens_gram h1
  have lim1 := li1 (weightsAt 1 rfl rfl)
  obtain ⟨u1, rfl, r1⟩ := open_gramV (hval 1 24 v1 rfl rfl) rd1
  obtain ⟨x2, rfl, rfl, rfl, wf2⟩ := open_int Tryd.underlying3 (hval 2 3 v2 rfl rfl) h2
  have k2 : i64 x2 := by simpa [Lit.wf, IntKind.min, IntKind.max, IntKind.signed, IntKind.bits, i64] using wf2
  clear hA0 hval0
  refine (Lg.lawCT a0 a1 x2 u0 u1 W r0 r1 (tabG hL)).mono fun e W' ⟨he, bel⟩ => ?_
  subst he
  exact ⟨_, rfl, _, _, _, [], _, [], hW', trodAll_mk1 (shut_bool Tryd.underlying4 _), (trodAll_cons_mk (Below.trod laidOut (by kernel_rfl) (of_decide_eq_true (by kernel_rfl)) tr0 bel lt0) (trodAll_cons_mk (Below.trod laidOut (by kernel_rfl) (of_decide_eq_true (by kernel_rfl)) tr1 bel lt1) (trodAll_cons_mk (Below.trod laidOut (by kernel_rfl) (of_decide_eq_true (by kernel_rfl)) tr2 bel lt2) trodAll_mk0))), rfl, bel.frame _, fun h => by cases h⟩

/-- A world for the witness: the table holds what its initialiser lays. -/
noncomputable def laidWorld (os : Os) : World :=
  { World.holding Tryd.prog os ⟨#[], #[], []⟩ with heap := (World.holding Tryd.prog os ⟨#[], #[], []⟩).heap.modify 0 fun
      | .cells _ t frozen => .cells (Lib.deBruijn32tab.map fun (z : Nat) => Value.int .u8 (z : Int)).toArray t frozen
      | o => o }
theorem laid_met (os : Os) : laidMet Tryd.prog Rows.compareTellsRow.laid ((laidWorld os).forCall (fun _ _ => 0) ⟨#[], #[.agg #[.int .i64 0, .int .i64 0, .int .i64 0, .slice none 0 0], .agg #[.int .i64 0, .int .i64 0, .int .i64 0, .slice none 0 0], .int .i64 0], []⟩).memory :=
  laidMet_of_run' 8 (by kernel_rfl) (by kernel_rfl)
theorem reads (os : Os) {H : Type} (enc : TypeId × Value → H) : ∃ places, DataW.whole enc Tryd.prog ((laidWorld os).forCall (fun _ _ => 0) ⟨#[], #[.agg #[.int .i64 0, .int .i64 0, .int .i64 0, .slice none 0 0], .agg #[.int .i64 0, .int .i64 0, .int .i64 0, .slice none 0 0], .int .i64 0], []⟩).memory Tryd.f3.params.toList Rows.compareTellsSpec.vars false (#[.agg #[.int .i64 0, .int .i64 0, .int .i64 0, .slice none 0 0], .agg #[.int .i64 0, .int .i64 0, .int .i64 0, .slice none 0 0], .int .i64 0] : Array Value).toList 8 = some ([.agg [.lit (.int .i64 0), .lit (.int .i64 0), .lit (.int .i64 0), .nil], .agg [.lit (.int .i64 0), .lit (.int .i64 0), .lit (.int .i64 0), .nil], .lit (.int .i64 0)], [], places) :=
  ⟨[], by kernel_rfl⟩
set_option maxRecDepth 100000 in
theorem lifted (os : Os) (started : os.Started) (H : Type) (enc : TypeId × Value → H) (F : Stop.Interp) :
    ReturnsInHanded {} Tryd.checked os 3 .any ((OpenSpec.ofChange Rows.compareTellsSpec).preRow enc Tryd.prog Tryd.f3 Rows.compareTellsRow.domain false Rows.compareTellsRow.laid) (((OpenSpec.ofChange Rows.compareTellsSpec).at F).post enc Tryd.prog Tryd.f3 false true false false) := by
  obtain ⟨places, hx⟩ := reads os enc
  refine returnsInHanded_of_row (C := Tryd.checked) (s := (OpenSpec.ofChange Rows.compareTellsSpec)) own started (by kernel_rfl) Tryd.func3
    (witness_row_at (enc := enc) (C := Tryd.checked) false (laidWorld os) #[.agg #[.int .i64 0, .int .i64 0, .int .i64 0, .slice none 0 0], .agg #[.int .i64 0, .int .i64 0, .int .i64 0, .slice none 0 0], .int .i64 0] rfl (by kernel_rfl) (by kernel_rfl) (by kernel_rfl)
      (OpenSpec.preRow_of_cond 8 hx (by kernel_rfl) (fun k hk => by cases hk) (by kernel_rfl) (laid_met os))) ?_
  intro W base args ds gs before hval hW _ hcond hsz0 hL _ _
  exact contract H enc W base args ds gs before hval hW hL hsz0
theorem over : Rows.compareTellsRow.holds Tryd.pinned (OpenSpec.ofChange Rows.compareTellsSpec) :=
  OpenClaim.holds_of_cond 3 Tryd.f3 rfl rfl rfl rfl rfl rfl rfl ⟨rfl, rfl, rfl, rfl, rfl⟩ rfl rfl rfl rfl rfl (by kernel_rfl) Tryd.func3 (by kernel_rfl)
    (of_decide_eq_true (by kernel_rfl)) (by unfold Func.isWrapper; first | (rw [if_pos (by decide +kernel)]; kernel_rfl) | (rw [if_neg (by decide +kernel)]; exact ⟨rfl, rfl⟩))
    (fun os started H enc _ F => by rw [OpenClaim.pre_eq_preRow]; exact lifted os started H enc F)
/-- No parameter wants a stand-in. -/
theorem plain (f : FuncId) (fn : Func) (hf : Tryd.pinned.checked.prog.funcNamed "parlance/parllaw5.CompareTells" = some f) (hfn : Tryd.pinned.checked.prog.funcs[f]? = some fn) :
    false = Tryd.pinned.checked.prog.looks [] ∧ ∀ (j : Nat) t, fn.params[j]? = some t → Tryd.pinned.checked.prog.wantsStandIn t = false := by
  obtain rfl : f = 3 := Option.some.inj ((show Tryd.prog.funcNamed "parlance/parllaw5.CompareTells" = some 3 by kernel_rfl).symm.trans hf) |>.symm
  obtain rfl : fn = Tryd.f3 := (Option.some.inj (Tryd.func3.symm.trans hfn)).symm
  refine ⟨by kernel_rfl, fun j t ht => ?_⟩
  rw [Tryd.params3] at ht
  have hm : t ∈ ([24, 3] : List TypeId) := by have := Array.mem_of_getElem? ht; simp at this ⊢; omega
  have hall : (([24, 3] : List TypeId).all fun u => !Tryd.prog.wantsStandIn u) = true := by kernel_rfl
  exact (show Tryd.prog.wantsStandIn t = false by simpa using List.all_eq_true.1 hall t hm)
theorem card : Rows.CompareTellsCardSaid :=
  Claim7.holds_tied_plain_at .later [] _ _ _ _ over (fun _ h => by cases h) (by kernel_rfl) (fun _ h => by cases h) compareTells_row_tie rfl ⟨rfl, rfl⟩ (by kernel_rfl) rfl plain (by kernel_rfl)
end Go.Proofs.YtccjdgjehecdiaaDoor.RowCompareTells
namespace Go.Proofs.YtccjdgjehecdiaaDoor
theorem compareTells_card : Rows.CompareTellsCardSaid := RowCompareTells.card
#print axioms compareTells_card
end Go.Proofs.YtccjdgjehecdiaaDoor
