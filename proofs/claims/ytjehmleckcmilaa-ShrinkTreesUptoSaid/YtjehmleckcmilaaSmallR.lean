/- The contract of Smaller. -/
import Derived.Test.YtjehmleckcmilaaOutRel
import Derived.Test.YtjehmleckcmilaaChangedWalk
import Derived.Deep.QuietTactic
import Derived.BigQuiet
import Derived.Deep.DeepCutAuto
namespace Go.Proofs.Ytjehmleckcmilaa
open Go.RowKit

/-- the list of the first n parts -/
def smallTo (g : Gram) (t : Tree) (n : Nat) : List Tree := ((parts t).zipIdx.take n).flatMap fun z => smallR g t z.2 z.1
theorem smallTo_next {g : Gram} {t : Tree} {n : Nat} (h : n < (parts t).length) : smallTo g t (n + 1) = smallTo g t n ++ smallR g t n (parts t)[n] := by
  unfold smallTo
  rw [flatMap_take _ (by simpa using h)]
  simp
theorem smallTo_end {g : Gram} {t : Tree} {n : Nat} (h : (parts t).length ≤ n) : smallTo g t n = smallerR g t := by
  unfold smallTo smallerR
  rw [List.take_of_length_le (by simpa using h)]
/-- of one part: by the first j below it -/
def smallTo1 (g : Gram) (t : Tree) (n : Nat) (x : Tree) (j : Nat) : List Tree := (((parts x).drop 1).take j).flatMap (smallR1 g t n x)
theorem smallTo1_next {g : Gram} {t x : Tree} {n j : Nat} (h : j < ((parts x).drop 1).length) : smallTo1 g t n x (j + 1) = smallTo1 g t n x j ++ smallR1 g t n x ((parts x).drop 1)[j] := flatMap_take _ h
theorem smallTo1_end {g : Gram} {t x : Tree} {n j : Nat} (h : ((parts x).drop 1).length ≤ j) (hr : ¬ x.rule < 0) : smallTo1 g t n x j = smallR g t n x := by
  unfold smallTo1 smallR
  rw [List.take_of_length_le h, if_neg hr]
theorem smallR1_len (g : Gram) (t : Tree) (n : Nat) (x y : Tree) : (smallR1 g t n x y).length ≤ 1 := by
  unfold smallR1; split <;> simp
theorem smallTo1_len (g : Gram) (t : Tree) (n : Nat) (x : Tree) (j : Nat) : (smallTo1 g t n x j).length ≤ x.size := by
  unfold smallTo1
  have h := flatMap_le (f := smallR1 g t n x) (c := 1) (l := ((parts x).drop 1).take j) fun a _ => smallR1_len g t n x a
  simp only [List.length_take, List.length_drop, parts_len] at h
  omega
theorem smallR_len (g : Gram) (t : Tree) (n : Nat) (x : Tree) : (smallR g t n x).length ≤ x.size := by
  by_cases hr : x.rule < 0
  · simp [smallR, hr]
  · rw [← smallTo1_end (Nat.le_refl _) hr]; exact smallTo1_len ..
theorem smallTo_len {g : Gram} {t : Tree} (hs : t.size ≤ 60) (n : Nat) : (smallTo g t n).length ≤ 3600 := by
  unfold smallTo
  have h := flatMap_le (f := fun z : Tree × Nat => smallR g t z.2 z.1) (c := 60) (l := (parts t).zipIdx.take n) fun a ha => by
    have h1 := smallR_len g t a.2 a.1
    have h2 := List.mem_of_mem_take ha
    have h3 : a.1 ∈ parts t := (List.mem_zipIdx h2).2.2 ▸ List.getElem_mem _
    have h4 := part_size t a.1 h3
    omega
  simp only [List.length_take, List.length_zipIdx, parts_len] at h
  omega

set_option maxHeartbeats 4000000 in
set_option maxRecDepth 100000 in
theorem smallRE (S0 : Nat → Prop) (g : Gram) (ar : Option Addr) (cr : Nat) (t : Tree) (v : Value) (w : World) (hS : ∀ k, S0 k → k < w.heap.size) (hgd : good g t) (hr : Rd AnyB w (.sl (g.rules.map Rule.d)) [.slice ar g.rules.length cr]) (hv : Rd S0 w (.sl (t.kids.map Tree.d)) [v]) (hs : t.size ≤ 60) :
    Calls Try.prog 75 #[.agg #[.int .i64 g.terms, .int .i64 g.nons, .int .i64 g.start, .slice ar g.rules.length cr], .agg #[.int .i64 t.rule, .int .i64 t.term, v]] w (TreesPost S0 (smallerR g t) w) := by
  obtain ⟨a, nk, cap, rfl⟩ := treeBox hv.any
  have HS := Lib.hid hS
  have hrb := hr.bounds
  unfold maxLen at hrb
  obtain ⟨-, hrb1, hrb2⟩ := hrb
  have HV := Lib.hid hv
  have HR := Lib.hid hr
  have HGD := Lib.hid hgd
  have HSZ := Lib.hid hs
  obtain ⟨gt, HGT⟩ := nameIt g.terms
  obtain ⟨gn, HGN⟩ := nameIt g.nons
  obtain ⟨gs, HGS⟩ := nameIt g.start
  obtain ⟨nr, HNR⟩ := nameIt g.rules.length
  obtain ⟨r, HRr⟩ := nameIt t.rule
  obtain ⟨tm, HRt⟩ := nameIt t.term
  rw [HNR.out] at HR hrb1
  rw [HGT.out, HGN.out, HGS.out, HNR.out, HRr.out, HRt.out]
  obtain ⟨w0, HW0⟩ := nameIt ((w.alloc (.cells #[.int .i64 gt, .int .i64 gn, .int .i64 gs, .slice ar nr cr] 77)).alloc (.cells #[.int .i64 r, .int .i64 tm, .slice a nk cap] 43))
  have HB0 : Hid (Below w.heap.size w w0) := by rw [← HW0.out]; exact ((Below.refl _ _).alloc (Nat.le_refl _) _).alloc (by simp) _
  have XG : Hid (w0.heap[w.heap.size]? = some (.cells #[.int .i64 gt, .int .i64 gn, .int .i64 gs, .slice ar nr cr] 77 (0, 0))) := by
    rw [← HW0.out]; exact bx_keep (bx_new _ _ _ rfl) ((Below.refl _ _).alloc (Nat.le_refl _) _)
  have XT : Hid (w0.heap[w.heap.size + 1]? = some (.cells #[.int .i64 r, .int .i64 tm, .slice a nk cap] 43 (0, 0))) := by
    rw [← HW0.out]; exact bx_new _ _ _ (by simp)
  have hp := partsE S0 _ t _ w0 (Nat.le_refl _) (fun k hk => by have := HB0.out.size; have := hS k hk; omega) (hv.below HB0.out) (by omega)
  rw [HRr.out, HRt.out] at hp
  have HP := Lib.hid hp
  obtain ⟨x0, x1, x2⟩ := bx_cells3 XT.out
  clear hv hr hgd hs hp hS
  go_enter Try.func75, Try.ntmps75
  go_upto_region 2 with fail
  rw [HW0.out]
  go_wp2_with fail
  refine HP.out.mono ?_
  rintro e w1 ⟨v1, rfl, hr1, hb1⟩
  have HB1 : Hid (Below w.heap.size w w1) := HB0.out.trans (hb1.mono HB0.out.size)
  have XG1 := Lib.hid (bx_keep XG.out hb1)
  have XT1 := Lib.hid (bx_keep XT.out hb1)
  have HR1 : Hid (Rd (fun k => (S0 k ∨ w.heap.size ≤ k) ∧ k < w1.heap.size) w1 (.sl ((parts t).map Tree.d)) [v1]) := by
    have h0 := HB0.out.size
    exact hr1.mono fun k hk hlt => ⟨hk.imp id (fun h => by omega), hlt⟩
  obtain ⟨P, HPN⟩ := nameIt (parts t)
  rw [HPN.out] at HR1
  obtain ⟨a1, c1, rfl, h11, h12⟩ := HR1.out.form
  rw [List.length_map] at h11 HR1
  rw [List.length_map]
  have hpl : P.length ≤ 60 := by rw [← HPN.out, parts_len]; exact HSZ.out
  unfold maxLen at h12
  clear hr1 hb1 x0 x1 x2 XG XT HP HW0
  go_wp2_with fail
  go_loopg [5, 15] P.length (fun gg v5 v15 wr => ∃ n : Nat, n ≤ P.length ∧ P.length - n ≤ gg ∧ v15 = .int .i64 n ∧ Hid (RowD (fun k => S0 k ∨ w.heap.size ≤ k) w1.heap.size 43 3 ((smallTo g t n).map Tree.d) v5 wr) ∧ Hid (Below w1.heap.size w1 wr))
  case atStart => exact ⟨0, by omega, by omega, rfl, by show RowD _ _ _ _ _ _ _; simpa [smallTo] using RowD.nil (fun k => S0 k ∨ w.heap.size ≤ k) w1.heap.size 43 3 w1 (Nat.le_refl _), Below.refl _ _⟩
  case round =>
    obtain ⟨wo, rfl⟩ : ∃ wo : World, wo = wr := ⟨_, rfl⟩
    obtain ⟨n, hn, hg, rfl, HO, HBO⟩ := hrel
    obtain ⟨a5, c5, rfl, hc1, hc2, hc3⟩ := HO.out.form
    have HOL := Lib.hid hc3
    unfold maxLen at hc2
    clear hc3
    obtain ⟨no, HNO⟩ := nameIt ((smallTo g t n).map Tree.d).length
    rw [HNO.out] at HO HOL hc1
    rw [HNO.out]
    by_cases hlt : n < P.length
    · have hlt' : (n : Int) < (P.length : Int) := by omega
      obtain ⟨b, off, vx, hae, hSb, hbl, k0, k1, k2, hkid⟩ := HR1.out.kid hlt
      obtain ⟨av, nv, cv, rfl⟩ := treeBox hkid.any
      have e0 := (HBO.out.cell (p := ⟨b, off + n * 3, none⟩) hbl).trans k0
      have e1 := (HBO.out.cell (p := ⟨b, off + n * 3 + 1, none⟩) hbl).trans k1
      have e2 := (HBO.out.cell (p := ⟨b, off + n * 3 + 2, none⟩) hbl).trans k2
      have HXM : Hid (P[n] ∈ parts t) := by rw [HPN.out]; exact List.getElem_mem hlt
      have HNX : Hid (smallTo g t (n + 1) = smallTo g t n ++ smallR g t n P[n]) := by
        show _ = _
        have h := smallTo_next (g := g) (t := t) (n := n) (by rw [HPN.out]; exact hlt)
        simp only [HPN.out] at h
        exact h
      obtain ⟨x, HX⟩ := nameIt (P[n]'hlt)
      rw [HX.out] at e0 e1 hkid HXM HNX
      have HGX := Lib.hid (good_part t HGD.out x HXM.out)
      have hxs := part_size t x HXM.out
      obtain ⟨q0, HQ0⟩ := nameIt x.rule
      obtain ⟨q1, HQ1⟩ := nameIt x.term
      rw [HQ0.out] at e0
      rw [HQ1.out] at e1
      have HTL := Lib.hid (smallTo_len (g := g) HSZ.out n)
      obtain ⟨O, HON⟩ := nameIt (smallTo g t n)
      rw [HON.out] at HO HNX HTL HNO
      rw [List.length_map] at HNO
      subst hae
      by_cases hq : q0 < 0
      · have hqb : decide (q0 < 0) = true := by simpa using hq
        have HNE : Hid (smallTo g t (n + 1) = O) := by show _ = _; rw [HNX.out, smallR, HQ0.out, if_pos hq]; simp
        have HO2 := Lib.hid (HO.out.keep ((Below.refl wo.heap.size wo).alloc (Nat.le_refl _) (.cells #[.int .i64 q0, .int .i64 q1, .slice av nv cv] 43)))
        have HB2 := Lib.hid (HBO.out.alloc HBO.out.size (.cells #[.int .i64 q0, .int .i64 q1, .slice av nv cv] 43))
        rw [← HNE.out] at HO2
        clear k0 k1 k2 hkid hq
        go_wp2_with fail
        go_roundg (P.length - (n + 1))
        case measure => omega
        case rel => exact ⟨n + 1, by omega, by omega, by go_num, HO2, HB2⟩
      · have hqb : decide (q0 < 0) = false := by simpa using hq
        obtain ⟨w2, HW2⟩ := nameIt (wo.alloc (.cells #[.int .i64 q0, .int .i64 q1, .slice av nv cv] 43))
        have HB2 : Hid (Below wo.heap.size wo w2) := by rw [← HW2.out]; exact (Below.refl _ _).alloc (Nat.le_refl _) _
        have X2 : Hid (w2.heap[wo.heap.size]? = some (.cells #[.int .i64 q0, .int .i64 q1, .slice av nv cv] 43 (0, 0))) := by rw [← HW2.out]; exact bx_new _ _ _ rfl
        have HBW2 : Hid (Below w1.heap.size w1 w2) := HBO.out.trans (HB2.out.mono HBO.out.size)
        have hp := partsE (fun k => (S0 k ∨ w.heap.size ≤ k) ∧ k < w1.heap.size) _ x _ w2 (Nat.le_refl _) (fun k hk => by have := HBW2.out.size; have := hk.2; omega) (hkid.below HBW2.out) (by have := HSZ.out; omega)
        rw [HQ0.out, HQ1.out] at hp
        have HP := Lib.hid hp
        have HQN := Lib.hid hq
        obtain ⟨y0, y1, y2⟩ := bx_cells3 X2.out
        clear k0 k1 k2 hkid hp hq
        go_upto_region 5 with fail
        rw [HW2.out]
        go_wp2_with fail
        refine HP.out.mono ?_
        rintro e w3 ⟨v3, rfl, hr3, hb3⟩
        have HB3 : Hid (Below wo.heap.size wo w3) := HB2.out.trans (hb3.mono HB2.out.size)
        have HBW3 : Hid (Below w1.heap.size w1 w3) := HBW2.out.trans (hb3.mono HBW2.out.size)
        have X3 := Lib.hid (bx_keep X2.out hb3)
        have HI3 := Lib.hid (HO.out.keep HB3.out)
        have HR3 : Hid (Rd (fun k => (S0 k ∨ w.heap.size ≤ k) ∧ (Value.slice a5 no c5).ownBlock ≠ some k) w3 (.sl ((parts x).map Tree.d)) [v3]) := by
          have h2 := HB2.out.size
          have h3 := HBO.out.size
          have h4 := HB1.out.size
          refine hr3.mono fun k hk hlt => ⟨?_, fun e => ?_⟩
          · rcases hk with hk | hk
            · exact hk.1
            · exact .inr (by omega)
          · have h1 := HOL.out k e
            rcases hk with hk | hk
            · have := hk.2; omega
            · omega
        have hpl3 : 0 < (parts x).length := by rw [parts_eq]; simp
        have hpl4 : (parts x).length ≤ 60 := by rw [parts_len]; have := HSZ.out; omega
        obtain ⟨b3, o3, c3, rfl, h31, h32⟩ := HR3.out.headed (by simpa using hpl3) (trees_cells _) (by decide)
        unfold maxLen at h32
        rw [List.length_map] at h31 HR3
        rw [List.length_map]
        obtain ⟨n3, HN3⟩ := nameIt (parts x).length
        rw [HN3.out] at hpl3 hpl4 h31 HR3
        rw [HN3.out]
        obtain ⟨m3, rfl⟩ : ∃ m, n3 = m + 1 := ⟨n3 - 1, by omega⟩
        obtain ⟨jx, rfl⟩ := Int.eq_ofNat_of_zero_le (show 0 ≤ q0 by have := HQN.out; omega)
        have hjx : jx < nr := by
          have h1 := (good_eq.1 HGX.out).2.2.1
          rw [HQ0.out, HNR.out] at h1
          omega
        have hjx0 : (0 : Int) ≤ (jx : Int) := by omega
        have hjx1 : (jx : Int) < (nr : Int) := by omega
        obtain ⟨bg, og, vg, hag, -, hgbl, gx0, -, -⟩ := HR.out.rule_at (i := jx) (by rw [HNR.out]; exact hjx)
        have HLX : Hid (leftOf g x = some (g.rules[jx]'(by rw [HNR.out]; exact hjx)).left) := by
          show _ = _
          unfold leftOf
          rw [HQ0.out]
          simp [HNR.out, hjx]
        obtain ⟨lx, HLXN⟩ := nameIt (g.rules[jx]'(by rw [HNR.out]; exact hjx)).left
        rw [HLXN.out] at gx0 HLX
        subst hag
        obtain ⟨Y, HY⟩ := nameIt ((parts x).drop 1)
        have HYL : Hid (Y.length = m3) := by show _ = _; rw [← HY.out]; simp [HN3.out]
        have HNY : Hid (∀ j (h : j < Y.length), smallTo1 g t n x (j + 1) = smallTo1 g t n x j ++ smallR1 g t n x Y[j]) := by
          intro j h
          have h1 := smallTo1_next (g := g) (t := t) (x := x) (n := n) (j := j) (by rw [HY.out]; exact h)
          simp only [HY.out] at h1
          exact h1
        have HYE : Hid (smallTo1 g t n x m3 = smallR g t n x) := smallTo1_end (by rw [HY.out, HYL.out]; exact Nat.le_refl _) (by rw [HQ0.out]; omega)
        have HYM : Hid (∀ y ∈ Y, good g y ∧ y.size ≤ 60) := by
          intro y hy
          rw [← HY.out] at hy
          have h1 := List.mem_of_mem_drop hy
          have h2 := part_size x y h1
          have h3 := HSZ.out
          exact ⟨good_part x HGX.out y h1, by omega⟩
        have hvo : ∀ k, (Value.slice a5 no c5).ownBlock = some k → w1.heap.size ≤ k ∧ k < wo.heap.size := HOL.out
        have XG3 := Lib.hid (bx_keep XG1.out HBW3.out)
        have XT3 := Lib.hid (bx_keep XT1.out HBW3.out)
        have hwb : w.heap.size + 1 < w1.heap.size := (Array.getElem?_eq_some_iff.1 XT1.out).1
        have hwo : w1.heap.size ≤ wo.heap.size := HBO.out.size
        have hw3 : wo.heap.size < w3.heap.size := (Array.getElem?_eq_some_iff.1 X3.out).1
        have HVO := Lib.hid hvo
        clear hr3 hb3 y0 y1 y2 HP hvo
        by_cases hct : c3 = 1
        · have ht3 := HR3.out.tail (trees_cells _) (by omega)
          rw [if_pos hct] at ht3
          rw [← List.map_drop, HY.out] at ht3
          simp only [Nat.add_sub_cancel] at ht3
          have HT3 := Lib.hid ht3
          clear ht3
          subst hct
          rw [Nat.sub_self] at HT3
          go_wp2_with fail
          go_loopg [5, 27] m3 (fun gg' v5 v27 wr => ∃ j : Nat, j ≤ m3 ∧ m3 - j ≤ gg' ∧ v27 = .int .i64 j ∧ Hid (InR (fun k => S0 k ∨ w.heap.size ≤ k) w1.heap.size w3 (.slice a5 no c5) ((O ++ smallTo1 g t n x j).map Tree.d) v5 wr))
          case atStart => exact ⟨0, by omega, by omega, rfl, by show InR _ _ _ _ _ _ _; simpa [smallTo1] using InR.start HI3.out⟩
          case round =>
            obtain ⟨j, hj, hgj, rfl, HI⟩ := hrel
            obtain ⟨ai, ci, rfl, hd1, hd2, hd3⟩ := HI.out.row.form
            have HIL := Lib.hid hd3
            unfold maxLen at hd2
            clear hd3
            obtain ⟨ni, HNI⟩ := nameIt ((O ++ smallTo1 g t n x j).map Tree.d).length
            rw [HNI.out] at HI HIL hd1
            rw [HNI.out]
            have HBR : Hid (Below w1.heap.size w1 wr) := HI.out.below HBW3.out (by omega) (fun k e => (HVO.out k e).1)
            by_cases hjl : j < m3
            · exfalso; omega
            · have hjl' : ¬ (j : Int) < (m3 : Int) := by omega
              have HE : Hid ((O ++ smallTo1 g t n x j).map Tree.d = (smallTo g t (n + 1)).map Tree.d) := by
                show _ = _
                rw [HNX.out, show j = m3 by omega, HYE.out]
              have HRR := Lib.hid HI.out.row
              rw [HE.out] at HRR
              go_wp2_with fail
              go_roundg (P.length - (n + 1))
              case measure => omega
              case rel => exact ⟨n + 1, by omega, by omega, by go_num, HRR, HBR⟩
        · have ht3 := HR3.out.tail (trees_cells _) (by omega)
          rw [if_neg hct] at ht3
          rw [← List.map_drop, HY.out] at ht3
          simp only [Nat.add_sub_cancel] at ht3
          have HT3 := Lib.hid ht3
          clear ht3
          go_wp2_with fail
          go_loopg [5, 27] m3 (fun gg' v5 v27 wr => ∃ j : Nat, j ≤ m3 ∧ m3 - j ≤ gg' ∧ v27 = .int .i64 j ∧ Hid (InR (fun k => S0 k ∨ w.heap.size ≤ k) w1.heap.size w3 (.slice a5 no c5) ((O ++ smallTo1 g t n x j).map Tree.d) v5 wr))
          case atStart => exact ⟨0, by omega, by omega, rfl, by show InR _ _ _ _ _ _ _; simpa [smallTo1] using InR.start HI3.out⟩
          case round =>
            obtain ⟨j, hj, hgj, rfl, HI⟩ := hrel
            obtain ⟨ai, ci, rfl, hd1, hd2, hd3⟩ := HI.out.row.form
            have HIL := Lib.hid hd3
            unfold maxLen at hd2
            clear hd3
            obtain ⟨ni, HNI⟩ := nameIt ((O ++ smallTo1 g t n x j).map Tree.d).length
            rw [HNI.out] at HI HIL hd1
            rw [HNI.out]
            have HBR : Hid (Below w1.heap.size w1 wr) := HI.out.below HBW3.out (by omega) (fun k e => (HVO.out k e).1)
            by_cases hjl : j < m3
            · have hjl' : (j : Int) < (m3 : Int) := by omega
              have hjy : j < Y.length := by rw [HYL.out]; exact hjl
              obtain ⟨by', oy, vy, haey, hSy, hyl, f0, f1, f2, hkid⟩ := (HI.out.rdT HT3.out).kid hjy
              obtain ⟨ay, ny, cy, rfl⟩ := treeBox hkid.any
              have HYN := Lib.hid (HNY.out j hjy)
              have hym := HYM.out Y[j] (List.getElem_mem hjy)
              obtain ⟨y, HYY⟩ := nameIt (Y[j]'hjy)
              rw [HYY.out] at f0 f1 hkid HYN hym
              obtain ⟨p0, HP0⟩ := nameIt y.rule
              obtain ⟨p1, HP1⟩ := nameIt y.term
              rw [HP0.out] at f0
              rw [HP1.out] at f1
              obtain ⟨w4, HW4⟩ := nameIt (wr.alloc (.cells #[.int .i64 p0, .int .i64 p1, .slice ay ny cy] 43))
              have HB4 : Hid (Below wr.heap.size wr w4) := by rw [← HW4.out]; exact (Below.refl _ _).alloc (Nat.le_refl _) _
              have X4 : Hid (w4.heap[wr.heap.size]? = some (.cells #[.int .i64 p0, .int .i64 p1, .slice ay ny cy] 43 (0, 0))) := by rw [← HW4.out]; exact bx_new _ _ _ rfl
              have XG4 := Lib.hid (bx_keep (HI.out.block XG3.out (fun e => by have := HVO.out _ e; omega)) HB4.out)
              have XT4 := Lib.hid (bx_keep (HI.out.block XT3.out (fun e => by have := HVO.out _ e; omega)) HB4.out)
              have XX4 := Lib.hid (bx_keep (HI.out.block X3.out (fun e => by have := HVO.out _ e; omega)) HB4.out)
              have HBW4 : Hid (Below w.heap.size w w4) := by
                have h := HB1.out.trans (HBR.out.mono HB1.out.size)
                exact h.trans (HB4.out.mono h.size)
              have HKY := Lib.hid (hkid.below HB4.out)
              have HI4 := Lib.hid (HI.out.keep HB4.out)
              have hw4 : wr.heap.size < w4.heap.size := (Array.getElem?_eq_some_iff.1 X4.out).1
              have hwr3 : w3.heap.size ≤ wr.heap.size := HI.out.gr.size
              obtain ⟨cb, HCB⟩ := nameIt (decide (0 ≤ y.rule ∧ leftOf g y = leftOf g x))
              rw [HP0.out] at HCB
              have HYV : Hid (smallR1 g t n x y = if cb then [(chg t n y).1] else []) := by
                show _ = _
                rw [← HCB.out]
                unfold smallR1
                rw [HP0.out]
                simp only [decide_eq_true_eq]
              obtain ⟨g0, g1, g2, g3⟩ := bx_cells4 XG4.out
              obtain ⟨t0, t1, t2⟩ := bx_cells3 XT4.out
              obtain ⟨z0, z1, z2⟩ := bx_cells3 XX4.out
              obtain ⟨y0, y1, y2⟩ := bx_cells3 X4.out
              have gx4 := (HBW4.out.cell (p := ⟨bg, og + jx * 2, none⟩) hgbl).trans gx0
              cases haey
              clear hkid
              go_upto_region 9 with fail
              rw [HW4.out]
              go_cut [50] (fun tt wx => tt = .bool cb ∧ Hid (Below w4.heap.size w4 wx))
              case first =>
                by_cases hp0 : p0 < 0
                · have hpb : decide (0 ≤ p0) = false := by simpa using hp0
                  obtain rfl : cb = false := by rw [← HCB.out]; simp; omega
                  clear hp0
                  go_quiet (fail)
                  go_wp2_with fail
                  go_meet
                  exact ⟨rfl, below_drewN _ _⟩
                · obtain ⟨jy, rfl⟩ := Int.eq_ofNat_of_zero_le (show 0 ≤ p0 by omega)
                  have hpb : decide ((0 : Int) ≤ (jy : Int)) = true := by simp
                  have hjy1 : jy < nr := by
                    have h1 := (good_eq.1 hym.1).2.2.1
                    rw [HP0.out, HNR.out] at h1
                    omega
                  have hjy0 : (0 : Int) ≤ (jy : Int) := by omega
                  have hjy2 : (jy : Int) < (nr : Int) := by omega
                  obtain ⟨bg', og', vg', hag', -, -, gy0, -, -⟩ := HR.out.rule_at (i := jy) (by rw [HNR.out]; exact hjy1)
                  cases hag'
                  have HLY : Hid (leftOf g y = some (g.rules[jy]'(by rw [HNR.out]; exact hjy1)).left) := by
                    show _ = _
                    unfold leftOf
                    rw [HP0.out]
                    simp [HNR.out, hjy1]
                  obtain ⟨ly, HLYN⟩ := nameIt (g.rules[jy]'(by rw [HNR.out]; exact hjy1)).left
                  rw [HLYN.out] at gy0 HLY
                  have gy4 := (HBW4.out.cell (p := ⟨bg, og + jy * 2, none⟩) hgbl).trans gy0
                  have hcb : (ly == lx) = cb := by
                    rw [← HCB.out, HLX.out, HLY.out, Bool.eq_iff_iff]
                    simp
                  clear hp0 gy0
                  go_quiet (fail)
                  go_wp2_with fail
                  go_meet
                  exact ⟨rfl, below_drewN _ _⟩
              case rest =>
                obtain ⟨rfl, HB5⟩ := hcut
                have HI5 := Lib.hid (HI4.out.keep HB5.out)
                have XT5 := Lib.hid (bx_keep XT4.out HB5.out)
                have X5 := Lib.hid (bx_keep X4.out HB5.out)
                clear g0 g1 g2 g3 t0 t1 t2 z0 z1 z2 y0 y1 y2 gx4
                cases cb with
                | false =>
                  have HE : Hid ((O ++ smallTo1 g t n x (j + 1)).map Tree.d = (O ++ smallTo1 g t n x j).map Tree.d) := by
                    show _ = _
                    rw [HYN.out, HYV.out]; simp
                  rw [← HE.out] at HI5
                  go_wp2_with fail
                  go_roundg (m3 - (j + 1))
                  case measure => omega
                  case rel => exact ⟨j + 1, by omega, by omega, by go_num, HI5⟩
                | true =>
                  have HE : Hid ((O ++ smallTo1 g t n x (j + 1)).map Tree.d = (O ++ smallTo1 g t n x j).map Tree.d ++ [(chg t n y).1.d]) := by
                    show _ = _
                    rw [HYN.out, HYV.out]; simp
                  have hsz5 := HB5.out.size
                  have HBW5 : Hid (Below w.heap.size w wc) := HBW4.out.trans (HB5.out.mono HBW4.out.size)
                  have hch := changedE (fun k => (S0 k ∨ w.heap.size ≤ k) ∧ k < wc.heap.size ∧ (Value.slice ai ni ci).ownBlock ≠ some k) _ t _ (n : Int) y _ wc (Nat.le_refl _) (fun k hk => hk.2.1) ((HV.out.below HBW5.out).mono fun k hk hlt => ⟨.inl hk, hlt, fun e => by have := (HIL.out k e).1; have := HS.out k hk; omega⟩) ((HKY.out.below HB5.out).mono fun k hk hlt => ⟨hk.1, hlt, hk.2.2⟩) (by omega) (by omega) (by have := HSZ.out; omega)
                  rw [HRr.out, HRt.out, HP0.out, HP1.out] at hch
                  obtain ⟨cz, HCZ⟩ := nameIt (chg t (n : Int) y)
                  rw [HCZ.out] at hch HE
                  obtain ⟨z, zn⟩ := cz
                  have HCH := Lib.hid hch
                  obtain ⟨t0, t1, t2⟩ := bx_cells3 XT5.out
                  obtain ⟨y0, y1, y2⟩ := bx_cells3 X5.out
                  clear hch
                  go_wp2_with fail
                  refine HCH.out.mono ?_
                  rintro e w6 ⟨v6, rfl, hr6, hb6⟩
                  obtain ⟨a6, n6, c6, rfl⟩ := treeBox hr6.any
                  simp only at hr6
                  obtain ⟨s0, HZ0⟩ := nameIt z.rule
                  obtain ⟨s1, HZ1⟩ := nameIt z.term
                  simp only [HZ0.out, HZ1.out]
                  obtain ⟨w7, HW7⟩ := nameIt (w6.alloc (.cells #[.int .i64 s0, .int .i64 s1, .slice a6 n6 c6] 43))
                  have HB7 : Hid (Below w6.heap.size w6 w7) := by rw [← HW7.out]; exact (Below.refl _ _).alloc (Nat.le_refl _) _
                  have X7 : Hid (w7.heap[w6.heap.size]? = some (.cells #[.int .i64 s0, .int .i64 s1, .slice a6 n6 c6] 43 (0, 0))) := by rw [← HW7.out]; exact bx_new _ _ _ rfl
                  have HI7 := Lib.hid ((HI5.out.keep hb6).keep HB7.out)
                  have HR7 := Lib.hid (hr6.below HB7.out)
                  obtain ⟨xs, ho, hd⟩ := HI7.out.row.own
                  rw [HNI.out] at ho
                  have HO7 := Lib.hid ho
                  have HD7 := Lib.hid hd
                  have hni : ni ≤ 4000 := by
                    have h1 := smallTo1_len g t n x j
                    have h2 := HTL.out
                    have h3 := HNI.out
                    have h4 := HSZ.out
                    simp at h3
                    omega
                  have hle7 := HI7.out.row.le
                  obtain ⟨r0, r1, r2⟩ := bx_cells3 X7.out
                  have hsz6 := hb6.size
                  clear hr6 hb6 t0 t1 t2 y0 y1 y2 ho hd
                  go_upto_region 11 with fail
                  rw [HW7.out]
                  go_wp2_with (at_builtin; refine wp_app1at elTree rfl _ _ rfl HO7.out rfl rfl (by simp) rfl rfl (by omega) (by unfold maxLen; omega) (by omega) ?_)
                  intro v' w8 ho8 hg8 hat8
                  have HI8 : Hid (InR (fun k => S0 k ∨ w.heap.size ≤ k) w1.heap.size w3 (.slice a5 no c5) ((O ++ smallTo1 g t n x j).map Tree.d ++ [z.d]) v' w8) := by
                    refine InR.step HI7.out HO7.out HD7.out HNI.out.symm HR7.out (fun k hk => ?_) (by rw [HZ0.out, HZ1.out]; exact ho8) hg8 hat8
                    have h5 := HBW5.out.size
                    rcases hk with hk | hk
                    · exact ⟨hk.1, hk.2.2⟩
                    · refine ⟨.inr (by omega), fun e => ?_⟩
                      have h1 := (HIL.out k e).2
                      omega
                  rw [← HE.out] at HI8
                  obtain ⟨a8, c8, rfl, -, -⟩ := own_len ho8
                  clear ho8 hg8 hat8
                  go_wp2_with fail
                  go_roundg (m3 - (j + 1))
                  case measure => omega
                  case rel => exact ⟨j + 1, by omega, by omega, by go_num, HI8⟩
            · have hjl' : ¬ (j : Int) < (m3 : Int) := by omega
              have HE : Hid ((O ++ smallTo1 g t n x j).map Tree.d = (smallTo g t (n + 1)).map Tree.d) := by
                show _ = _
                rw [HNX.out, show j = m3 by omega, HYE.out]
              have HRR := Lib.hid HI.out.row
              rw [HE.out] at HRR
              go_wp2_with fail
              go_roundg (P.length - (n + 1))
              case measure => omega
              case rel => exact ⟨n + 1, by omega, by omega, by go_num, HRR, HBR⟩
    · have hlt' : ¬ (n : Int) < (P.length : Int) := by omega
      have HPE : Hid ((smallerR g t).map Tree.d = (smallTo g t n).map Tree.d) := by
        show _ = _
        rw [smallTo_end (by rw [HPN.out]; omega)]
      obtain ⟨O, HON⟩ := nameIt ((smallTo g t n).map Tree.d)
      rw [HON.out] at HO HPE
      clear HOL hc1
      go_wp2_with fail
      go_ret
      refine ⟨_, rfl, ?_, HB1.out.trans (HBO.out.mono HB1.out.size)⟩
      rw [HPE.out]
      have hw1 := HB1.out.size
      exact HO.out.rd.mono fun k hk _ => by
        rcases hk with hk | hk
        · exact hk
        · exact .inr (by omega)
end Go.Proofs.Ytjehmleckcmilaa
