/- The contract of shrink.smaller. -/
import Derived.Test.YtjehmleckcmilaaOutRel
import Derived.Test.YtjehmleckcmilaaApsWalk
import Derived.Test.YtjehmleckcmilaaRootWalk
import Derived.Test.YtjehmleckcmilaaTwo
import Derived.Deep.QuietTactic
import Derived.BigQuiet
import Derived.Deep.DeepCutAuto
namespace Go.Proofs.Ytjehmleckcmilaa
open Go.RowKit

theorem aps0E (t : Tree) (v : Value) (w : World) (hv : Rd AnyB w (.sl (t.kids.map Tree.d)) [v]) (hs : t.size ≤ 1000000) :
    Calls Try.prog 209 #[.agg #[.int .i64 t.rule, .int .i64 t.term, v], .slice none 0 0] w (ListsPost (fun _ => False) (aps t) w) := by
  have h := apsE _ (fun _ => False) t v [] none 0 w (Nat.le_refl _) (fun _ h => h.elim) hv (rd_nil _ _) (by simpa using hs)
  simpa using h

/-- the list of the first n paths -/
def smallCTo (g : Gram) (t : Tree) (n : Nat) : List Tree := ((aps t).take n).flatMap (smallC g t)
theorem smallCTo_next {g : Gram} {t : Tree} {n : Nat} (h : n < (aps t).length) : smallCTo g t (n + 1) = smallCTo g t n ++ smallC g t (aps t)[n] := flatMap_take _ h
theorem smallCTo_end {g : Gram} {t : Tree} {n : Nat} (h : (aps t).length ≤ n) : smallCTo g t n = smallerC g t := by
  unfold smallCTo smallerC
  rw [List.take_of_length_le h]
/-- of one part x at p: by the first j paths below it -/
def smallCTo1 (g : Gram) (t : Tree) (p : List Int) (x : Tree) (j : Nat) : List Tree := (((aps x).drop 1).take j).flatMap fun q => smallC1 g t p x ((belowT x q).getD noTree)
theorem smallCTo1_next {g : Gram} {t x : Tree} {p : List Int} {j : Nat} (h : j < ((aps x).drop 1).length) : smallCTo1 g t p x (j + 1) = smallCTo1 g t p x j ++ smallC1 g t p x ((belowT x ((aps x).drop 1)[j]).getD noTree) := flatMap_take (fun q => smallC1 g t p x ((belowT x q).getD noTree)) h
theorem smallCTo1_end {g : Gram} {t x : Tree} {p : List Int} {j : Nat} (hb : belowT t p = some x) (h : ((aps x).drop 1).length ≤ j) (hr : ¬ x.rule < 0) : smallCTo1 g t p x j = smallC g t p := by
  unfold smallCTo1 smallC
  rw [hb, Option.getD_some, List.take_of_length_le h, if_neg hr]
theorem smallC1_len (g : Gram) (t : Tree) (p : List Int) (x y : Tree) : (smallC1 g t p x y).length ≤ 1 := by
  unfold smallC1; split <;> simp
theorem smallCTo1_len (g : Gram) (t : Tree) (p : List Int) (x : Tree) (j : Nat) : (smallCTo1 g t p x j).length ≤ x.size := by
  unfold smallCTo1
  have h := flatMap_le (f := fun q => smallC1 g t p x ((belowT x q).getD noTree)) (c := 1) (l := ((aps x).drop 1).take j) fun a _ => smallC1_len g t p x _
  simp only [List.length_take, List.length_drop, aps_len] at h
  omega
theorem smallC_len {g : Gram} {t : Tree} (hg : good g t) (p : List Int) (hp : p ∈ aps t) : (smallC g t p).length ≤ t.size := by
  obtain ⟨n, hn, rfl⟩ := List.getElem_of_mem hp
  have hb := ap_below hg n hn
  have hm := part_size t _ (List.getElem_mem (l := parts t) (n := n) (by rw [parts_len, ← aps_len]; exact hn))
  by_cases hr : ((parts t)[n]'(by rw [parts_len, ← aps_len]; exact hn)).rule < 0
  · unfold smallC; rw [hb]; simp [hr]
  · rw [← smallCTo1_end hb (Nat.le_refl _) hr]
    exact Nat.le_trans (smallCTo1_len ..) hm
theorem smallCTo_len {g : Gram} {t : Tree} (hg : good g t) (hs : t.size ≤ 60) (n : Nat) : (smallCTo g t n).length ≤ 3600 := by
  unfold smallCTo
  have h := flatMap_le (f := smallC g t) (c := 60) (l := (aps t).take n) fun a ha => by
    have h1 := smallC_len hg a (List.mem_of_mem_take ha)
    omega
  simp only [List.length_take, aps_len] at h
  omega
theorem cells10 {W w' : World} (hb : Below W.heap.size W w') {b1 b2 b3 : Nat} {T1 T2 T3 : TypeId} {a0 a1 a2 a3 c0 c1 c2 d0 d1 d2 : Value} (h1 : W.heap[b1]? = some (.cells #[a0, a1, a2, a3] T1 (0, 0))) (h2 : W.heap[b2]? = some (.cells #[c0, c1, c2] T2 (0, 0))) (h3 : W.heap[b3]? = some (.cells #[d0, d1, d2] T3 (0, 0))) :
    w'.cell? ⟨b1, 0, none⟩ = some a0 ∧ w'.cell? ⟨b1, 0 + 1, none⟩ = some a1 ∧ w'.cell? ⟨b1, 0 + 2, none⟩ = some a2 ∧ w'.cell? ⟨b1, 0 + 3, none⟩ = some a3 ∧ w'.cell? ⟨b2, 0, none⟩ = some c0 ∧ w'.cell? ⟨b2, 0 + 1, none⟩ = some c1 ∧ w'.cell? ⟨b2, 0 + 2, none⟩ = some c2 ∧ w'.cell? ⟨b3, 0, none⟩ = some d0 ∧ w'.cell? ⟨b3, 0 + 1, none⟩ = some d1 ∧ w'.cell? ⟨b3, 0 + 2, none⟩ = some d2 := by
  obtain ⟨x1, x2, x3, x4⟩ := bx_cells4 (bx_keep h1 hb)
  obtain ⟨y1, y2, y3⟩ := bx_cells3 (bx_keep h2 hb)
  obtain ⟨z1, z2, z3⟩ := bx_cells3 (bx_keep h3 hb)
  exact ⟨x1, x2, x3, x4, y1, y2, y3, z1, z2, z3⟩

set_option maxHeartbeats 4000000 in
set_option maxRecDepth 100000 in
theorem smallCE (g : Gram) (ar : Option Addr) (cr : Nat) (t : Tree) (v : Value) (w : World) (hgd : good g t) (hr : Rd AnyB w (.sl (g.rules.map Rule.d)) [.slice ar g.rules.length cr]) (hv : Rd AnyB w (.sl (t.kids.map Tree.d)) [v]) (hs : t.size ≤ 60) :
    Calls Try.prog 138 #[.agg #[.int .i64 g.terms, .int .i64 g.nons, .int .i64 g.start, .slice ar g.rules.length cr], .agg #[.int .i64 t.rule, .int .i64 t.term, v]] w (TreesPost (fun _ => False) (smallerC g t) w) := by
  obtain ⟨a, nk, cap, rfl⟩ := treeBox hv
  have HV := Lib.hid hv
  have HR := Lib.hid hr
  have HGD := Lib.hid hgd
  have HSZ := Lib.hid hs
  have hcr := fun (W : World) (hb : Below w.heap.size w W) (y : Tree) at' nt ct => rootE g ar cr y at' nt ct W (hr.below hb)
  obtain ⟨gt, HGT⟩ := nameIt g.terms
  obtain ⟨gn, HGN⟩ := nameIt g.nons
  obtain ⟨gs, HGS⟩ := nameIt g.start
  obtain ⟨nr, HNR⟩ := nameIt g.rules.length
  obtain ⟨r, HRr⟩ := nameIt t.rule
  obtain ⟨tm, HRt⟩ := nameIt t.term
  rw [HNR.out] at HR
  rw [HGT.out, HGN.out, HGS.out, HNR.out] at hcr
  have HCR := Lib.hid hcr
  rw [HGT.out, HGN.out, HGS.out, HNR.out, HRr.out, HRt.out]
  obtain ⟨w0, HW0⟩ := nameIt ((w.alloc (.cells #[.int .i64 gt, .int .i64 gn, .int .i64 gs, .slice ar nr cr] 77)).alloc (.cells #[.int .i64 r, .int .i64 tm, .slice a nk cap] 43))
  have HB0 : Hid (Below w.heap.size w w0) := by rw [← HW0.out]; exact ((Below.refl _ _).alloc (Nat.le_refl _) _).alloc (by simp) _
  have XG : Hid (w0.heap[w.heap.size]? = some (.cells #[.int .i64 gt, .int .i64 gn, .int .i64 gs, .slice ar nr cr] 77 (0, 0))) := by
    rw [← HW0.out]; exact bx_keep (bx_new _ _ _ rfl) ((Below.refl _ _).alloc (Nat.le_refl _) _)
  have XT : Hid (w0.heap[w.heap.size + 1]? = some (.cells #[.int .i64 r, .int .i64 tm, .slice a nk cap] 43 (0, 0))) := by
    rw [← HW0.out]; exact bx_new _ _ _ (by simp)
  have hp := aps0E t _ w0 (hv.below HB0.out) (by omega)
  have hat := fun (W : World) (hb : Below w.heap.size w W) (p : List Int) ap cp (hp : Sl W (.slice ap p.length cp) (ints p)) => atF t _ ap cp p W (hv.below hb) hp (by omega)
  have hpt := fun (W : World) (hb : Below w.heap.size w W) (p : List Int) ap cp (hp : Sl W (.slice ap p.length cp) (ints p)) (y : Tree) vy (hy : Rd AnyB W (.sl (y.kids.map Tree.d)) [vy]) (hys : y.size ≤ 60) => putTF t _ ap cp p y vy W (hv.below hb) hy hp (by omega) (by omega)
  rw [HRr.out, HRt.out] at hp hat hpt
  have HP := Lib.hid hp
  have HAT := Lib.hid hat
  have HPT := Lib.hid hpt
  obtain ⟨x0, x1, x2⟩ := bx_cells3 XT.out
  clear hv hr hgd hs hp hat hpt hcr
  go_enter Try.func138, Try.ntmps138
  go_upto_region 2 with fail
  rw [HW0.out]
  go_wp2_with fail
  refine HP.out.mono ?_
  rintro e w1 ⟨v1, rfl, hr1, hb1⟩
  have HB1 : Hid (Below w.heap.size w w1) := HB0.out.trans (hb1.mono HB0.out.size)
  have XG1 := Lib.hid (bx_keep XG.out hb1)
  have XT1 := Lib.hid (bx_keep XT.out hb1)
  have HR1 : Hid (Rd (fun k => k < w1.heap.size) w1 (.sl ((aps t).map D.ints)) [v1]) := hr1.mono fun k _ hlt => hlt
  obtain ⟨P, HPN⟩ := nameIt (aps t)
  rw [HPN.out] at HR1
  obtain ⟨a1, c1, rfl, h11, h12⟩ := HR1.out.form
  rw [List.length_map] at h11 HR1
  rw [List.length_map]
  have hpl : P.length ≤ 60 := by rw [← HPN.out, aps_len]; exact HSZ.out
  unfold maxLen at h12
  clear hr1 hb1 x0 x1 x2 XG XT HP HW0
  go_wp2_with fail
  go_loopg [5, 19] P.length (fun gg v5 v19 wr => ∃ n : Nat, n ≤ P.length ∧ P.length - n ≤ gg ∧ v19 = .int .i64 n ∧ Hid (RowD (fun k => w.heap.size ≤ k) w1.heap.size 43 3 ((smallCTo g t n).map Tree.d) v5 wr) ∧ Hid (Below w1.heap.size w1 wr))
  case atStart => exact ⟨0, by omega, by omega, rfl, by show RowD _ _ _ _ _ _ _; simpa [smallCTo] using RowD.nil (fun k => w.heap.size ≤ k) w1.heap.size 43 3 w1 (Nat.le_refl _), Below.refl _ _⟩
  case round =>
    obtain ⟨wo, rfl⟩ : ∃ wo : World, wo = wr := ⟨_, rfl⟩
    obtain ⟨n, hn, hg, rfl, HO, HBO⟩ := hrel
    obtain ⟨a5, c5, rfl, hc1, hc2, hc3⟩ := HO.out.form
    have HOL := Lib.hid hc3
    unfold maxLen at hc2
    clear hc3
    obtain ⟨no, HNO⟩ := nameIt ((smallCTo g t n).map Tree.d).length
    rw [HNO.out] at HO HOL hc1
    rw [HNO.out]
    by_cases hlt : n < P.length
    · have hlt' : (n : Int) < (P.length : Int) := by omega
      obtain ⟨b, off, cs, hae, hSb, hbl, hcs, hcl, hcc⟩ := HR1.out.at (intsR_cells P) (by decide) (i := n) (by simpa using hlt)
      rw [List.getElem_map] at hcs
      obtain ⟨pv, rfl⟩ := List.length_eq_one_iff.1 hcl
      have d0 := hcc 0 (by simp)
      simp only [Nat.mul_one, Nat.add_zero, List.getElem_cons_zero] at d0
      have e0 := (HBO.out.cell (p := ⟨b, off + n, none⟩) hbl).trans d0
      have HBWO : Hid (Below w.heap.size w wo) := HB1.out.trans (HBO.out.mono HB1.out.size)
      have hsl := sl_rd hcs
      obtain ⟨ap, cp, rfl⟩ := hsl.form
      rw [ints_len] at hsl e0
      have hap := ap_below HGD.out n (by rw [HPN.out]; exact hlt)
      have HXM := Lib.hid (List.getElem_mem (l := parts t) (n := n) (by rw [parts_len, ← aps_len, HPN.out]; exact hlt))
      simp only [HPN.out] at hap
      have HNX : Hid (smallCTo g t (n + 1) = smallCTo g t n ++ smallC g t P[n]) := by
        show _ = _
        have h := smallCTo_next (g := g) (t := t) (n := n) (by rw [HPN.out]; exact hlt)
        simp only [HPN.out] at h
        exact h
      obtain ⟨p, HPP⟩ := nameIt (P[n]'hlt)
      rw [HPP.out] at hsl e0 hap HNX
      obtain ⟨x, HX⟩ := nameIt ((parts t)[n]'(by rw [parts_len, ← aps_len, HPN.out]; exact hlt))
      rw [HX.out] at hap HXM
      have HAP := Lib.hid hap
      have HGX := Lib.hid (good_part t HGD.out x HXM.out)
      have hxs := part_size t x HXM.out
      have hca := HAT.out wo HBWO.out p ap cp (hsl.keep HBO.out)
      rw [HAP.out] at hca
      obtain ⟨np, HNP⟩ := nameIt p.length
      rw [HNP.out] at e0 hca
      have HSP := Lib.hid hsl
      obtain ⟨q0, HQ0⟩ := nameIt x.rule
      obtain ⟨q1, HQ1⟩ := nameIt x.term
      have HCA := Lib.hid hca
      have HTL := Lib.hid (smallCTo_len HGD.out HSZ.out n)
      obtain ⟨O, HON⟩ := nameIt (smallCTo g t n)
      rw [HON.out] at HO HNX HTL HNO
      rw [List.length_map] at HNO
      have XT2 := Lib.hid (bx_keep XT1.out HBO.out)
      obtain ⟨t0, t1, t2⟩ := bx_cells3 XT2.out
      subst hae
      clear hca hsl hap hcs hcc d0 hcl
      go_wp2_with fail
      refine HCA.out.mono ?_
      rintro e w2 ⟨v2, rfl, hr2, hb2⟩
      simp only [Option.getD_some, foundE, Option.isSome_some, if_true] at hr2 ⊢
      obtain ⟨av, nv, cv, rfl⟩ := treeBox hr2.any
      simp only [HQ0.out, HQ1.out]
      obtain ⟨w3, HW3⟩ := nameIt (w2.alloc (.cells #[.int .i64 q0, .int .i64 q1, .slice av nv cv] 43))
      have HB3 : Hid (Below wo.heap.size wo w3) := by rw [← HW3.out]; exact hb2.alloc hb2.size _
      have X3 : Hid (w3.heap[w2.heap.size]? = some (.cells #[.int .i64 q0, .int .i64 q1, .slice av nv cv] 43 (0, 0))) := by rw [← HW3.out]; exact bx_new _ _ _ rfl
      have HKX : Hid (Rd (fun k => wo.heap.size ≤ k) w3 (.sl (x.kids.map Tree.d)) [.slice av nv cv]) := by rw [← HW3.out]; exact hr2.below ((Below.refl _ _).alloc (Nat.le_refl _) _)
      have hsz2 := hb2.size
      have HBW3 : Hid (Below w1.heap.size w1 w3) := HBO.out.trans (HB3.out.mono HBO.out.size)
      clear hr2 hb2 t0 t1 t2
      by_cases hq : q0 < 0
      · have hqb : decide (q0 < 0) = true := by simpa using hq
        have HNE : Hid (smallCTo g t (n + 1) = O) := by show _ = _; rw [HNX.out, smallC, HAP.out, Option.getD_some, HQ0.out, if_pos hq]; simp
        have HO2 := Lib.hid (HO.out.keep HB3.out)
        rw [← HNE.out] at HO2
        obtain ⟨y0, y1, y2⟩ := bx_cells3 X3.out
        clear hq
        go_upto_region 6 with fail
        rw [HW3.out]
        go_wp2_with fail
        go_roundg (P.length - (n + 1))
        case measure => omega
        case rel => exact ⟨n + 1, by omega, by omega, by go_num, HO2, HBW3⟩
      · have hqb : decide (q0 < 0) = false := by simpa using hq
        have hp := aps0E x _ w3 HKX.out.any (by have := HSZ.out; omega)
        rw [HQ0.out, HQ1.out] at hp
        have HP := Lib.hid hp
        have HQN := Lib.hid hq
        obtain ⟨y0, y1, y2⟩ := bx_cells3 X3.out
        clear hp hq
        go_upto_region 6 with fail
        rw [HW3.out]
        go_wp2_with fail
        refine HP.out.mono ?_
        rintro e w4 ⟨v4, rfl, hr4, hb4⟩
        have HB4 : Hid (Below wo.heap.size wo w4) := HB3.out.trans (hb4.mono HB3.out.size)
        have HBW4 : Hid (Below w1.heap.size w1 w4) := HBW3.out.trans (hb4.mono HBW3.out.size)
        have X4 := Lib.hid (bx_keep X3.out hb4)
        have HI4 := Lib.hid (HO.out.keep HB4.out)
        have hsz3 := HB3.out.size
        have HR4 : Hid (Rd (fun k => (Value.slice a5 no c5).ownBlock ≠ some k) w4 (.sl ((aps x).map D.ints)) [v4]) := by
          refine hr4.mono fun k hk hlt e => ?_
          have h1 := HOL.out k e
          rcases hk with hk | hk
          · exact hk
          · omega
        have HKX4 : Hid (Rd (fun k => (Value.slice a5 no c5).ownBlock ≠ some k) w4 (.sl (x.kids.map Tree.d)) [.slice av nv cv]) := by
          refine (HKX.out.below hb4).mono fun k hk hlt e => ?_
          have h1 := HOL.out k e
          omega
        have hpl3 : 0 < (aps x).length := by rw [aps_eq]; simp
        have hpl4 : (aps x).length ≤ 60 := by rw [aps_len]; have := HSZ.out; omega
        obtain ⟨b4, o4, c4, rfl, h41, h42⟩ := HR4.out.headed (by simpa using hpl3) (intsR_cells _) (by decide)
        unfold maxLen at h42
        rw [List.length_map] at h41 HR4
        rw [List.length_map]
        obtain ⟨n4, HN4⟩ := nameIt (aps x).length
        rw [HN4.out] at hpl3 hpl4 h41 HR4
        rw [HN4.out]
        obtain ⟨m4, rfl⟩ : ∃ m, n4 = m + 1 := ⟨n4 - 1, by omega⟩
        obtain ⟨Y, HY⟩ := nameIt ((aps x).drop 1)
        have HYL : Hid (Y.length = m4) := by show _ = _; rw [← HY.out]; simp [HN4.out]
        have HNY : Hid (∀ j (h : j < Y.length), smallCTo1 g t p x (j + 1) = smallCTo1 g t p x j ++ smallC1 g t p x ((belowT x Y[j]).getD noTree)) := by
          intro j h
          have h1 := smallCTo1_next (g := g) (t := t) (x := x) (p := p) (j := j) (by rw [HY.out]; exact h)
          simp only [HY.out] at h1
          exact h1
        have HYE : Hid (smallCTo1 g t p x m4 = smallC g t p) := smallCTo1_end HAP.out (by rw [HY.out, HYL.out]; exact Nat.le_refl _) (by rw [HQ0.out]; have := HQN.out; omega)
        have HYM : Hid (∀ j (h : j < Y.length), ∃ y, belowT x Y[j] = some y ∧ good g y ∧ y.size ≤ 60) := by
          intro j h
          have h0 := h
          simp only [← HY.out] at h0 ⊢
          have h1 : 1 + j < (aps x).length := by simp at h0; omega
          rw [List.getElem_drop, ap_below HGX.out (1 + j) h1]
          have h2 := List.getElem_mem (l := parts x) (n := 1 + j) (by rw [parts_len, ← aps_len]; exact h1)
          have h3 := part_size x _ h2
          have h4 := HSZ.out
          exact ⟨_, rfl, good_part x HGX.out _ h2, by omega⟩
        have hvo : ∀ k, (Value.slice a5 no c5).ownBlock = some k → w1.heap.size ≤ k ∧ k < wo.heap.size := HOL.out
        have XG4 := Lib.hid (bx_keep XG1.out HBW4.out)
        have XT4 := Lib.hid (bx_keep XT1.out HBW4.out)
        have hwb : w.heap.size + 1 < w1.heap.size := (Array.getElem?_eq_some_iff.1 XT1.out).1
        have hwo : w1.heap.size ≤ wo.heap.size := HBO.out.size
        have hw4 : w2.heap.size < w4.heap.size := (Array.getElem?_eq_some_iff.1 X4.out).1
        have HVO := Lib.hid hvo
        clear hr4 hb4 y0 y1 y2 HP hvo
        by_cases hct : c4 = 1
        · have ht4 := HR4.out.tail (intsR_cells _) (by omega)
          rw [if_pos hct] at ht4
          rw [← List.map_drop, HY.out] at ht4
          simp only [Nat.add_sub_cancel] at ht4
          have HT4 := Lib.hid ht4
          clear ht4
          subst hct
          rw [Nat.sub_self] at HT4
          go_wp2_with fail
          go_loopg [5, 36] m4 (fun gg' v5 v36 wr => ∃ j : Nat, j ≤ m4 ∧ m4 - j ≤ gg' ∧ v36 = .int .i64 j ∧ Hid (InR (fun k => w.heap.size ≤ k) w1.heap.size w4 (.slice a5 no c5) ((O ++ smallCTo1 g t p x j).map Tree.d) v5 wr))
          case atStart => exact ⟨0, by omega, by omega, rfl, by show InR _ _ _ _ _ _ _; simpa [smallCTo1] using InR.start HI4.out⟩
          case round =>
            obtain ⟨j, hj, hgj, rfl, HI⟩ := hrel
            obtain ⟨ai, ci, rfl, hd1, hd2, hd3⟩ := HI.out.row.form
            have HIL := Lib.hid hd3
            unfold maxLen at hd2
            clear hd3
            obtain ⟨ni, HNI⟩ := nameIt ((O ++ smallCTo1 g t p x j).map Tree.d).length
            rw [HNI.out] at HI HIL hd1
            rw [HNI.out]
            have HBR : Hid (Below w1.heap.size w1 wr) := HI.out.below HBW4.out (by omega) (fun k e => (HVO.out k e).1)
            by_cases hjl : j < m4
            · exfalso; omega
            · have hjl' : ¬ (j : Int) < (m4 : Int) := by omega
              have HE : Hid ((O ++ smallCTo1 g t p x j).map Tree.d = (smallCTo g t (n + 1)).map Tree.d) := by
                show _ = _
                rw [HNX.out, show j = m4 by omega, HYE.out]
              have HRR := Lib.hid HI.out.row
              rw [HE.out] at HRR
              go_wp2_with fail
              go_roundg (P.length - (n + 1))
              case measure => omega
              case rel => exact ⟨n + 1, by omega, by omega, by go_num, HRR, HBR⟩
        · have ht4 := HR4.out.tail (intsR_cells _) (by omega)
          rw [if_neg hct] at ht4
          rw [← List.map_drop, HY.out] at ht4
          simp only [Nat.add_sub_cancel] at ht4
          have HT4 := Lib.hid ht4
          clear ht4
          go_wp2_with fail
          go_loopg [5, 36] m4 (fun gg' v5 v36 wr => ∃ j : Nat, j ≤ m4 ∧ m4 - j ≤ gg' ∧ v36 = .int .i64 j ∧ Hid (InR (fun k => w.heap.size ≤ k) w1.heap.size w4 (.slice a5 no c5) ((O ++ smallCTo1 g t p x j).map Tree.d) v5 wr))
          case atStart => exact ⟨0, by omega, by omega, rfl, by show InR _ _ _ _ _ _ _; simpa [smallCTo1] using InR.start HI4.out⟩
          case round =>
            obtain ⟨j, hj, hgj, rfl, HI⟩ := hrel
            obtain ⟨ai, ci, rfl, hd1, hd2, hd3⟩ := HI.out.row.form
            have HIL := Lib.hid hd3
            unfold maxLen at hd2
            clear hd3
            obtain ⟨ni, HNI⟩ := nameIt ((O ++ smallCTo1 g t p x j).map Tree.d).length
            rw [HNI.out] at HI HIL hd1
            rw [HNI.out]
            have HBR : Hid (Below w1.heap.size w1 wr) := HI.out.below HBW4.out (by omega) (fun k e => (HVO.out k e).1)
            by_cases hjl : j < m4
            · have hjl' : (j : Int) < (m4 : Int) := by omega
              have hjy : j < Y.length := by rw [HYL.out]; exact hjl
              obtain ⟨by', oy, cs, haey, hSy, hyl, hcs, hcl, hcc⟩ := (HI.out.rd HT4.out).at (intsR_cells Y) (by decide) (i := j) (by simpa using hjy)
              rw [List.getElem_map] at hcs
              obtain ⟨qv, rfl⟩ := List.length_eq_one_iff.1 hcl
              have f0 := hcc 0 (by simp)
              simp only [Nat.mul_one, Nat.add_zero, List.getElem_cons_zero] at f0
              have hsq := sl_rd hcs
              obtain ⟨aq, cq, rfl⟩ := hsq.form
              rw [ints_len] at hsq f0
              have HYN := Lib.hid (HNY.out j hjy)
              obtain ⟨y, hby, hgy, hys⟩ := HYM.out j hjy
              obtain ⟨q, HQQ⟩ := nameIt (Y[j]'hjy)
              rw [HQQ.out] at hsq f0 HYN hby
              rw [hby, Option.getD_some] at HYN
              have hca := atF x _ aq cq q wr (HI.out.rd HKX4.out).any hsq (by have := HSZ.out; omega)
              rw [hby, HQ0.out, HQ1.out] at hca
              obtain ⟨nq, HNQ⟩ := nameIt q.length
              rw [HNQ.out] at hca f0
              have HCAQ := Lib.hid hca
              obtain ⟨p0, HP0⟩ := nameIt y.rule
              obtain ⟨p1, HP1⟩ := nameIt y.term
              have XX := Lib.hid (HI.out.block X4.out (fun e => by have := HVO.out _ e; omega))
              obtain ⟨z0, z1, z2⟩ := bx_cells3 XX.out
              have hwr4 : w4.heap.size ≤ wr.heap.size := HI.out.gr.size
              cases haey
              clear hca hcs hcc hcl hsq
              go_wp2_with fail
              refine HCAQ.out.mono ?_
              rintro e w5 ⟨v5, rfl, hr5, hb5⟩
              simp only [Option.getD_some, foundE, Option.isSome_some, if_true] at hr5 ⊢
              obtain ⟨ay, ny, cy, rfl⟩ := treeBox hr5.any
              simp only [HP0.out, HP1.out]
              obtain ⟨w6, HW6⟩ := nameIt (w5.alloc (.cells #[.int .i64 p0, .int .i64 p1, .slice ay ny cy] 43))
              have HB6 : Hid (Below wr.heap.size wr w6) := by rw [← HW6.out]; exact hb5.alloc hb5.size _
              have X6 : Hid (w6.heap[w5.heap.size]? = some (.cells #[.int .i64 p0, .int .i64 p1, .slice ay ny cy] 43 (0, 0))) := by rw [← HW6.out]; exact bx_new _ _ _ rfl
              have HKY : Hid (Rd (fun k => wr.heap.size ≤ k) w6 (.sl (y.kids.map Tree.d)) [.slice ay ny cy]) := by rw [← HW6.out]; exact hr5.below ((Below.refl _ _).alloc (Nat.le_refl _) _)
              have hsz5 := hb5.size
              have XG6 := Lib.hid (bx_keep (HI.out.block XG4.out (fun e => by have := HVO.out _ e; omega)) HB6.out)
              have XT6 := Lib.hid (bx_keep (HI.out.block XT4.out (fun e => by have := HVO.out _ e; omega)) HB6.out)
              have XX6 := Lib.hid (bx_keep XX.out HB6.out)
              have HBW6 : Hid (Below w.heap.size w w6) := by
                have h := HB1.out.trans (HBR.out.mono HB1.out.size)
                exact h.trans (HB6.out.mono h.size)
              have HI6 := Lib.hid (HI.out.keep HB6.out)
              obtain ⟨cb, HCB⟩ := nameIt (decide (0 ≤ y.rule ∧ rootS g y = rootS g x))
              have HYV : Hid (smallC1 g t p x y = if cb then [putT t p y] else []) := by
                show _ = _
                rw [← HCB.out]
                unfold smallC1
                simp only [decide_eq_true_eq]
              rw [HP0.out] at HCB
              have hcy := fun (W : World) (hb : Below w6.heap.size w6 W) => HCR.out W (HBW6.out.trans (hb.mono HBW6.out.size)) y ay ny cy
              have hcx := fun (W : World) (hb : Below w6.heap.size w6 W) => HCR.out W (HBW6.out.trans (hb.mono HBW6.out.size)) x av nv cv
              obtain ⟨RY, HRY⟩ := nameIt (rootS g y)
              obtain ⟨RX, HRX⟩ := nameIt (rootS g x)
              rw [HRY.out, HRX.out] at HCB
              rw [HRY.out, HP0.out, HP1.out] at hcy
              rw [HRX.out, HQ0.out, HQ1.out] at hcx
              obtain ⟨sy0, HSY0⟩ := nameIt RY.term
              obtain ⟨sy1, HSY1⟩ := nameIt RY.n
              obtain ⟨sx0, HSX0⟩ := nameIt RX.term
              obtain ⟨sx1, HSX1⟩ := nameIt RX.n
              rw [HSY0.out, HSY1.out] at hcy
              rw [HSX0.out, HSX1.out] at hcx
              have HCY := Lib.hid hcy
              have HCX := Lib.hid hcx
              obtain ⟨g0, g1, g2, g3, y0, y1, y2, x0, x1, x2⟩ := cells10 (Below.refl _ _) XG6.out X6.out XX6.out
              clear hr5 hb5 z0 z1 z2 hcy hcx f0
              go_upto_region 11 with fail
              rw [HW6.out]
              go_cut [57] (fun tt wx => tt = .bool cb ∧ Hid (Below w6.heap.size w6 wx))
              case first =>
                by_cases hp0 : p0 < 0
                · have hpb : decide (0 ≤ p0) = false := by simpa using hp0
                  obtain rfl : cb = false := by rw [← HCB.out]; simp; omega
                  clear hp0
                  go_quiet (fail)
                  go_wp2_with fail
                  go_meet
                  exact ⟨rfl, below_drewN _ _⟩
                · have hpb : decide (0 ≤ p0) = true := by simpa using hp0
                  have hcb : (sy0 == sx0 && sy1 == sx1) = cb := by
                    rw [← HCB.out, ← HSY0.out, ← HSY1.out, ← HSX0.out, ← HSX1.out, Bool.eq_iff_iff]
                    cases RY; cases RX; simp; omega
                  have heq := symEq sy0 sx0 sy1 sx1
                  have heg : Try.prog.eqGuardType Try.prog.depth 88 = false := by kernel_rfl
                  clear hp0
                  go_region_held3 (fun w' => w'.cell? ⟨w.heap.size, 0, none⟩ = some (.int .i64 gt) ∧ w'.cell? ⟨w.heap.size, 0 + 1, none⟩ = some (.int .i64 gn) ∧ w'.cell? ⟨w.heap.size, 0 + 2, none⟩ = some (.int .i64 gs) ∧ w'.cell? ⟨w.heap.size, 0 + 3, none⟩ = some (.slice ar nr cr) ∧ w'.cell? ⟨w5.heap.size, 0, none⟩ = some (.int .i64 p0) ∧ w'.cell? ⟨w5.heap.size, 0 + 1, none⟩ = some (.int .i64 p1) ∧ w'.cell? ⟨w5.heap.size, 0 + 2, none⟩ = some (.slice ay ny cy) ∧ w'.cell? ⟨w2.heap.size, 0, none⟩ = some (.int .i64 q0) ∧ w'.cell? ⟨w2.heap.size, 0 + 1, none⟩ = some (.int .i64 q1) ∧ w'.cell? ⟨w2.heap.size, 0 + 2, none⟩ = some (.slice av nv cv))
                    (first | exact cells10 HB8.out XG6.out X6.out XX6.out | exact cells10 HB7.out XG6.out X6.out XX6.out | exact cells10 (Below.refl _ _).drew XG6.out X6.out XX6.out | fail)
                    (first
                      | (go_at_call 117; (with_reducible refine (HCY.out _ (Below.refl _ _).drew).mono ?_); rintro e w7 ⟨rfl, hb7⟩; have HB7 : Hid (Below w6.heap.size w6 w7) := (Below.refl _ _).drew.trans hb7; clear hb7)
                      | (go_at_call 117; (with_reducible refine (HCX.out _ (Below.refl _ _).drew).mono ?_); rintro e w7 ⟨rfl, hb7⟩; have HB7 : Hid (Below w6.heap.size w6 w7) := (Below.refl _ _).drew.trans hb7; clear hb7)
                      | (go_at_call 117; (with_reducible refine (HCY.out _ HB7.out).mono ?_); rintro e w8 ⟨rfl, hb8⟩; have HB8 : Hid (Below w6.heap.size w6 w8) := HB7.out.trans (hb8.mono HB7.out.size); clear hb8)
                      | (go_at_call 117; (with_reducible refine (HCX.out _ HB7.out).mono ?_); rintro e w8 ⟨rfl, hb8⟩; have HB8 : Hid (Below w6.heap.size w6 w8) := HB7.out.trans (hb8.mono HB7.out.size); clear hb8)
                      | fail)
                  all_goals
                    go_wp2_with fail
                    go_meet
                    exact ⟨rfl, HB8.out⟩
              case rest =>
                obtain ⟨rfl, HB7⟩ := hcut
                have HI7 := Lib.hid (HI6.out.keep HB7.out)
                have XT7 := Lib.hid (bx_keep XT6.out HB7.out)
                have X7 := Lib.hid (bx_keep X6.out HB7.out)
                clear g0 g1 g2 g3 y0 y1 y2 x0 x1 x2
                cases cb with
                | false =>
                  have HE : Hid ((O ++ smallCTo1 g t p x (j + 1)).map Tree.d = (O ++ smallCTo1 g t p x j).map Tree.d) := by
                    show _ = _
                    rw [HYN.out, HYV.out]; simp
                  rw [← HE.out] at HI7
                  go_wp2_with fail
                  go_roundg (m4 - (j + 1))
                  case measure => omega
                  case rel => exact ⟨j + 1, by omega, by omega, by go_num, HI7⟩
                | true =>
                  have HE : Hid ((O ++ smallCTo1 g t p x (j + 1)).map Tree.d = (O ++ smallCTo1 g t p x j).map Tree.d ++ [(putT t p y).d]) := by
                    show _ = _
                    rw [HYN.out, HYV.out]; simp
                  have hsz7 := HB7.out.size
                  have HBW7 : Hid (Below w.heap.size w wc) := HBW6.out.trans (HB7.out.mono HBW6.out.size)
                  have hb16 := HBR.out.trans (HB6.out.mono HBR.out.size)
                  have hb17 := hb16.trans (HB7.out.mono hb16.size)
                  have hsz6 := HB6.out.size
                  have hch := HPT.out wc HBW7.out p ap cp (HSP.out.keep hb17) y _ (HKY.out.below HB7.out).any hys
                  rw [HAP.out, HNP.out, HP0.out, HP1.out] at hch
                  simp only [Option.map_some] at hch
                  obtain ⟨z, HCZ⟩ := nameIt (putT t p y)
                  rw [HCZ.out] at hch HE
                  have HCH := Lib.hid hch
                  obtain ⟨t0, t1, t2⟩ := bx_cells3 XT7.out
                  obtain ⟨y0, y1, y2⟩ := bx_cells3 X7.out
                  clear hch
                  go_wp2_with fail
                  refine HCH.out.mono ?_
                  rintro e w8 ⟨v8, rfl, hr8, hb8⟩
                  simp only [Option.getD_some, foundE, Option.isSome_some, if_true] at hr8 ⊢
                  obtain ⟨a8, n8, c8, rfl⟩ := treeBox hr8.any
                  obtain ⟨s0, HS0⟩ := nameIt z.rule
                  obtain ⟨s1, HS1⟩ := nameIt z.term
                  simp only [HS0.out, HS1.out]
                  obtain ⟨w9, HW9⟩ := nameIt (w8.alloc (.cells #[.int .i64 s0, .int .i64 s1, .slice a8 n8 c8] 43))
                  have HB9 : Hid (Below w8.heap.size w8 w9) := by rw [← HW9.out]; exact (Below.refl _ _).alloc (Nat.le_refl _) _
                  have X9 : Hid (w9.heap[w8.heap.size]? = some (.cells #[.int .i64 s0, .int .i64 s1, .slice a8 n8 c8] 43 (0, 0))) := by rw [← HW9.out]; exact bx_new _ _ _ rfl
                  have HI9 := Lib.hid ((HI7.out.keep hb8).keep HB9.out)
                  have HR9 := Lib.hid (hr8.below HB9.out)
                  obtain ⟨xs, ho, hd⟩ := HI9.out.row.own
                  rw [HNI.out] at ho
                  have HO9 := Lib.hid ho
                  have HD9 := Lib.hid hd
                  have hni : ni ≤ 4000 := by
                    have h1 := smallCTo1_len g t p x j
                    have h2 := HTL.out
                    have h3 := HNI.out
                    have h4 := HSZ.out
                    simp at h3
                    omega
                  have hle9 := HI9.out.row.le
                  obtain ⟨r0, r1, r2⟩ := bx_cells3 X9.out
                  have hsz8 := hb8.size
                  clear hr8 hb8 t0 t1 t2 y0 y1 y2 ho hd hb16 hb17
                  go_upto_region 13 with fail
                  rw [HW9.out]
                  go_wp2_with (at_builtin; refine wp_app1at elTree rfl _ _ rfl HO9.out rfl rfl (by simp) rfl rfl (by omega) (by unfold maxLen; omega) (by omega) ?_)
                  intro v' wA hoA hgA hatA
                  have HIA : Hid (InR (fun k => w.heap.size ≤ k) w1.heap.size w4 (.slice a5 no c5) ((O ++ smallCTo1 g t p x j).map Tree.d ++ [z.d]) v' wA) := by
                    refine InR.step HI9.out HO9.out HD9.out HNI.out.symm HR9.out (fun k hk => ?_) (by rw [HS0.out, HS1.out]; exact hoA) hgA hatA
                    simp only [FreshB] at hk
                    have hw7 := HBW7.out.size
                    refine ⟨by omega, fun e => ?_⟩
                    have h1 := (HIL.out k e).2
                    omega
                  rw [← HE.out] at HIA
                  obtain ⟨aA, cA, rfl, -, -⟩ := own_len hoA
                  clear hoA hgA hatA
                  go_wp2_with fail
                  go_roundg (m4 - (j + 1))
                  case measure => omega
                  case rel => exact ⟨j + 1, by omega, by omega, by go_num, HIA⟩
            · have hjl' : ¬ (j : Int) < (m4 : Int) := by omega
              have HE : Hid ((O ++ smallCTo1 g t p x j).map Tree.d = (smallCTo g t (n + 1)).map Tree.d) := by
                show _ = _
                rw [HNX.out, show j = m4 by omega, HYE.out]
              have HRR := Lib.hid HI.out.row
              rw [HE.out] at HRR
              go_wp2_with fail
              go_roundg (P.length - (n + 1))
              case measure => omega
              case rel => exact ⟨n + 1, by omega, by omega, by go_num, HRR, HBR⟩
    · have hlt' : ¬ (n : Int) < (P.length : Int) := by omega
      have HPE : Hid ((smallerC g t).map Tree.d = (smallCTo g t n).map Tree.d) := by
        show _ = _
        rw [smallCTo_end (by rw [HPN.out]; omega)]
      obtain ⟨O, HON⟩ := nameIt ((smallCTo g t n).map Tree.d)
      rw [HON.out] at HO HPE
      clear HOL hc1
      go_wp2_with fail
      go_ret
      refine ⟨_, rfl, ?_, HB1.out.trans (HBO.out.mono HB1.out.size)⟩
      rw [HPE.out]
      have hw1 := HB1.out.size
      exact HO.out.rd.mono fun k hk _ => .inr (by rcases hk with hk | hk <;> omega)
end Go.Proofs.Ytjehmleckcmilaa
