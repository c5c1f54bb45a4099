/- The contract of TreeFault. The contract of two; sizes of trees. What list's grammar says of trees. The walk of the law TreeChecks. demand.check, parllaw4.startFault. demand.All; parllaw4.startFault. parlref4.World while it is made: rows of one's own. parlref4.World in memory, for a list of nodes and a list of instances. The four appends of a visit, in any order: the rows between them. parlref4.World: an instance more; a kid's number more. -/
import Derived.Test.YtfocooehnmpndaaGreatJDemandSomeRow11
import Derived.Test.YtfocooehnmpndaaGreatJDemandSomeRow4
import Derived.Test.YtfocooehnmpndaaGreatJDemandSomeRow5
import Derived.Test.YtfocooehnmpndaaGreatJDemandSomeRow3
import Derived.Test.YtfocooehnmpndaaGreatJDemandSomeRow10
import Derived.Test.YtfocooehnmpndaaGreatJDemandSomeRow9
namespace Go.Proofs.YtfocooehnmpndaaGreat
open Go.RowKit
namespace TF
theorem symCells' {S S' : Nat → Prop} {w w' : World} {sy : List Sym} {xs : List Value} (h : RdAll S w (sy.map Sym.d) xs) : RdAll S' w' (sy.map Sym.d) xs := by
  induction sy generalizing xs with
  | nil => exact h
  | cons s sy ih =>
    obtain ⟨c1, c2, rfl, h1, h2⟩ := h
    obtain rfl := h1.sym
    exact ⟨_, _, rfl, rd_sym s, ih h2⟩
structure SymRel (w : World) (sy : List Sym) (v : Value) (W : World) : Prop where
  own : ∃ xs, W.ownsRow w.heap.size 78 2 v sy.length xs ∧ RdAll AnyB W (sy.map Sym.d) xs
  bel : Below w.heap.size w W
theorem SymRel.step {w : World} {sy : List Sym} {s : Sym} {v v' : Value} {W w1 W' : World} {xs : List Value} (h : SymRel w sy v W) (hb : Below W.heap.size W w1) (ho : W.ownsRow w.heap.size 78 2 v sy.length xs) (hd : RdAll AnyB W (sy.map Sym.d) xs)
    (ho' : W'.ownsRow w.heap.size 78 2 v' (sy.length + 1) (xs ++ [.bool s.term, .int .i64 s.n])) (hg : w1.grownBy W' v.ownBlock) : SymRel w (sy ++ [s]) v' W' := by
  refine ⟨⟨_, by rw [List.length_append]; exact ho', ?_⟩, (h.bel.trans (hb.mono h.bel.size)).grown hg (Nat.le_trans h.bel.size hb.size) (fun k e => (ho.lt k e).1)⟩
  rw [List.map_append]
  exact RdAll.append (symCells' hd) (RdAll.one (rd_sym s))
theorem SymRel.rd {w : World} {sy : List Sym} {v : Value} {W : World} (h : SymRel w sy v W) : Rd AnyB W (.sl (sy.map Sym.d)) [v] := by
  obtain ⟨xs, h1, h2⟩ := h.own
  exact rd_of_own h1 h2 (by simp) (fun _ _ => trivial)
mutual
theorem nodes_le : ∀ (t x : Tree), x ∈ nodes t → (nodes x).length ≤ (nodes t).length
  | .node r tm ks, x, hx => by
    rw [nodes] at hx
    rcases List.mem_cons.1 hx with rfl | hx
    · exact Nat.le_refl _
    · rw [nodes]
      by_cases h : r = -1
      · rw [if_pos h] at hx; simp at hx
      · rw [if_neg h] at hx ⊢
        have := nodes_leL ks x hx
        simp; omega
theorem nodes_leL : ∀ (ks : List Tree) (x : Tree), x ∈ nodesL ks → (nodes x).length ≤ (nodesL ks).length
  | [], x, hx => by simp [nodesL] at hx
  | y :: ks, x, hx => by
    rw [nodesL] at hx ⊢
    rw [List.length_append]
    rcases List.mem_append.1 hx with h | h
    · have := nodes_le y x h; omega
    · have := nodes_leL ks x h; omega
end
theorem kids_le {t x : Tree} (h : x ∈ nodes t) (hr : x.rule ≠ -1) : x.kids.length ≤ (nodes t).length := by
  have h1 := nodes_le t x h
  rw [nodes_eq x] at h1
  have h2 := len_nodesL x.kids
  simp [kidsOf, hr] at h1
  omega
theorem refNode_leaf {g : Gram} {x : Tree} (hl : (label g x).isSome = true) (hr : x.rule = -1) : refNode g x = true := by simp [refNode, hl, hr]
theorem refNode_none {g : Gram} {x : Tree} (hl : (label g x).isSome = false) : refNode g x = false := by simp [refNode, hl]
theorem refNode_kid {g : Gram} {x k : Tree} (hr : x.rule ≠ -1) (hk : k ∈ x.kids) (hl : (label g k).isSome = false) : refNode g x = false := by
  have h : (x.kids.all fun k => (label g k).isSome) = false := List.all_eq_false.2 ⟨k, hk, by simp [hl]⟩
  simp [refNode, hr, h]
theorem map_labS {g : Gram} {ks : List Tree} (h : ∀ k ∈ ks, (label g k).isSome = true) : ks.map (label g) = (ks.map (labS g)).map some := by
  rw [List.map_map]
  refine List.map_congr_left fun k hk => ?_
  obtain ⟨s, hs⟩ := Option.isSome_iff_exists.1 (h k hk)
  simp [labS, hs]
theorem refNode_inner {g : Gram} {x : Tree} {j : Nat} (hl : (label g x).isSome = true) (hr : x.rule = j) (hj : j < g.rules.length) (hk : ∀ k ∈ x.kids, (label g k).isSome = true) : refNode g x = decide (x.kids.map (labS g) = (g.rules[j]'hj).right) := by
  have h1 : (x.kids.all fun k => (label g k).isSome) = true := List.all_eq_true.2 hk
  have h2 : ¬ x.rule = -1 := by omega
  have h3 : g.rules[x.rule.toNat]? = some g.rules[j] := by rw [hr]; simp [hj]
  unfold refNode
  rw [hl, h1, h3, map_labS hk]
  simp only [h2, decide_false, Bool.true_and, Bool.false_or]
  rw [decide_eq_decide]
  exact ⟨fun h => (List.map_inj_right (fun a b h => Option.some.inj h)).1 h, fun h => by rw [h]⟩
theorem label_rule {g : Gram} {x : Tree} (hl : (label g x).isSome = true) (hr : x.rule ≠ -1) : ∃ j : Nat, x.rule = j ∧ j < g.rules.length := by
  obtain ⟨s, hs⟩ := Option.isSome_iff_exists.1 hl
  obtain ⟨-, h1, h2⟩ := label_root hs
  exact ⟨x.rule.toNat, by omega, by omega⟩
def refFault (g : Gram) (t : Tree) : Int := if 5000 < (nodes t).length then 2 else if (nodes t).all (refNode g) then 0 else 3
set_option maxHeartbeats 4000000 in
set_option maxRecDepth 100000 in
theorem treeFaultE (g : Gram) (ar : Option Addr) (cr : Nat) (t : Tree) (at' : Option Addr) (ct : Nat) (w : World) (hr : Rd AnyB w (.sl (g.rules.map Rule.d)) [.slice ar g.rules.length cr]) (hk : Rd AnyB w (.sl (t.kids.map Tree.d)) [.slice at' t.kids.length ct]) (hN : (nodes t).length ≤ 1099511627776) :
    Calls Tryz.prog 33 #[.agg #[.int .i64 g.terms, .int .i64 g.nons, .int .i64 g.start, .slice ar g.rules.length cr], .agg #[.int .i64 t.rule, .int .i64 t.term, .slice at' t.kids.length ct]] w fun e w' => e = .returned (.int .i64 (refFault g t)) ∧ Below w.heap.size w w' := by
  have hbs := hr.bounds.2
  unfold maxLen at hbs
  obtain ⟨hc1, hc2⟩ := hbs
  obtain ⟨w0, HW0⟩ := nameIt ((w.alloc (.cells #[.int .i64 g.terms, .int .i64 g.nons, .int .i64 g.start, .slice ar g.rules.length cr] 24)).alloc (.cells #[.int .i64 t.rule, .int .i64 t.term, .slice at' t.kids.length ct] 31))
  have hb0 : Below w.heap.size w w0 := by rw [← HW0.out]; exact ((Below.refl _ _).alloc (Nat.le_refl _) _).alloc (by simp) _
  have X1 : Hid (w0.heap[w.heap.size]? = some (.cells #[.int .i64 g.terms, .int .i64 g.nons, .int .i64 g.start, .slice ar g.rules.length cr] 24 (0, 0))) := by
    rw [← HW0.out]; exact bx_keep (bx_new _ _ _ rfl) ((Below.refl _ _).alloc (Nat.le_refl _) _)
  have X2 : Hid (w0.heap[w.heap.size + 1]? = some (.cells #[.int .i64 t.rule, .int .i64 t.term, .slice at' t.kids.length ct] 31 (0, 0))) := by
    rw [← HW0.out]; exact bx_new _ _ _ (by simp)
  have C1 := Lib.hid (nodesE t _ w0 (hk.below hb0) hN)
  have HR := Lib.hid (hr.below hb0)
  have CL := Lib.hid (fun (x : Tree) (ax : Option Addr) (cx : Nat) W (hb : Below w0.heap.size w0 W) => labelE g ar cr x ax cx W (HR.out.below hb))
  have HB0 := Lib.hid hb0
  obtain ⟨B, HBn⟩ := nameIt (refFault g t)
  obtain ⟨gt, HGT⟩ := nameIt g.terms
  obtain ⟨gn, HGN⟩ := nameIt g.nons
  obtain ⟨gs, HGS⟩ := nameIt g.start
  obtain ⟨R, HKn⟩ := nameIt g.rules
  obtain ⟨r, HRr⟩ := nameIt t.rule
  obtain ⟨tm, HRt⟩ := nameIt t.term
  obtain ⟨m, HMn⟩ := nameIt t.kids.length
  rw [HGT.out, HGN.out, HGS.out, HKn.out, HRr.out, HRt.out, HMn.out] at HW0
  rw [HGT.out, HGN.out, HGS.out, HKn.out] at X1
  rw [HRr.out, HRt.out, HMn.out] at X2
  rw [HRr.out, HRt.out, HMn.out] at C1
  rw [HKn.out] at hc1 HR
  rw [HGT.out, HGN.out, HGS.out, HKn.out] at CL
  rw [HGT.out, HGN.out, HGS.out, HKn.out, HRr.out, HRt.out, HMn.out, HBn.out]
  obtain ⟨x0, x1, x2, x3, y0, y1, y2⟩ := cells7 (Below.refl w0.heap.size w0) X1.out X2.out
  clear hr hk hb0
  go_enter Tryz.func33, Tryz.ntmps33
  go_upto_region 1 with fail
  rw [HW0.out]
  go_wp2_with fail
  refine C1.out.mono ?_
  rintro e w1 ⟨v, rfl, hrd, hb1⟩
  obtain ⟨al, cl, rfl, -, -⟩ := hrd.form
  rw [List.length_map] at hrd ⊢
  have hcl := hrd.bounds.2
  unfold maxLen at hcl
  obtain ⟨hcl1, hcl2⟩ := hcl
  have HBV : Hid (B = if 5000 < (nodes t).length then 2 else if (nodes t).all (refNode g) then 0 else 3) := HBn.out.symm
  obtain ⟨L, HL⟩ := nameIt (nodes t)
  rw [HL.out] at hrd hcl1 HBV hN
  rw [HL.out]
  have HRD := Lib.hid hrd
  have HB1 := Lib.hid hb1
  have HBB := Lib.hid (HB0.out.trans (hb1.mono HB0.out.size))
  clear hrd hb1 x0 x1 x2 x3 y0 y1 y2 C1
  by_cases hbig : 5000 < L.length
  · have hbig' : (5000 : Int) < (L.length : Int) := by omega
    obtain rfl : B = 2 := by rw [HBV.out, if_pos hbig]
    go_wp2_with fail
    go_ret
    exact ⟨rfl, HBB.out⟩
  · have hbig' : ¬ (5000 : Int) < (L.length : Int) := by omega
    have HBA : Hid (B = if L.all (refNode g) then 0 else 3) := by show _ = _; rw [HBV.out, if_neg hbig]
    have HBAD : Hid (∀ i (h : i < L.length), refNode g L[i] = false → B = 3) := by
      intro i h hb
      rw [HBA.out, if_neg]
      intro ha
      have := List.all_eq_true.1 ha _ (List.getElem_mem h)
      rw [hb] at this
      exact absurd this (by decide)
    clear hbig
    go_wp2_with fail
    go_loopg [22] L.length (fun gg v22 wr => ∃ i : Nat, i ≤ L.length ∧ L.length - i ≤ gg ∧ v22 = .int .i64 i ∧ Hid (Below w1.heap.size w1 wr) ∧ Hid (∀ j (h : j < L.length), j < i → refNode g L[j] = true))
    case atStart => exact ⟨0, by omega, by omega, rfl, Below.refl _ _, fun j _ hj => by omega⟩
    case round =>
      obtain ⟨i, hi, hg, rfl, HB, HN⟩ := hrel
      obtain ⟨wo, rfl⟩ : ∃ wo : World, wo = wr := ⟨_, rfl⟩
      by_cases hlt : i < L.length
      · have hlt' : (i : Int) < (L.length : Int) := by omega
        obtain ⟨b, off, v, hae, -, hbl, c0, c1, c2, hkid⟩ := (HRD.out.below HB.out).kid hlt
        obtain ⟨ak, ck, rfl, -, -⟩ := hkid.form
        rw [List.length_map] at c2 hkid
        have hcx := hkid.bounds.2
        unfold maxLen at hcx
        obtain ⟨hcx1, hcx2⟩ := hcx
        have HBAD1 := Lib.hid (HBAD.out i hlt)
        have HIN := Lib.hid (HN.out)
        obtain ⟨x, HX⟩ := nameIt (L[i]'hlt)
        rw [HX.out] at c0 c1 c2 hkid HBAD1 hcx1
        obtain ⟨w4, HW4⟩ := nameIt (wo.alloc (.cells #[.int .i64 x.rule, .int .i64 x.term, .slice ak x.kids.length ck] 31))
        have hb4 : Below wo.heap.size wo w4 := by rw [← HW4.out]; exact (Below.refl _ _).alloc (Nat.le_refl _) _
        have HB4 := Lib.hid (HB1.out.trans ((HB.out.trans (hb4.mono HB.out.size)).mono HB1.out.size))
        have X4 : Hid (w4.heap[wo.heap.size]? = some (.cells #[.int .i64 x.rule, .int .i64 x.term, .slice ak x.kids.length ck] 31 (0, 0))) := by rw [← HW4.out]; exact bx_new _ _ _ rfl
        have X1' := Lib.hid (bx_keep X1.out HB4.out)
        have HKD := Lib.hid (hkid.below hb4)
        have CX := Lib.hid (CL.out x ak ck w4 HB4.out)
        obtain ⟨S, HS⟩ := nameIt (labS g x)
        obtain ⟨q, HQ⟩ := nameIt (label g x).isSome
        obtain ⟨xr, HXr⟩ := nameIt x.rule
        obtain ⟨xt, HXt⟩ := nameIt x.term
        obtain ⟨K, HK⟩ := nameIt x.kids
        rw [HXr.out, HXt.out, HK.out] at X4 HW4
        rw [HXr.out, HXt.out, HK.out, HS.out, HQ.out] at CX
        rw [HXr.out] at c0
        rw [HXt.out] at c1
        rw [HK.out] at c2 HKD hcx1
        obtain ⟨x0, x1, x2, x3, y0, y1, y2⟩ := cells7 (Below.refl _ w4) X1'.out X4.out
        have hl4 : wo.heap.size < w4.heap.size := (Array.getElem?_eq_some_iff.1 X4.out).1
        have hl1 : w.heap.size < w4.heap.size := (Array.getElem?_eq_some_iff.1 X1'.out).1
        obtain ⟨S0, HS0⟩ := nameIt S.term
        obtain ⟨S1, HS1⟩ := nameIt S.n
        rw [HS0.out, HS1.out] at CX
        have HBW := Lib.hid (HBB.out.trans ((HB.out.trans (hb4.mono HB.out.size)).mono HBB.out.size))
        have HB14 := Lib.hid (HB.out.trans (hb4.mono HB.out.size))
        subst hae
        clear hkid hb4
        go_upto_region 7 with fail
        rw [HW4.out]
        go_wp2_with fail
        refine CX.out.mono ?_
        rintro e w5 ⟨rfl, hb5⟩
        obtain ⟨w6, HW6⟩ := nameIt (w5.alloc (.cells #[.bool S0, .int .i64 S1] 78))
        have hb6 : Below w4.heap.size w4 w6 := by rw [← HW6.out]; exact hb5.trans ((Below.refl _ _).alloc hb5.size _)
        have HB6 := Lib.hid hb6
        have HB16 := Lib.hid (HB14.out.trans (hb6.mono HB14.out.size))
        have HBW6 := Lib.hid (HBW.out.trans (hb6.mono HBW.out.size))
        have X16 := Lib.hid (bx_keep X1'.out hb6)
        have X46 := Lib.hid (bx_keep X4.out hb6)
        clear x0 x1 x2 x3 y0 y1 y2 c0 c1 c2 hl4 hl1 hb5
        obtain ⟨x0, x1, x2, x3, y0, y1, y2⟩ := cells7 (Below.refl _ w6) X16.out X46.out
        clear hb6
        cases q with
        | false =>
          obtain rfl : B = 3 := HBAD1.out (refNode_none HQ.out)
          go_upto_region 8 with fail
          rw [HW6.out]
          go_wp2_with fail
          go_ret
          exact ⟨rfl, HBW6.out⟩
        | true =>
          by_cases hxr : xr = -1
          · have HOK : Hid (refNode g x = true) := refNode_leaf HQ.out (by rw [HXr.out, hxr])
            have HN2 : Hid (∀ j (h : j < L.length), j < i + 1 → refNode g L[j] = true) := by
              intro j h hj
              by_cases e : j = i
              · subst e; rw [HX.out]; exact HOK.out
              · exact HIN.out j h (by omega)
            subst hxr
            go_upto_region 8 with fail
            rw [HW6.out]
            go_wp2_with fail
            go_roundg (L.length - (i + 1))
            case measure => omega
            case rel => exact ⟨i + 1, by omega, by omega, by go_num, HB16, HN2⟩
          · have hxb : (xr == -1) = false := by simpa using hxr
            have HXNE : Hid (x.rule ≠ -1) := by show _ ≠ _; rw [HXr.out]; exact hxr
            obtain ⟨j0, hj0, hj1⟩ := label_rule HQ.out HXNE.out
            rw [HXr.out] at hj0
            subst hj0
            have HKE : Hid (x.kids = K) := HK
            have hKL : K.length ≤ L.length := by
              have := kids_le (t := t) (x := x) (by rw [HL.out, ← HX.out]; exact List.getElem_mem hlt) HXNE.out
              rwa [HL.out, HKE.out] at this
            rw [HKn.out] at hj1
            have HJ1 := Lib.hid hj1
            clear hxr hj1
            go_upto_region 8 with fail
            rw [HW6.out]
            go_wp2_with fail
            go_loopg [10, 40] K.length (fun gg v10 v40 wr => ∃ j : Nat, j ≤ K.length ∧ K.length - j ≤ gg ∧ v40 = .int .i64 j ∧ Hid (SymRel w6 ((K.take j).map (labS g)) v10 wr) ∧ Hid (∀ k ∈ K.take j, (label g k).isSome = true))
            case atStart => exact ⟨0, by omega, by omega, rfl, ⟨⟨[], by simpa using World.ownsRow_nil _ _ _ _, by simp [RdAll]⟩, Below.refl _ _⟩, fun k hk => absurd hk (by simp)⟩
            case round =>
              obtain ⟨j, hj, hg2, rfl, HRL, HAL⟩ := hrel
              obtain ⟨wq, rfl⟩ : ∃ wq : World, wq = wr := ⟨_, rfl⟩
              obtain ⟨xs, ho, hd⟩ := HRL.out.own
              have hl0 : ((K.take j).map (labS g)).length = j := by simp; omega
              obtain ⟨a10, c10, hv10, h101, h102⟩ := own_len ho
              rw [hl0] at hv10 h101
              subst hv10
              unfold maxLen at h102
              have hbq := HRL.out.bel
              clear x0 x1 x2 x3 y0 y1 y2
              by_cases hjl : j < K.length
              · have hjl' : (j : Int) < (K.length : Int) := by omega
                have HO := Lib.hid ho
                have HD := Lib.hid hd
                have HL0 := Lib.hid hl0
                obtain ⟨b, off, v, hae, -, hbl, c0, c1, c2, hkid⟩ := ((HKD.out.below HB6.out).below hbq).kid hjl
                obtain ⟨ay, cy, rfl, -, -⟩ := hkid.form
                rw [List.length_map] at c2
                obtain ⟨y, HY⟩ := nameIt (K[j]'hjl)
                rw [HY.out] at c0 c1 c2
                obtain ⟨w7, HW7⟩ := nameIt (wq.alloc (.cells #[.int .i64 y.rule, .int .i64 y.term, .slice ay y.kids.length cy] 31))
                have hb7 : Below wq.heap.size wq w7 := by rw [← HW7.out]; exact (Below.refl _ _).alloc (Nat.le_refl _) _
                have HB7 := Lib.hid (HRL.out.bel.trans (hb7.mono hbq.size))
                have X7 : Hid (w7.heap[wq.heap.size]? = some (.cells #[.int .i64 y.rule, .int .i64 y.term, .slice ay y.kids.length cy] 31 (0, 0))) := by rw [← HW7.out]; exact bx_new _ _ _ rfl
                have X17 := Lib.hid (bx_keep X16.out HB7.out)
                have CY := Lib.hid (CL.out y ay cy w7 (HB4.out.trans ((HB6.out.trans (HB7.out.mono HB6.out.size)).mono HB4.out.size)))
                obtain ⟨T, HT⟩ := nameIt (labS g y)
                obtain ⟨p, HP⟩ := nameIt (label g y).isSome
                obtain ⟨yr, HYr⟩ := nameIt y.rule
                obtain ⟨yt, HYt⟩ := nameIt y.term
                obtain ⟨yk, HYk⟩ := nameIt y.kids.length
                rw [HYr.out, HYt.out, HYk.out] at X7 HW7
                rw [HYr.out, HYt.out, HYk.out, HT.out, HP.out] at CY
                rw [HYr.out] at c0
                rw [HYt.out] at c1
                rw [HYk.out] at c2
                obtain ⟨T0, HT0⟩ := nameIt T.term
                obtain ⟨T1, HT1⟩ := nameIt T.n
                rw [HT0.out, HT1.out] at CY
                obtain ⟨x0, x1, x2, x3, y0, y1, y2⟩ := cells7 (Below.refl _ w7) X17.out X7.out
                have HB7q := Lib.hid hb7
                have hsq := hbq.size
                subst hae
                clear hkid hb7 ho hd hl0
                go_upto_region 15 with fail
                rw [HW7.out]
                go_wp2_with fail
                refine CY.out.mono ?_
                rintro e w8 ⟨rfl, hb8⟩
                obtain ⟨w9, HW9⟩ := nameIt (w8.alloc (.cells #[.bool T0, .int .i64 T1] 78))
                have hb9 : Below w7.heap.size w7 w9 := by rw [← HW9.out]; exact hb8.trans ((Below.refl _ _).alloc hb8.size _)
                have hbq9 : Below wq.heap.size wq w9 := HB7q.out.trans (hb9.mono HB7q.out.size)
                have HB9 := Lib.hid hbq9
                have X9 : Hid (w9.heap[w8.heap.size]? = some (.cells #[.bool T0, .int .i64 T1] 78 (0, 0))) := by rw [← HW9.out]; exact bx_new _ _ _ rfl
                have hs9 := hbq9.size
                clear x0 x1 x2 x3 y0 y1 y2 c0 c1 c2 hb8 hb9 hbq9
                cases p with
                | false =>
                  obtain rfl : B = 3 := HBAD1.out (refNode_kid HXNE.out (by rw [HKE.out, ← HY.out]; exact List.getElem_mem hjl) HP.out)
                  go_upto_region 16 with fail
                  rw [HW9.out]
                  go_wp2_with fail
                  go_ret
                  exact ⟨rfl, HBW6.out.trans ((HRL.out.bel.trans (HB9.out.mono HRL.out.bel.size)).mono HBW6.out.size)⟩
                | true =>
                  have HO1 : Hid (w9.ownsRow w6.heap.size 78 2 (.slice a10 j c10) j xs) := by have h := own_keep HO.out HB9.out; rw [HL0.out] at h; exact h
                  obtain ⟨z0, z1⟩ := bx_cells2 X9.out
                  have HAL2 : Hid (∀ k ∈ K.take (j + 1), (label g k).isSome = true) := by
                    intro k hk
                    rw [List.take_succ_eq_append_getElem hjl] at hk
                    rcases List.mem_append.1 hk with h | h
                    · exact HAL.out k h
                    · simp at h; subst h; rw [HY.out]; exact HP.out
                  go_upto_region 16 with fail
                  rw [HW9.out]
                  go_wp2_with (at_builtin; refine wp_app1at elSym rfl _ _ rfl HO1.out rfl rfl rfl rfl rfl (by omega) (by unfold maxLen; omega) (by omega) ?_)
                  intro v' w10 ho2 hg10 hat2
                  have HR2 : Hid (SymRel w6 ((K.take (j + 1)).map (labS g)) v' w10) := by
                    rw [List.take_succ_eq_append_getElem hjl, List.map_append]
                    have h1 := HRL.out.step (s := T) HB9.out HO.out HD.out (by rw [HL0.out, HT0.out, HT1.out]; exact ho2) (by rw [HL0.out] at *; exact hg10)
                    rw [← HT.out, ← HY.out] at h1
                    exact h1
                  obtain ⟨a', c', rfl, -, -⟩ := own_len ho2
                  clear ho2 hg10 hat2 z0 z1
                  go_wp2_with fail
                  go_roundg (K.length - (j + 1))
                  case measure => omega
                  case rel => exact ⟨j + 1, by omega, by omega, by go_num, HR2, HAL2⟩
              · have hjl' : ¬ (j : Int) < (K.length : Int) := by omega
                obtain rfl : j = K.length := by omega
                have hsy := HRL.out.rd
                rw [List.take_length] at hsy hl0
                have hal := HAL.out
                rw [List.take_length] at hal
                obtain ⟨br, orr, vr, hae, -, hbr, -, e1, hkr⟩ := (HR.out.below (HB4.out.trans ((HB6.out.trans (hbq.mono HB6.out.size)).mono HB4.out.size))).rule_at HJ1.out
                obtain ⟨av, cv, rfl, -, -⟩ := hkr.form
                rw [List.length_map] at e1 hkr
                have HRI := refNode_inner HQ.out (j := j0) HXr.out (by rw [HKn.out]; exact HJ1.out) (by rw [HKE.out]; exact hal)
                rw [HKE.out] at HRI
                simp only [HKn.out] at HRI
                have CE := equalSyms a10 av c10 cv (K.map (labS g)) (R[j0]'HJ1.out).right wq (by rw [hl0]; exact hsy) hkr
                rw [← HRI, hl0] at CE
                obtain ⟨z, HZ⟩ := nameIt (refNode g x)
                obtain ⟨rn, HRN⟩ := nameIt (R[j0]'HJ1.out).right.length
                rw [HZ.out, HRN.out] at CE
                rw [HRN.out] at e1
                rw [HZ.out] at HBAD1
                have HCE := Lib.hid CE
                have hjr : (j0 : Int) < (R.length : Int) := by have := HJ1.out; omega
                have hjr2 : j0 < R.length := HJ1.out
                have hjr0 : (0 : Int) ≤ (j0 : Int) := by omega
                obtain ⟨x0, x1, x2, x3, y0, y1, y2⟩ := cells7 hbq X16.out X46.out
                have HBq := Lib.hid hbq
                subst hae
                clear hkr hsy CE HRI ho hd hbq hal
                go_wp2_with fail
                refine HCE.out.mono ?_
                rintro e w11 ⟨rfl, hb11⟩
                have HB11 := Lib.hid (HBq.out.trans (hb11.mono HBq.out.size))
                clear hb11 x0 x1 x2 x3 y0 y1 y2 e1
                cases z with
                | false =>
                  obtain rfl : B = 3 := HBAD1.out rfl
                  go_wp2_with fail
                  go_ret
                  exact ⟨rfl, HBW6.out.trans (HB11.out.mono HBW6.out.size)⟩
                | true =>
                  have HN2 : Hid (∀ j (h : j < L.length), j < i + 1 → refNode g L[j] = true) := by
                    intro j h hj
                    by_cases e : j = i
                    · subst e; rw [HX.out]; exact HZ.out
                    · exact HIN.out j h (by omega)
                  go_wp2_with fail
                  go_roundg (L.length - (i + 1))
                  case measure => omega
                  case rel => exact ⟨i + 1, by omega, by omega, by go_num, HB16.out.trans (HB11.out.mono HB16.out.size), HN2⟩
      · have hlt' : ¬ (i : Int) < (L.length : Int) := by omega
        obtain rfl : B = 0 := by
          rw [HBA.out, if_pos]
          rw [List.all_eq_true]
          intro y hy
          obtain ⟨j, hj, rfl⟩ := List.mem_iff_getElem.1 hy
          exact HN.out j hj (by omega)
        go_wp2_with fail
        go_ret
        exact ⟨rfl, HBB.out.trans (HB.out.mono HBB.out.size)⟩
end TF
end Go.Proofs.YtfocooehnmpndaaGreat
namespace Go.Proofs.YtfocooehnmpndaaGreat
open Go.RowKit
mutual
theorem nodes_size : ∀ t : Tree, (nodes t).length ≤ t.size
  | .node r tm ks => by
    have := nodesL_size ks
    rw [nodes, Tree.size]
    by_cases h : r = -1 <;> simp [h] <;> omega
theorem nodesL_size : ∀ ks : List Tree, (nodesL ks).length ≤ sizeL ks
  | [] => by simp [nodesL, sizeL]
  | k :: ks => by
    have := nodes_size k
    have := nodesL_size ks
    simp [nodesL, sizeL]; omega
end
def twoT : Tree := .node 0 0 [.node 1 0 [.node (-1) 0 []], .node (-1) 0 []]
def ReadPost (t : Tree) (w : World) (e : Ending) (w' : World) : Prop := ∃ v, e = .returned (.agg #[.int .i64 t.rule, .int .i64 t.term, v]) ∧ Rd AnyB w' (.sl (t.kids.map Tree.d)) [v] ∧ Below w.heap.size w w'
set_option maxHeartbeats 1000000 in
theorem twoE (w : World) : Calls Tryz.prog 9 #[] w (ReadPost twoT w) := by
  go_enter Tryz.func9, Tryz.ntmps9
  go_wp2_with fail
  refine bodyPost_ret (v := .agg #[.int .i64 0, .int .i64 0, .slice (some ⟨w.heap.size + 1 + 1 + 1, 0, none⟩) 2 2]) (by simp [results, Tryz.results9, go_sem]) rfl ?_
  refine ⟨_, rfl, ?_, ((((Below.refl _ _).alloc (Nat.le_refl _) _).alloc (by simp) _).alloc (by simp; omega) _).alloc (by simp; omega) _⟩
  have l : ∀ W, Rd AnyB W (Tree.node (-1) 0 []).d [.int .i64 (-1), .int .i64 0, .slice none 0 0] := fun W => rd_tree (t := .node (-1) 0 []) (rd_nil _ _)
  refine rd_of_own (own_of_block (bx_new _ _ _ (by simp)) (n := 2) (size := 3) rfl (by simp [maxLen])) ?_ rfl (fun _ _ => trivial)
  refine ⟨[.int .i64 1, .int .i64 0, .slice (some ⟨w.heap.size + 1 + 1, 0, none⟩) 1 1], [.int .i64 (-1), .int .i64 0, .slice none 0 0], rfl, ?_, RdAll.one (l _)⟩
  refine rd_tree (t := .node 1 0 [.node (-1) 0 []]) ?_
  exact rd_of_own (own_of_block (bx_keep (bx_new _ _ _ (by simp)) ((Below.refl _ _).alloc (Nat.le_refl _) _)) (n := 1) (size := 3) rfl (by simp [maxLen])) (RdAll.one (l _)) rfl (fun _ _ => trivial)
end Go.Proofs.YtfocooehnmpndaaGreat
namespace Go.Proofs.YtfocooehnmpndaaGreat
open Go.RowKit
theorem list_two : checkT listG twoT = 0 := by decide
end Go.Proofs.YtfocooehnmpndaaGreat
namespace Go.Proofs.YtfocooehnmpndaaGreat
open Go.RowKit
namespace TreeChecks
theorem check_ref (g : Gram) (t : Tree) : checkT g t = if checkG g = 0 then TF.refFault g t else checkG g := by
  unfold checkT TF.refFault
  rw [valid_ref]
  by_cases h : checkG g = 0
  · rw [if_neg (by simp [h]), if_pos h]
  · rw [if_pos h, if_neg h]
theorem sym_ref (g : Gram) (t : Tree) : symOf g t = if checkT g t = 0 then labS g t else ⟨false, 0⟩ := by
  unfold symOf
  by_cases h : checkT g t = 0
  · rw [if_pos h, if_pos h]
    have hv : validT g t = true := by
      unfold checkT at h
      by_cases h1 : checkG g = 0
      · rw [if_neg (by simp [h1])] at h
        by_cases h2 : 5000 < (nodes t).length
        · rw [if_pos h2] at h; simp at h
        · rw [if_neg h2] at h
          cases hv : validT g t
          · rw [hv] at h; simp at h
          · rfl
      · rw [if_pos h1] at h; exact absurd h h1
    have hn : nodeOk g t = true := List.all_eq_true.1 hv t (by rw [nodes_eq]; exact List.mem_cons_self)
    rw [labS, nodeOk_label hn]
    rfl
  · rw [if_neg h, if_neg h]
end TreeChecks
end Go.Proofs.YtfocooehnmpndaaGreat
namespace Go.Proofs.YtfocooehnmpndaaGreat
open Go.RowKit
namespace Dm
open At (Ref okEqK checkS)
noncomputable def chkD (g : Gram) (s : At.Sys) (t : Tree) : Int := if checkS g s ≠ 0 then checkS g s else if checkT g t ≠ 0 then checkT g t else if (symOf g t).term = false ∧ (symOf g t).n = g.start then 0 else 1
noncomputable def stF (g : Gram) (t : Tree) : Int := if TF.refFault g t ≠ 0 then TF.refFault g t else if (labS g t).term = false ∧ (labS g t).n = g.start then 0 else 1
theorem chk_want (g : Gram) (s : At.Sys) (t : Tree) : chkD g s t = if checkS g s ≠ 0 then checkS g s else stF g t := by
  unfold chkD
  by_cases h : checkS g s = 0
  · have hg := (sys_parts h).1
    have h1 : checkT g t = TF.refFault g t := by rw [TreeChecks.check_ref, if_pos hg]
    rw [if_neg (show ¬ checkS g s ≠ 0 by simpa using h), if_neg (show ¬ checkS g s ≠ 0 by simpa using h), h1]
    unfold stF
    by_cases h2 : TF.refFault g t = 0
    · rw [TreeChecks.sym_ref, h1, if_pos h2]
    · rw [if_pos h2, if_pos h2]
  · rw [if_pos h, if_pos h]
theorem chk_ok {g : Gram} {s : At.Sys} {t : Tree} (h : chkD g s t = 0) : checkS g s = 0 ∧ validT g t = true ∧ rootS g t = ⟨false, g.start⟩ ∧ (nodes t).length ≤ 5000 := by
  unfold chkD at h
  by_cases h1 : checkS g s = 0
  · rw [if_neg (by simpa using h1)] at h
    by_cases h2 : checkT g t = 0
    · rw [if_neg (by simpa using h2)] at h
      have h3 : (symOf g t).term = false ∧ (symOf g t).n = g.start := by
        by_cases h4 : (symOf g t).term = false ∧ (symOf g t).n = g.start
        · exact h4
        · rw [if_neg h4] at h; simp at h
      have h5 := h2
      unfold checkT at h5
      rw [if_neg (by simpa using (sys_parts h1).1)] at h5
      by_cases h6 : 5000 < (nodes t).length
      · rw [if_pos h6] at h5; simp at h5
      · rw [if_neg h6] at h5
        have hv : validT g t = true := by
          cases hv : validT g t
          · rw [hv] at h5; simp at h5
          · rfl
        unfold symOf at h3
        rw [if_pos h2] at h3
        refine ⟨h1, hv, ?_, by omega⟩
        have e : ∀ x : Sym, x.term = false → x.n = g.start → x = ⟨false, g.start⟩ := by rintro ⟨_, _⟩ rfl rfl; rfl
        exact e _ h3.1 h3.2
    · rw [if_pos (by simpa using h2)] at h; exact absurd h h2
  · rw [if_pos (by simpa using h1)] at h; exact absurd h h1
mutual
theorem tsz_nodes {g : Gram} : ∀ (t : Tree), ((nodes t).all (nodeOk g)) = true → tsz t = (nodes t).length
  | .node r tm ks, h => by
    rw [nodes] at h ⊢
    rw [tsz]
    by_cases hr : r = -1
    · have h1 := List.all_eq_true.1 h (.node r tm ks) List.mem_cons_self
      unfold nodeOk at h1
      rw [if_pos (show (Tree.node r tm ks).rule = -1 from hr)] at h1
      simp at h1
      have hk : ks = [] := h1.2.2
      subst hk
      simp [tszL, nodesL]
    · rw [if_neg hr] at h ⊢
      rw [List.length_cons, tszL_nodes ks (List.all_eq_true.2 fun x hx => List.all_eq_true.1 h x (List.mem_cons_of_mem _ hx))]
      omega
theorem tszL_nodes {g : Gram} : ∀ (ks : List Tree), ((nodesL ks).all (nodeOk g)) = true → tszL ks = (nodesL ks).length
  | [], _ => by simp [tszL, nodesL]
  | k :: ks, h => by
    rw [nodesL] at h ⊢
    rw [List.all_append, Bool.and_eq_true] at h
    rw [tszL, List.length_append, tsz_nodes k h.1, tszL_nodes ks h.2]
end
set_option maxHeartbeats 4000000 in
set_option maxRecDepth 100000 in
theorem checkDE (g : Gram) (s : At.Sys) (T : Tree) (hok : ∀ q ∈ s.eqs, okEqK q) (hN : (nodes T).length ≤ 1099511627776) (ra aa qa ta : Option Addr) (rc ac qc tc : Nat) (W : World)
    (hr : Rd AnyB W (.sl (g.rules.map Rule.d)) [.slice ra g.rules.length rc]) (ha : Rd AnyB W (.sl (s.attrs.map At.Attr.d)) [.slice aa s.attrs.length ac]) (hq : Rd AnyB W (.sl (s.eqs.map At.Eqn.d)) [.slice qa s.eqs.length qc]) (ht : Rd AnyB W (.sl (T.kids.map Tree.d)) [.slice ta T.kids.length tc]) :
    Calls Tryz.prog 25 #[.agg #[.int .i64 g.terms, .int .i64 g.nons, .int .i64 g.start, .slice ra g.rules.length rc], .agg #[.slice aa s.attrs.length ac, .slice qa s.eqs.length qc], .agg #[.int .i64 T.rule, .int .i64 T.term, .slice ta T.kids.length tc]] W fun e w' => e = .returned (.int .i64 (chkD g s T)) ∧ Below W.heap.size W w' := by
  obtain ⟨w0, HW0⟩ := nameIt (((W.alloc (.cells #[.int .i64 g.terms, .int .i64 g.nons, .int .i64 g.start, .slice ra g.rules.length rc] 24)).alloc (.cells #[.slice aa s.attrs.length ac, .slice qa s.eqs.length qc] 28)).alloc (.cells #[.int .i64 T.rule, .int .i64 T.term, .slice ta T.kids.length tc] 31))
  have b1 : Below W.heap.size W (W.alloc (.cells #[.int .i64 g.terms, .int .i64 g.nons, .int .i64 g.start, .slice ra g.rules.length rc] 24)) := (Below.refl _ _).alloc (Nat.le_refl _) _
  have b2 := b1.alloc (by simp) (.cells #[.slice aa s.attrs.length ac, .slice qa s.eqs.length qc] 28)
  have hb0 : Below W.heap.size W w0 := by rw [← HW0.out]; exact b2.alloc (by simp; omega) _
  have X0 : Hid (w0.heap[W.heap.size]? = some (.cells #[.int .i64 g.terms, .int .i64 g.nons, .int .i64 g.start, .slice ra g.rules.length rc] 24 (0, 0))) := by
    rw [← HW0.out]; exact bx_keep (bx_keep (bx_new _ _ _ rfl) ((Below.refl _ _).alloc (Nat.le_refl _) _)) ((Below.refl _ _).alloc (Nat.le_refl _) _)
  have X1 : Hid (w0.heap[W.heap.size + 1]? = some (.cells #[.slice aa s.attrs.length ac, .slice qa s.eqs.length qc] 28 (0, 0))) := by
    rw [← HW0.out]; exact bx_keep (bx_new _ _ _ (by simp)) ((Below.refl _ _).alloc (Nat.le_refl _) _)
  have X2 : Hid (w0.heap[W.heap.size + 1 + 1]? = some (.cells #[.int .i64 T.rule, .int .i64 T.term, .slice ta T.kids.length tc] 31 (0, 0))) := by
    rw [← HW0.out]; exact bx_new _ _ _ (by simp)
  have HB0 := Lib.hid hb0
  have CA := Lib.hid (fun (w' : World) (hb : Below W.heap.size W w') => At.attrCheckE g s ra aa qa rc ac qc w' hok (hr.below hb) (ha.below hb) (hq.below hb))
  have CS := Lib.hid (fun (w' : World) (hb : Below W.heap.size W w') => symbolE g ra rc T ta tc w' (hr.below hb) (ht.below hb) hN)
  have HCH : Hid (chkD g s T = if checkS g s ≠ 0 then checkS g s else if checkT g T ≠ 0 then checkT g T else if (symOf g T).term = false ∧ (symOf g T).n = g.start then 0 else 1) := rfl
  obtain ⟨E, HE⟩ := nameIt (checkS g s)
  obtain ⟨F, HF⟩ := nameIt (checkT g T)
  obtain ⟨yt, HYT⟩ := nameIt (symOf g T).term
  obtain ⟨yn, HYN⟩ := nameIt (symOf g T).n
  obtain ⟨Z, HZ⟩ := nameIt (chkD g s T)
  obtain ⟨rl, HRL⟩ := nameIt g.rules.length
  obtain ⟨al, HAL⟩ := nameIt s.attrs.length
  obtain ⟨ql, HQLn⟩ := nameIt s.eqs.length
  obtain ⟨gt, HGT⟩ := nameIt g.terms
  obtain ⟨gn, HGN⟩ := nameIt g.nons
  obtain ⟨gs, HGS⟩ := nameIt g.start
  obtain ⟨tr, HTR⟩ := nameIt T.rule
  obtain ⟨tm, HTM⟩ := nameIt T.term
  obtain ⟨nk, HNK⟩ := nameIt T.kids.length
  rw [HRL.out, HAL.out, HQLn.out, HGT.out, HGN.out, HGS.out, HTR.out, HTM.out, HNK.out, HZ.out]
  rw [HRL.out, HAL.out, HQLn.out, HGT.out, HGN.out, HGS.out, HTR.out, HTM.out, HNK.out] at HW0
  rw [HRL.out, HGT.out, HGN.out, HGS.out] at X0
  rw [HAL.out, HQLn.out] at X1
  rw [HTR.out, HTM.out, HNK.out] at X2
  simp only [HRL.out, HAL.out, HQLn.out, HGT.out, HGN.out, HGS.out, HE.out] at CA
  simp only [HRL.out, HGT.out, HGN.out, HGS.out, HTR.out, HTM.out, HNK.out, HYT.out, HYN.out, HF.out] at CS
  rw [HE.out, HF.out, HYT.out, HYN.out, HGS.out, HZ.out] at HCH
  clear b1 b2 hb0 hr ha hq ht hok hN
  have C0 := Lib.hid (CA.out w0 HB0.out)
  obtain ⟨x0, x1, x2, x3⟩ := bx_cells4 X0.out
  obtain ⟨y0, y1⟩ := bx_cells2 X1.out
  go_enter Tryz.func25, Tryz.ntmps25
  go_upto_region 1 with fail
  rw [HW0.out]
  clear HW0
  go_wp2_with (refine C0.out.mono ?_)
  rintro e1 w1 ⟨rfl, hb1⟩
  have HB1 : Hid (Below W.heap.size W w1) := HB0.out.trans (hb1.mono HB0.out.size)
  have HB01 : Hid (Below w0.heap.size w0 w1) := hb1
  clear hb1 x0 x1 x2 x3 y0 y1 C0
  by_cases hE : E = 0
  · have hE1 : (E != 0) = false := by simpa using hE
    have HC2 : Hid (Z = if F ≠ 0 then F else if yt = false ∧ yn = gs then 0 else 1) := by show _ = _; rw [HCH.out, if_neg (by simpa using hE)]
    have C1 := Lib.hid (CS.out w1 HB1.out)
    obtain ⟨x0, x1, x2, x3⟩ := bx_cells4 (bx_keep X0.out HB01.out)
    obtain ⟨z0, z1, z2⟩ := bx_cells3 (bx_keep X2.out HB01.out)
    clear hE HCH
    go_wp2_with (refine C1.out.mono ?_)
    rintro e2 w2 ⟨rfl, hb2⟩
    have HB2 : Hid (Below W.heap.size W w2) := HB1.out.trans (hb2.mono HB1.out.size)
    have HB02 : Hid (Below w0.heap.size w0 w2) := HB01.out.trans (hb2.mono HB01.out.size)
    clear hb2 x0 x1 x2 x3 z0 z1 z2 C1
    obtain ⟨w3, HW3⟩ := nameIt (w2.alloc (.cells #[.bool yt, .int .i64 yn] 78))
    have hb3 : Below w2.heap.size w2 w3 := by rw [← HW3.out]; exact (Below.refl _ _).alloc (Nat.le_refl _) _
    have X3 : Hid (w3.heap[w2.heap.size]? = some (.cells #[.bool yt, .int .i64 yn] 78 (0, 0))) := by rw [← HW3.out]; exact bx_new _ _ _ rfl
    have HB3 : Hid (Below W.heap.size W w3) := HB2.out.trans (hb3.mono HB2.out.size)
    have HB03 : Hid (Below w0.heap.size w0 w3) := HB02.out.trans (hb3.mono HB02.out.size)
    clear hb3
    by_cases hF : F = 0
    · have hF1 : (F != 0) = false := by simpa using hF
      have HC3 : Hid (Z = if yt = false ∧ yn = gs then 0 else 1) := by show _ = _; rw [HC2.out, if_neg (by simpa using hF)]
      clear hF HC2
      go_upto_region 5 with fail
      rw [HW3.out]
      clear HW3
      have hsn : ∀ w : World, (binOp .neq 78 (.agg #[.bool yt, .int .i64 yn]) (.agg #[.bool false, .int .i64 gs])).run Tryz.prog w = .ok (.bool (!(yt == false && yn == gs))) w := fun w => symNe yt false yn gs w
      have hgn : ∀ x : Aft w3, Calls Tryz.prog 61 #[.int .i64 gs] x.w fun e w' => e = .returned (.agg #[.bool false, .int .i64 gs]) ∧ Below x.w.heap.size x.w w' := fun x => At.gramN gs x.w
      have HGNC := Lib.hid hgn
      obtain ⟨nb, HNB⟩ : ∃ b : Bool, (!(yt == false && yn == gs)) = b := ⟨_, rfl⟩
      rw [HNB] at hsn
      have HNBh := Lib.hid HNB
      obtain ⟨x0, x1, x2, x3⟩ := bx_cells4 (bx_keep X0.out HB03.out)
      obtain ⟨s0, s1⟩ := bx_cells2 X3.out
      have ax2 := aft_cell x2
      have as0 := aft_cell s0
      have as1 := aft_cell s1
      clear x0 x1 x2 x3 s0 s1 hgn HNB
      go_upto_region 7 with fail
      refine wp_region_after (w0 := w3) (by kernel_rfl) (by kernel_rfl) ?_
      repeat (go_big_quiet_step (exact Calls.after (HGNC.out _)))
      refine wpQuiet_nil ?_
      rintro w4 ⟨⟨_, hb4⟩, rfl⟩
      have HB4 : Hid (Below W.heap.size W w4) := HB3.out.trans (hb4.mono HB3.out.size)
      clear hb4 ax2 as0 as1 hsn
      cases nb with
      | true =>
        have HZ1 : Hid (Z = 1) := by
          show _ = _
          rw [HC3.out, if_neg (fun h => by have h2 := HNBh.out; rw [h.1, h.2] at h2; simp at h2)]
        obtain rfl := HZ1.out
        go_wp2_with fail
        go_ret
        exact ⟨rfl, HB4.out⟩
      | false =>
        have HZ1 : Hid (Z = 0) := by
          show _ = _
          rw [HC3.out, if_pos (by have h2 := HNBh.out; simpa using h2)]
        obtain rfl := HZ1.out
        go_wp2_with fail
        go_ret
        exact ⟨rfl, HB4.out⟩
    · have hF1 : (F != 0) = true := by simpa using hF
      have HZ1 : Hid (Z = F) := by show _ = _; rw [HC2.out, if_pos (by simpa using hF)]
      clear hF HC2
      go_upto_region 5 with fail
      rw [HW3.out]
      clear HW3
      obtain rfl := HZ1.out
      go_wp2_with fail
      go_ret
      exact ⟨rfl, HB3.out⟩
  · have hE1 : (E != 0) = true := by simpa using hE
    have HZ1 : Hid (Z = E) := by show _ = _; rw [HCH.out, if_pos (by simpa using hE)]
    clear hE HCH
    obtain rfl := HZ1.out
    go_wp2_with fail
    go_ret
    exact ⟨rfl, HB1.out⟩
end Dm
end Go.Proofs.YtfocooehnmpndaaGreat
namespace Go.Proofs.YtfocooehnmpndaaGreat
open Go.RowKit
namespace Dm
open At (Ref okEqK checkS)
theorem allI_leA (g : Gram) (s : At.Sys) (L : List Nd) : (allI g s L).length ≤ L.length * s.attrs.length := by
  unfold allI
  have h : ∀ n, ((List.range n).flatMap fun n => (attrsAt g s L n).map fun a => (n, a)).length ≤ n * s.attrs.length := fun n => by
    induction n with
    | zero => simp
    | succ n ih =>
      rw [List.range_succ, List.flatMap_append, List.length_append, Nat.succ_mul]
      have h2 : (attrsAt g s L n).length ≤ s.attrs.length := by
        unfold attrsAt attrsOf
        split
        · exact Nat.zero_le _
        · exact Nat.le_trans (List.length_filter_le _ _) (by rw [List.length_range]; exact Nat.le_refl _)
      rw [List.flatMap_cons, List.flatMap_nil, List.append_nil, List.length_map]
      omega
  exact h _
theorem chk_size {g : Gram} {s : At.Sys} {T : Tree} (h : chkD g s T = 0) : tsz T ≤ 1000000 := by
  obtain ⟨_, hv, _, hn⟩ := chk_ok h
  rw [tsz_nodes T hv]
  omega
theorem start_inv (s : At.Sys) (L : List Nd) (A : Inst → Prop) : GetI s L A (fun _ => False) ⟨fun _ => 0, fun _ => 0⟩ :=
  ⟨fun i => ⟨fun h => (by cases h), fun h => h.elim⟩, fun i h => (by cases h), fun i h => (by cases h), fun i => Nat.zero_le _, fun i h => absurd rfl h⟩
set_option maxHeartbeats 4000000 in
set_option maxRecDepth 100000 in
theorem startFaultE (g : Gram) (T : Tree) (hN : (nodes T).length ≤ 1099511627776) (ra ta : Option Addr) (rc tc : Nat) (W : World)
    (hr : Rd AnyB W (.sl (g.rules.map Rule.d)) [.slice ra g.rules.length rc]) (ht : Rd AnyB W (.sl (T.kids.map Tree.d)) [.slice ta T.kids.length tc]) :
    Calls Tryz.prog 12 #[.agg #[.int .i64 g.terms, .int .i64 g.nons, .int .i64 g.start, .slice ra g.rules.length rc], .agg #[.int .i64 T.rule, .int .i64 T.term, .slice ta T.kids.length tc]] W fun e w' => e = .returned (.int .i64 (stF g T)) ∧ Below W.heap.size W w' := by
  obtain ⟨w0, HW0⟩ := nameIt ((W.alloc (.cells #[.int .i64 g.terms, .int .i64 g.nons, .int .i64 g.start, .slice ra g.rules.length rc] 24)).alloc (.cells #[.int .i64 T.rule, .int .i64 T.term, .slice ta T.kids.length tc] 31))
  have hb0 : Below W.heap.size W w0 := by rw [← HW0.out]; exact ((Below.refl _ _).alloc (Nat.le_refl _) _).alloc (by simp) _
  have X0 : Hid (w0.heap[W.heap.size]? = some (.cells #[.int .i64 g.terms, .int .i64 g.nons, .int .i64 g.start, .slice ra g.rules.length rc] 24 (0, 0))) := by
    rw [← HW0.out]; exact bx_keep (bx_new _ _ _ rfl) ((Below.refl _ _).alloc (Nat.le_refl _) _)
  have X2 : Hid (w0.heap[W.heap.size + 1]? = some (.cells #[.int .i64 T.rule, .int .i64 T.term, .slice ta T.kids.length tc] 31 (0, 0))) := by
    rw [← HW0.out]; exact bx_new _ _ _ (by simp)
  have HB0 := Lib.hid hb0
  have CF := Lib.hid (fun (w' : World) (hb : Below W.heap.size W w') => TF.treeFaultE g ra rc T ta tc w' (hr.below hb) (ht.below hb) hN)
  have CL := Lib.hid (fun (w' : World) (hb : Below W.heap.size W w') => labelE g ra rc T ta tc w' (hr.below hb))
  have HCH : Hid (stF g T = if TF.refFault g T ≠ 0 then TF.refFault g T else if (labS g T).term = false ∧ (labS g T).n = g.start then 0 else 1) := rfl
  obtain ⟨F, HF⟩ := nameIt (TF.refFault g T)
  obtain ⟨yt, HYT⟩ := nameIt (labS g T).term
  obtain ⟨yn, HYN⟩ := nameIt (labS g T).n
  obtain ⟨lb, HLB⟩ := nameIt (label g T).isSome
  obtain ⟨Z, HZ⟩ := nameIt (stF g T)
  obtain ⟨rl, HRL⟩ := nameIt g.rules.length
  obtain ⟨gt, HGT⟩ := nameIt g.terms
  obtain ⟨gn, HGN⟩ := nameIt g.nons
  obtain ⟨gs, HGS⟩ := nameIt g.start
  obtain ⟨tr, HTR⟩ := nameIt T.rule
  obtain ⟨tm, HTM⟩ := nameIt T.term
  obtain ⟨nk, HNK⟩ := nameIt T.kids.length
  rw [HRL.out, HGT.out, HGN.out, HGS.out, HTR.out, HTM.out, HNK.out, HZ.out]
  rw [HRL.out, HGT.out, HGN.out, HGS.out, HTR.out, HTM.out, HNK.out] at HW0
  rw [HRL.out, HGT.out, HGN.out, HGS.out] at X0
  rw [HTR.out, HTM.out, HNK.out] at X2
  simp only [HRL.out, HGT.out, HGN.out, HGS.out, HTR.out, HTM.out, HNK.out, HF.out] at CF
  simp only [HRL.out, HGT.out, HGN.out, HGS.out, HTR.out, HTM.out, HNK.out, HYT.out, HYN.out, HLB.out] at CL
  rw [HF.out, HYT.out, HYN.out, HGS.out, HZ.out] at HCH
  clear hb0 hr ht hN
  have C0 := Lib.hid (CF.out w0 HB0.out)
  obtain ⟨x0, x1, x2, x3⟩ := bx_cells4 X0.out
  obtain ⟨z0, z1, z2⟩ := bx_cells3 X2.out
  go_enter Tryz.func12, Tryz.ntmps12
  go_upto_region 1 with fail
  rw [HW0.out]
  clear HW0
  go_wp2_with (refine C0.out.mono ?_)
  rintro e1 w1 ⟨rfl, hb1⟩
  have HB1 : Hid (Below W.heap.size W w1) := HB0.out.trans (hb1.mono HB0.out.size)
  have HB01 : Hid (Below w0.heap.size w0 w1) := hb1
  clear hb1 x0 x1 x2 x3 z0 z1 z2 C0
  by_cases hE : F = 0
  · have hE1 : (F != 0) = false := by simpa using hE
    have HC2 : Hid (Z = if yt = false ∧ yn = gs then 0 else 1) := by show _ = _; rw [HCH.out, if_neg (by simpa using hE)]
    have C1 := Lib.hid (CL.out w1 HB1.out)
    obtain ⟨x0, x1, x2, x3⟩ := bx_cells4 (bx_keep X0.out HB01.out)
    obtain ⟨z0, z1, z2⟩ := bx_cells3 (bx_keep X2.out HB01.out)
    clear hE HCH
    go_wp2_with (refine C1.out.mono ?_)
    rintro e2 w2 ⟨rfl, hb2⟩
    have HB2 : Hid (Below W.heap.size W w2) := HB1.out.trans (hb2.mono HB1.out.size)
    have HB02 : Hid (Below w0.heap.size w0 w2) := HB01.out.trans (hb2.mono HB01.out.size)
    clear hb2 x0 x1 x2 x3 z0 z1 z2 C1
    obtain ⟨w3, HW3⟩ := nameIt (w2.alloc (.cells #[.bool yt, .int .i64 yn] 78))
    have hb3 : Below w2.heap.size w2 w3 := by rw [← HW3.out]; exact (Below.refl _ _).alloc (Nat.le_refl _) _
    have X3 : Hid (w3.heap[w2.heap.size]? = some (.cells #[.bool yt, .int .i64 yn] 78 (0, 0))) := by rw [← HW3.out]; exact bx_new _ _ _ rfl
    have HB3 : Hid (Below W.heap.size W w3) := HB2.out.trans (hb3.mono HB2.out.size)
    have HB03 : Hid (Below w0.heap.size w0 w3) := HB02.out.trans (hb3.mono HB02.out.size)
    clear hb3
    go_upto_region 5 with fail
    rw [HW3.out]
    clear HW3
    obtain ⟨x0, x1, x2, x3⟩ := bx_cells4 (bx_keep X0.out HB03.out)
    obtain ⟨s0, s1⟩ := bx_cells2 X3.out
    cases yt with
    | true =>
      have HZ1 : Hid (Z = 1) := by show _ = _; rw [HC2.out, if_neg (fun h => by cases h.1)]
      obtain rfl := HZ1.out
      go_wp2_with fail
      go_ret
      exact ⟨rfl, HB3.out⟩
    | false =>
      by_cases hy : yn = gs
      · have hy1 : (yn != gs) = false := by simpa using hy
        have HZ1 : Hid (Z = 0) := by show _ = _; rw [HC2.out, if_pos ⟨rfl, hy⟩]
        obtain rfl := HZ1.out
        clear hy
        go_wp2_with fail
        go_ret
        exact ⟨rfl, HB3.out⟩
      · have hy1 : (yn != gs) = true := by simpa using hy
        have HZ1 : Hid (Z = 1) := by show _ = _; rw [HC2.out, if_neg (fun h => hy h.2)]
        obtain rfl := HZ1.out
        clear hy
        go_wp2_with fail
        go_ret
        exact ⟨rfl, HB3.out⟩
  · have hE1 : (F != 0) = true := by simpa using hE
    have HZ1 : Hid (Z = F) := by show _ = _; rw [HCH.out, if_pos (by simpa using hE)]
    clear hE HCH
    obtain rfl := HZ1.out
    go_wp2_with fail
    go_ret
    exact ⟨rfl, HB1.out⟩
end Dm
end Go.Proofs.YtfocooehnmpndaaGreat
namespace Go.Proofs.YtfocooehnmpndaaGreat
open Go.RowKit
namespace Dm
open At (Ref)
structure Hw where
  c0 : Value
  c1 : Value
  c2 : Value
  c3 : Value
  c4 : Value
  c5 : Value
def Hw.cells (h : Hw) (vn vu vp vk va : Value) : Array Value := #[h.c0, h.c1, h.c2, h.c3, h.c4, h.c5, vn, vu, vp, vk, va]
structure W4 (B : Nat) (cn : List Value) (nn : Nat) (ck : List Value) (nk : Nat) (al : List Inst) (vn vk va : Value) (M : Nat) (iv : Nat → Value) (il : Nat → List Int) (w : World) : Prop where
  nod : w.ownsRow B 31 3 vn nn cn
  out : w.ownsRow B 40 1 vk nk ck
  all : w.ownsRow B 59 2 va al.length (plC al)
  int : ∀ k, k < M → w.ownsRow B 3 1 (iv k) (il k).length (ints (il k))
  dis : ∀ k k', k < M → k' < M → k ≠ k' → ∀ g, (iv k).ownBlock = some g → (iv k').ownBlock ≠ some g
  le : B ≤ w.heap.size
def OwW (vn vk va : Value) (M : Nat) (iv : Nat → Value) (k : Nat) : Prop := vn.ownBlock = some k ∨ vk.ownBlock = some k ∨ va.ownBlock = some k ∨ ∃ i, i < M ∧ (iv i).ownBlock = some k
theorem stq_grown {O O' : Nat → Prop} {w w' : World} {row : Option Nat} (hg : w.grownBy w' row) (h1 : ∀ k, row = some k → O k) (h2 : ∀ k, O' k → O k ∨ w.heap.size ≤ k) : Stq O O' w w' :=
  ⟨hg.os, hg.tape, hg.output, hg.size, fun k hk hn => hg.block k hk (fun e => hn (h1 k e.symm)), h2⟩
theorem typ_ne {w : World} {B : Nat} {e e' : TypeId} {s s' : Nat} {v v' : Value} {n n' : Nat} {xs xs' : List Value} (h : w.ownsRow B e s v n xs) (h' : w.ownsRow B e' s' v' n' xs') (hne : e ≠ e') {g : Nat} (hg : v.ownBlock = some g) : v'.ownBlock ≠ some g := fun hg' => by
  obtain ⟨c1, h1⟩ := own_typedN h hg
  obtain ⟨c2, h2⟩ := own_typedN h' hg'
  rw [h1] at h2
  cases h2
  exact hne rfl
theorem own_beside {w w' : World} {B : Nat} {e : TypeId} {s : Nat} {v v0 : Value} {n : Nat} {xs : List Value} (h : w.ownsRow B e s v n xs) (hg : w.grownBy w' v0.ownBlock) (hne : ∀ g, v.ownBlock = some g → v0.ownBlock ≠ some g) : w'.ownsRow B e s v n xs :=
  own_blk h fun g hgk => hg.block g (h.lt g hgk).2 (fun e => hne g hgk e.symm)
section
variable {B : Nat} {cn : List Value} {nn : Nat} {ck : List Value} {nk : Nat} {al : List Inst} {vn vk va : Value} {M : Nat} {iv : Nat → Value} {il : Nat → List Int} {w w' : World}
theorem W4.keep (h : W4 B cn nn ck nk al vn vk va M iv il w) (hb : Below w.heap.size w w') : W4 B cn nn ck nk al vn vk va M iv il w' :=
  ⟨own_keep h.nod hb, own_keep h.out hb, own_keep h.all hb, fun k hk => own_keep (h.int k hk) hb, h.dis, Nat.le_trans h.le hb.size⟩
theorem W4.own (h : W4 B cn nn ck nk al vn vk va M iv il w) {k : Nat} (hk : OwW vn vk va M iv k) : B ≤ k ∧ k < w.heap.size := by
  rcases hk with hk | hk | hk | ⟨i, hi, hk⟩
  · exact h.nod.lt k hk
  · exact h.out.lt k hk
  · exact h.all.lt k hk
  · exact (h.int i hi).lt k hk
theorem W4.set (h : W4 B cn nn ck nk al vn vk va M iv il w) {b j : Nat} (hb : b < B) (v : Value) : W4 B cn nn ck nk al vn vk va M iv il (w.setCell ⟨b, j, none⟩ v) := by
  have hs : ∀ g, B ≤ g → (w.setCell ⟨b, j, none⟩ v).heap[g]? = w.heap[g]? := fun g hg => Below.heap_setCell _ _ _ _ (show g ≠ b by omega)
  refine ⟨own_blk h.nod fun g hg => hs g (h.nod.lt g hg).1, own_blk h.out fun g hg => hs g (h.out.lt g hg).1, own_blk h.all fun g hg => hs g (h.all.lt g hg).1, fun k hk => own_blk (h.int k hk) fun g hg => hs g ((h.int k hk).lt g hg).1, h.dis, ?_⟩
  rw [show (w.setCell ⟨b, j, none⟩ v).heap.size = w.heap.size by simp]
  exact h.le
theorem W4.appN (h : W4 B cn nn ck nk al vn vk va M iv il w) {v' : Value} {news : List Value} (ho : w'.ownsRow B 31 3 v' (nn + 1) (cn ++ news)) (hg : w.grownBy w' vn.ownBlock) (hat : v'.ownBlock = vn.ownBlock ∨ ∃ k, v'.ownBlock = some k ∧ w.heap.size ≤ k) :
    W4 B (cn ++ news) (nn + 1) ck nk al v' vk va M iv il w' ∧ Stq (OwW vn vk va M iv) (OwW v' vk va M iv) w w' := by
  refine ⟨⟨ho, own_beside h.out hg (fun g e => typ_ne h.out h.nod (by decide) e), own_beside h.all hg (fun g e => typ_ne h.all h.nod (by decide) e), fun k hk => own_beside (h.int k hk) hg (fun g e => typ_ne (h.int k hk) h.nod (by decide) e), h.dis, Nat.le_trans h.le hg.size⟩, stq_grown hg (fun k e => .inl e) fun k hk => ?_⟩
  rcases hk with hk | hk | hk | hk
  · rcases hat with e | ⟨q, e, hq⟩
    · exact .inl (.inl (by rw [← e]; exact hk))
    · rw [e] at hk; cases hk; exact .inr hq
  · exact .inl (.inr (.inl hk))
  · exact .inl (.inr (.inr (.inl hk)))
  · exact .inl (.inr (.inr (.inr hk)))
theorem W4.appO (h : W4 B cn nn ck nk al vn vk va M iv il w) {v' : Value} {news : List Value} (ho : w'.ownsRow B 40 1 v' (nk + 1) (ck ++ news)) (hg : w.grownBy w' vk.ownBlock) (hat : v'.ownBlock = vk.ownBlock ∨ ∃ k, v'.ownBlock = some k ∧ w.heap.size ≤ k) :
    W4 B cn nn (ck ++ news) (nk + 1) al vn v' va M iv il w' ∧ Stq (OwW vn vk va M iv) (OwW vn v' va M iv) w w' := by
  refine ⟨⟨own_beside h.nod hg (fun g e => typ_ne h.nod h.out (by decide) e), ho, own_beside h.all hg (fun g e => typ_ne h.all h.out (by decide) e), fun k hk => own_beside (h.int k hk) hg (fun g e => typ_ne (h.int k hk) h.out (by decide) e), h.dis, Nat.le_trans h.le hg.size⟩, stq_grown hg (fun k e => .inr (.inl e)) fun k hk => ?_⟩
  rcases hk with hk | hk | hk | hk
  · exact .inl (.inl hk)
  · rcases hat with e | ⟨q, e, hq⟩
    · exact .inl (.inr (.inl (by rw [← e]; exact hk)))
    · rw [e] at hk; cases hk; exact .inr hq
  · exact .inl (.inr (.inr (.inl hk)))
  · exact .inl (.inr (.inr (.inr hk)))
theorem W4.appA (h : W4 B cn nn ck nk al vn vk va M iv il w) {v' : Value} {i : Inst} (ho : w'.ownsRow B 59 2 v' (al.length + 1) (plC al ++ [.int .i64 i.1, .int .i64 i.2])) (hg : w.grownBy w' va.ownBlock) (hat : v'.ownBlock = va.ownBlock ∨ ∃ k, v'.ownBlock = some k ∧ w.heap.size ≤ k) :
    W4 B cn nn ck nk (al ++ [i]) vn vk v' M iv il w' ∧ Stq (OwW vn vk va M iv) (OwW vn vk v' M iv) w w' := by
  refine ⟨⟨own_beside h.nod hg (fun g e => typ_ne h.nod h.all (by decide) e), own_beside h.out hg (fun g e => typ_ne h.out h.all (by decide) e), by rw [plC_snoc, List.length_append]; exact ho, fun k hk => own_beside (h.int k hk) hg (fun g e => typ_ne (h.int k hk) h.all (by decide) e), h.dis, Nat.le_trans h.le hg.size⟩, stq_grown hg (fun k e => .inr (.inr (.inl e))) fun k hk => ?_⟩
  rcases hk with hk | hk | hk | hk
  · exact .inl (.inl hk)
  · exact .inl (.inr (.inl hk))
  · rcases hat with e | ⟨q, e, hq⟩
    · exact .inl (.inr (.inr (.inl (by rw [← e]; exact hk))))
    · rw [e] at hk; cases hk; exact .inr hq
  · exact .inl (.inr (.inr (.inr hk)))
theorem W4.appI (h : W4 B cn nn ck nk al vn vk va M iv il w) {p : Nat} (hp : p < M) {v' : Value} {x : Int} (ho : w'.ownsRow B 3 1 v' ((il p).length + 1) (ints (il p) ++ [.int .i64 x])) (hg : w.grownBy w' (iv p).ownBlock) (hat : v'.ownBlock = (iv p).ownBlock ∨ ∃ k, v'.ownBlock = some k ∧ w.heap.size ≤ k) :
    W4 B cn nn ck nk al vn vk va M (fun k => if k = p then v' else iv k) (fun k => if k = p then il p ++ [x] else il k) w' ∧ Stq (OwW vn vk va M iv) (OwW vn vk va M (fun k => if k = p then v' else iv k)) w w' := by
  have hq : ∀ j, j < M → j ≠ p → ∀ g, (iv j).ownBlock = some g → v'.ownBlock ≠ some g := by
    intro j hj hjt g e1 e2
    rcases hat with e | ⟨q, e, hq⟩
    · rw [e] at e2
      exact h.dis j p hj hp hjt g e1 e2
    · rw [e] at e2
      cases e2
      have := ((h.int j hj).lt _ e1).2
      omega
  refine ⟨⟨own_beside h.nod hg (fun g e => typ_ne h.nod (h.int p hp) (by decide) e), own_beside h.out hg (fun g e => typ_ne h.out (h.int p hp) (by decide) e), own_beside h.all hg (fun g e => typ_ne h.all (h.int p hp) (by decide) e), fun k hk => ?_, fun k k' hk hk' hkk g hgk hgk' => ?_, Nat.le_trans h.le hg.size⟩, stq_grown hg (fun k e => .inr (.inr (.inr ⟨p, hp, e⟩))) fun k hk => ?_⟩
  · by_cases e : k = p
    · subst e
      simp only [if_true]
      rw [ints_append, List.length_append]
      exact ho
    · simp only [e, if_false]
      exact own_beside (h.int k hk) hg (fun g e1 => h.dis k p hk hp e g e1)
  · by_cases e1 : k = p <;> by_cases e2 : k' = p <;> simp only [e1, e2, if_true, if_false] at hgk hgk'
    · exact hkk (by rw [e1, e2])
    · exact hq k' hk' e2 g hgk' hgk
    · exact hq k hk e1 g hgk hgk'
    · exact h.dis k k' hk hk' hkk g hgk hgk'
  · rcases hk with hk | hk | hk | ⟨i, hi, hk⟩
    · exact .inl (.inl hk)
    · exact .inl (.inr (.inl hk))
    · exact .inl (.inr (.inr (.inl hk)))
    · by_cases e1 : i = p
      · simp only [e1, if_true] at hk
        rcases hat with e | ⟨q, e, hq⟩
        · exact .inl (.inr (.inr (.inr ⟨p, hp, by rw [← e]; exact hk⟩)))
        · rw [e] at hk
          cases hk
          exact .inr hq
      · simp only [e1, if_false] at hk
        exact .inl (.inr (.inr (.inr ⟨i, hi, hk⟩)))
theorem W4.more (h : W4 B cn nn ck nk al vn vk va M iv il w) (hv : iv M = .slice none 0 0) (hl : il M = []) : W4 B cn nn ck nk al vn vk va (M + 1) iv il w := by
  refine ⟨h.nod, h.out, h.all, fun k hk => ?_, fun k k' hk hk' hkk g hgk hgk' => ?_, h.le⟩
  · by_cases e : k = M
    · subst e
      rw [hv, hl]
      exact World.ownsRow_nil _ _ _ _
    · exact h.int k (by omega)
  · by_cases e1 : k = M
    · rw [e1, hv] at hgk; cases hgk
    · by_cases e2 : k' = M
      · rw [e2, hv] at hgk'; cases hgk'
      · exact h.dis k k' (by omega) (by omega) hkk g hgk hgk'
theorem W4.setO (h : W4 B cn nn ck nk al vn vk va M iv il w) {kb kc p : Nat} (hvk : vk = .slice (some ⟨kb, 0, none⟩) nk kc) (u : Value) : W4 B cn nn (ck.set p u) nk al vn vk va M iv il (w.setCell ⟨kb, p, none⟩ u) ∧ Stq (OwW vn vk va M iv) (OwW vn vk va M iv) w (w.setCell ⟨kb, p, none⟩ u) := by
  subst hvk
  have hs : ∀ g, g ≠ kb → (w.setCell ⟨kb, p, none⟩ u).heap[g]? = w.heap[g]? := fun g hg => Below.heap_setCell _ _ _ _ hg
  have hsz : (w.setCell ⟨kb, p, none⟩ u).heap.size = w.heap.size := by simp
  have hne : ∀ {e : TypeId} {s : Nat} {v : Value} {n : Nat} {xs : List Value}, w.ownsRow B e s v n xs → e ≠ 40 → ∀ g, v.ownBlock = some g → g ≠ kb := fun hr he g hg e => by
    subst e
    exact typ_ne hr h.out he hg rfl
  refine ⟨⟨own_blk h.nod fun g hg => hs g (hne h.nod (by decide) g hg), own_setN h.out p u, own_blk h.all fun g hg => hs g (hne h.all (by decide) g hg), fun k hk => own_blk (h.int k hk) fun g hg => hs g (hne (h.int k hk) (by decide) g hg), h.dis, by rw [hsz]; exact h.le⟩, (setCell_facts _ _ _).1, (setCell_facts _ _ _).2.1, (setCell_facts _ _ _).2.2, by rw [hsz]; exact Nat.le_refl _, fun k hk hn => hs k (fun e => hn (.inr (.inl (by rw [e]; rfl)))), fun k hk => .inl hk⟩
end
end Dm
end Go.Proofs.YtfocooehnmpndaaGreat
namespace Go.Proofs.YtfocooehnmpndaaGreat
open Go.RowKit
namespace Dm
open At (Ref)
def trC (L : List Nd) (tr : Nat → Value × Value) : List Value := (List.range L.length).flatMap fun k => [.int .i64 (ndAt L k).rule, (tr k).1, (tr k).2]
theorem trC_len (L : List Nd) (tr : Nat → Value × Value) : (trC L tr).length = L.length * 3 := by
  have h : ∀ n, ((List.range n).flatMap fun k => [Value.int .i64 (ndAt L k).rule, (tr k).1, (tr k).2]).length = n * 3 := fun n => by
    induction n with
    | zero => rfl
    | succ n ih => rw [List.range_succ, List.flatMap_append, List.length_append, ih]; simp; omega
  exact h _
theorem trC_app (L : List Nd) (tr : Nat → Value × Value) (x : Nd) (u v : Value) : trC (L ++ [x]) (fun k => if k = L.length then (u, v) else tr k) = trC L tr ++ [.int .i64 x.rule, u, v] := by
  unfold trC
  rw [List.length_append, show L.length + [x].length = L.length + 1 from rfl, List.range_succ, List.flatMap_append]
  congr 1
  · refine flatCongr _ fun k hk => ?_
    rw [List.mem_range] at hk
    rw [ndAt_app, if_pos hk]
    simp only [show ¬ k = L.length by omega, if_false]
  · simp [ndAt_app]
theorem trC_addK (L : List Nd) (tr : Nat → Value × Value) {p n : Nat} (hp : p < L.length) : trC (addK L (p : Int) n) tr = trC L tr := by
  unfold trC
  rw [addK_len]
  refine flatCongr _ fun k hk => ?_
  rw [ndAt_addK hp]
  by_cases e : k = p
  · subst e; simp
  · simp [e]
theorem trC_at {L : List Nd} {tr : Nat → Value × Value} {n : Nat} (h : n < L.length) : (trC L tr)[n * 3]? = some (.int .i64 (ndAt L n).rule) := by
  have key : ∀ m, n < m → ((List.range m).flatMap fun k => [Value.int .i64 (ndAt L k).rule, (tr k).1, (tr k).2])[n * 3]? = some (.int .i64 (ndAt L n).rule) := by
    intro m
    induction m with
    | zero => intro h; omega
    | succ m ih =>
      intro hm
      have hl : ((List.range m).flatMap fun k => [Value.int .i64 (ndAt L k).rule, (tr k).1, (tr k).2]).length = m * 3 := by
        clear ih hm
        induction m with
        | zero => rfl
        | succ m ih => rw [List.range_succ, List.flatMap_append, List.length_append, ih]; simp; omega
      rw [List.range_succ, List.flatMap_append]
      by_cases e : n = m
      · subst e
        rw [List.getElem?_append_right (by rw [hl]; exact Nat.le_refl _), hl, Nat.sub_self]
        simp
      · rw [List.getElem?_append_left (by rw [hl]; omega)]
        exact ih (by omega)
  exact key _ h
def ilW (L : List Nd) (k : Nat) : List Int := if k = 0 then L.map Nd.up else if k = 1 then L.map Nd.pos else (ndAt L (k - 2)).kids
def ilF (L : List Nd) (up pos : Int) (c2 c3 : Bool) (k : Nat) : List Int := if k = 0 then (if c2 = true then L.map Nd.up ++ [up] else L.map Nd.up) else if k = 1 then (if c3 = true then L.map Nd.pos ++ [pos] else L.map Nd.pos) else (ndAt L (k - 2)).kids
theorem ilF_up (L : List Nd) (up pos : Int) (c3 : Bool) : (fun k => if k = 0 then ilF L up pos false c3 0 ++ [up] else ilF L up pos false c3 k) = ilF L up pos true c3 := by
  funext k
  by_cases e : k = 0
  · subst e; simp [ilF]
  · simp [ilF, e]
theorem ilF_pos (L : List Nd) (up pos : Int) (c2 : Bool) : (fun k => if k = 1 then ilF L up pos c2 false 1 ++ [pos] else ilF L up pos c2 false k) = ilF L up pos c2 true := by
  funext k
  by_cases e : k = 1
  · subst e; simp [ilF]
  · by_cases e0 : k = 0
    · subst e0; simp [ilF]
    · simp [ilF, e, e0]
theorem ilF_end (L : List Nd) (r up pos : Int) : ilF L up pos true true = ilW (L ++ [⟨r, up, pos, []⟩]) := by
  funext k
  unfold ilF ilW
  by_cases e0 : k = 0
  · simp [e0]
  · by_cases e1 : k = 1
    · simp [e1]
    · simp only [e0, e1, if_false]
      rw [ndAt_app]
      by_cases h : k - 2 < L.length
      · rw [if_pos h]
      · rw [if_neg h]
        have h2 : (ndAt L (k - 2)).kids = [] := by unfold ndAt; rw [List.getElem?_eq_none (by omega)]; rfl
        rw [h2]
        by_cases h3 : k - 2 = L.length
        · rw [if_pos h3]
        · rw [if_neg h3]; rfl
theorem addK_map (L : List Nd) (p n : Nat) (f : Nd → Int) (hf : ∀ x : Nd, ∀ l, f { x with kids := l } = f x) : (addK L (p : Int) n).map f = L.map f := by
  unfold addK
  rw [if_pos (by omega), Int.toNat_natCast]
  refine List.ext_getElem? fun k => ?_
  rw [List.getElem?_map, List.getElem?_map, List.getElem?_modify]
  cases L[k]? with
  | none => rfl
  | some x =>
    by_cases e : p = k
    · simp [e, hf]
    · simp [e]
theorem ilW_addK {L : List Nd} {p n : Nat} (hp : p < L.length) : (fun k => if k = p + 2 then ilW L (p + 2) ++ [(n : Int)] else ilW L k) = ilW (addK L (p : Int) n) := by
  funext k
  unfold ilW
  rw [addK_map _ _ _ Nd.up (fun _ _ => rfl), addK_map _ _ _ Nd.pos (fun _ _ => rfl)]
  by_cases e0 : k = 0
  · simp [e0]
  · by_cases e1 : k = 1
    · simp [e1]
    · simp only [e0, e1, if_false]
      rw [ndAt_addK hp]
      by_cases e : k = p + 2
      · subst e
        simp
      · simp only [e, if_false]
        rw [if_neg (by omega)]
def OwX (wb : Nat) (vn vk va : Value) (M : Nat) (iv : Nat → Value) (k : Nat) : Prop := k = wb ∨ OwW vn vk va M iv k
theorem Stq.withB {O O' : Nat → Prop} {w w' : World} (h : Stq O O' w w') (wb : Nat) : Stq (fun k => k = wb ∨ O k) (fun k => k = wb ∨ O' k) w w' :=
  ⟨h.os, h.tape, h.output, h.size, fun k hk hn => h.same k hk (fun e => hn (.inr e)), fun k hk => by
    rcases hk with hk | hk
    · exact .inl (.inl hk)
    · rcases h.own k hk with h1 | h1
      · exact .inl (.inr h1)
      · exact .inr h1⟩
structure WR (B wb : Nat) (hd : Hw) (L : List Nd) (al : List Inst) (vn vk va : Value) (iv : Nat → Value) (tr : Nat → Value × Value) (w : World) : Prop where
  w4 : W4 B (trC L tr) L.length ((List.range L.length).map fun k => iv (k + 2)) L.length al vn vk va (L.length + 2) iv (ilW L) w
  hdr : w.heap[wb]? = some (.cells (hd.cells vn (iv 0) (iv 1) vk va) 64 (0, 0))
  nil : ∀ k, L.length + 2 ≤ k → iv k = .slice none 0 0
  lt : wb < B
def WI (B wb : Nat) (hd : Hw) (L : List Nd) (al : List Inst) (O : Nat → Prop) (w : World) : Prop := ∃ vn vk va iv tr, WR B wb hd L al vn vk va iv tr w ∧ ∀ k, O k ↔ OwX wb vn vk va (L.length + 2) iv k
section
variable {B wb : Nat} {hd : Hw} {L : List Nd} {al : List Inst} {O : Nat → Prop} {w w' : World}
theorem WI.keep (h : WI B wb hd L al O w) (hb : Below w.heap.size w w') : WI B wb hd L al O w' := by
  obtain ⟨vn, vk, va, iv, tr, h1, h2⟩ := h
  exact ⟨vn, vk, va, iv, tr, ⟨h1.w4.keep hb, bx_keep h1.hdr hb, h1.nil, h1.lt⟩, h2⟩
theorem WI.own (h : WI B wb hd L al O w) {k : Nat} (hk : O k) : (k = wb ∨ B ≤ k) ∧ k < w.heap.size := by
  obtain ⟨vn, vk, va, iv, tr, h1, h2⟩ := h
  rcases (h2 k).1 hk with rfl | hk
  · exact ⟨.inl rfl, (Array.getElem?_eq_some_iff.1 h1.hdr).1⟩
  · have := h1.w4.own hk
    exact ⟨.inr this.1, this.2⟩
end
end Dm
end Go.Proofs.YtfocooehnmpndaaGreat
namespace Go.Proofs.YtfocooehnmpndaaGreat
open Go.RowKit
namespace Dm
def okW (b9 c1 b16 c2 b23 c3 b29 c4 : Bool) : Bool := (!c1 || b9) && (!c2 || (c1 && b16)) && (!c3 || (c2 && b23)) && (!c4 || (c3 && b29))
def lstW (b9 c1 b16 c2 b23 c3 b29 c4 : Bool) : Array Bool := #[true, true, true, true, true, true, true, true, true, b9, c1, true, true, true, true, true, b16, c2, true, true, true, true, true, b23, c3, true, true, true, true, b29, c4, false, false, false, false, false, false, false, false, false, false, false, false]
structure KW where
  B : Nat
  cn : List Value
  n : Nat
  ck : List Value
  al : List Inst
  va : Value
  iv : Nat → Value
  L : List Nd
  up : Int
  pos : Int
  news : Array Value
  w0 : World
  O : Nat → Prop
  vn : Value
  vu : Value
  vp : Value
  vk : Value
structure JF (k : KW) (b9 c1 b16 c2 b23 c3 b29 c4 : Bool) (un uk : Value) (iv' : Nat → Value) (x31 x32 x38 x39 x45 x46 x51 x52 : Value) (g9 g16 g23 g29 : Nat) (w : World) : Prop where
  ok : okW b9 c1 b16 c2 b23 c3 b29 c4 = true
  w4 : W4 k.B (if c1 = true then k.cn ++ k.news.toList else k.cn) (if c1 = true then k.n + 1 else k.n) (if c4 = true then k.ck ++ [.slice none 0 0] else k.ck) (if c4 = true then k.n + 1 else k.n) k.al un uk k.va (k.n + 2) iv' (ilF k.L k.up k.pos c2 c3) w
  st : Stq k.O (OwW un uk k.va (k.n + 2) iv') k.w0 w
  l9 : b9 = true → x31 = .slice (some ⟨g9, 0, none⟩) 1 1 ∧ w.heap[g9]? = some (.cells k.news 31 (0, 0)) ∧ ¬ OwW un uk k.va (k.n + 2) iv' g9
  l16 : b16 = true → x38 = .slice (some ⟨g16, 0, none⟩) 1 1 ∧ w.heap[g16]? = some (.cells #[.int .i64 k.up] 3 (0, 0)) ∧ ¬ OwW un uk k.va (k.n + 2) iv' g16
  l23 : b23 = true → x45 = .slice (some ⟨g23, 0, none⟩) 1 1 ∧ w.heap[g23]? = some (.cells #[.int .i64 k.pos] 3 (0, 0)) ∧ ¬ OwW un uk k.va (k.n + 2) iv' g23
  l29 : b29 = true → x51 = .slice (some ⟨g29, 0, none⟩) 1 1 ∧ w.heap[g29]? = some (.cells #[.slice none 0 0] 40 (0, 0)) ∧ ¬ OwW un uk k.va (k.n + 2) iv' g29
  n0 : c1 = false → un = k.vn
  n1 : c1 = true → x32 = un
  u0 : c2 = false → iv' 0 = k.vu
  u1 : c2 = true → x39 = iv' 0
  p0 : c3 = false → iv' 1 = k.vp
  p1 : c3 = true → x46 = iv' 1
  k0 : c4 = false → uk = k.vk
  k1 : c4 = true → x52 = uk
  rest : ∀ j, 2 ≤ j → iv' j = k.iv j
section
variable {k : KW} {b9 c1 b16 c2 b23 c3 b29 c4 : Bool} {un uk : Value} {iv' : Nat → Value} {x31 x32 x38 x39 x45 x46 x51 x52 : Value} {g9 g16 g23 g29 : Nat} {w w' : World}
theorem JF.lit9 (h : JF k false c1 b16 c2 b23 c3 b29 c4 un uk iv' x31 x32 x38 x39 x45 x46 x51 x52 g9 g16 g23 g29 w) : JF k true c1 b16 c2 b23 c3 b29 c4 un uk iv' (.slice (some ⟨w.heap.size, 0, none⟩) 1 1) x32 x38 x39 x45 x46 x51 x52 w.heap.size g16 g23 g29 (w.alloc (.cells k.news 31)) := by
  have hb : Below w.heap.size w (w.alloc (.cells k.news 31)) := (Below.refl _ _).alloc (Nat.le_refl _) _
  have hn : ¬ OwW un uk k.va (k.n + 2) iv' w.heap.size := fun e => by have := (h.w4.own e).2; omega
  exact ⟨by have h1 := h.ok; revert h1; unfold okW; cases c1 <;> cases b16 <;> cases c2 <;> cases b23 <;> cases c3 <;> cases b29 <;> cases c4 <;> simp, h.w4.keep hb, h.st.trans (Stq.below hb), fun _ => ⟨rfl, bx_new _ _ _ rfl, hn⟩, fun e => ⟨(h.l16 e).1, bx_keep (h.l16 e).2.1 hb, (h.l16 e).2.2⟩, fun e => ⟨(h.l23 e).1, bx_keep (h.l23 e).2.1 hb, (h.l23 e).2.2⟩, fun e => ⟨(h.l29 e).1, bx_keep (h.l29 e).2.1 hb, (h.l29 e).2.2⟩, h.n0, h.n1, h.u0, h.u1, h.p0, h.p1, h.k0, h.k1, h.rest⟩
theorem JF.lit16 (h : JF k b9 c1 false c2 b23 c3 b29 c4 un uk iv' x31 x32 x38 x39 x45 x46 x51 x52 g9 g16 g23 g29 w) : JF k b9 c1 true c2 b23 c3 b29 c4 un uk iv' x31 x32 (.slice (some ⟨w.heap.size, 0, none⟩) 1 1) x39 x45 x46 x51 x52 g9 w.heap.size g23 g29 (w.alloc (.cells #[.int .i64 k.up] 3)) := by
  have hb : Below w.heap.size w (w.alloc (.cells #[.int .i64 k.up] 3)) := (Below.refl _ _).alloc (Nat.le_refl _) _
  have hn : ¬ OwW un uk k.va (k.n + 2) iv' w.heap.size := fun e => by have := (h.w4.own e).2; omega
  exact ⟨by have h1 := h.ok; revert h1; unfold okW; cases b9 <;> cases c1 <;> cases c2 <;> cases b23 <;> cases c3 <;> cases b29 <;> cases c4 <;> simp, h.w4.keep hb, h.st.trans (Stq.below hb), fun e => ⟨(h.l9 e).1, bx_keep (h.l9 e).2.1 hb, (h.l9 e).2.2⟩, fun _ => ⟨rfl, bx_new _ _ _ rfl, hn⟩, fun e => ⟨(h.l23 e).1, bx_keep (h.l23 e).2.1 hb, (h.l23 e).2.2⟩, fun e => ⟨(h.l29 e).1, bx_keep (h.l29 e).2.1 hb, (h.l29 e).2.2⟩, h.n0, h.n1, h.u0, h.u1, h.p0, h.p1, h.k0, h.k1, h.rest⟩
theorem JF.lit23 (h : JF k b9 c1 b16 c2 false c3 b29 c4 un uk iv' x31 x32 x38 x39 x45 x46 x51 x52 g9 g16 g23 g29 w) : JF k b9 c1 b16 c2 true c3 b29 c4 un uk iv' x31 x32 x38 x39 (.slice (some ⟨w.heap.size, 0, none⟩) 1 1) x46 x51 x52 g9 g16 w.heap.size g29 (w.alloc (.cells #[.int .i64 k.pos] 3)) := by
  have hb : Below w.heap.size w (w.alloc (.cells #[.int .i64 k.pos] 3)) := (Below.refl _ _).alloc (Nat.le_refl _) _
  have hn : ¬ OwW un uk k.va (k.n + 2) iv' w.heap.size := fun e => by have := (h.w4.own e).2; omega
  exact ⟨by have h1 := h.ok; revert h1; unfold okW; cases b9 <;> cases c1 <;> cases b16 <;> cases c2 <;> cases c3 <;> cases b29 <;> cases c4 <;> simp, h.w4.keep hb, h.st.trans (Stq.below hb), fun e => ⟨(h.l9 e).1, bx_keep (h.l9 e).2.1 hb, (h.l9 e).2.2⟩, fun e => ⟨(h.l16 e).1, bx_keep (h.l16 e).2.1 hb, (h.l16 e).2.2⟩, fun _ => ⟨rfl, bx_new _ _ _ rfl, hn⟩, fun e => ⟨(h.l29 e).1, bx_keep (h.l29 e).2.1 hb, (h.l29 e).2.2⟩, h.n0, h.n1, h.u0, h.u1, h.p0, h.p1, h.k0, h.k1, h.rest⟩
theorem JF.lit29 (h : JF k b9 c1 b16 c2 b23 c3 false c4 un uk iv' x31 x32 x38 x39 x45 x46 x51 x52 g9 g16 g23 g29 w) : JF k b9 c1 b16 c2 b23 c3 true c4 un uk iv' x31 x32 x38 x39 x45 x46 (.slice (some ⟨w.heap.size, 0, none⟩) 1 1) x52 g9 g16 g23 w.heap.size (w.alloc (.cells #[.slice none 0 0] 40)) := by
  have hb : Below w.heap.size w (w.alloc (.cells #[.slice none 0 0] 40)) := (Below.refl _ _).alloc (Nat.le_refl _) _
  have hn : ¬ OwW un uk k.va (k.n + 2) iv' w.heap.size := fun e => by have := (h.w4.own e).2; omega
  exact ⟨by have h1 := h.ok; revert h1; unfold okW; cases b9 <;> cases c1 <;> cases b16 <;> cases c2 <;> cases b23 <;> cases c3 <;> cases c4 <;> simp, h.w4.keep hb, h.st.trans (Stq.below hb), fun e => ⟨(h.l9 e).1, bx_keep (h.l9 e).2.1 hb, (h.l9 e).2.2⟩, fun e => ⟨(h.l16 e).1, bx_keep (h.l16 e).2.1 hb, (h.l16 e).2.2⟩, fun e => ⟨(h.l23 e).1, bx_keep (h.l23 e).2.1 hb, (h.l23 e).2.2⟩, fun _ => ⟨rfl, bx_new _ _ _ rfl, hn⟩, h.n0, h.n1, h.u0, h.u1, h.p0, h.p1, h.k0, h.k1, h.rest⟩
theorem JF.app10 (h : JF k true false b16 c2 b23 c3 b29 c4 un uk iv' x31 x32 x38 x39 x45 x46 x51 x52 g9 g16 g23 g29 w) {v' : Value} (ho : w'.ownsRow k.B 31 3 v' (k.n + 1) (k.cn ++ k.news.toList)) (hg : w.grownBy w' un.ownBlock) (hat : v'.ownBlock = un.ownBlock ∨ ∃ q, v'.ownBlock = some q ∧ w.heap.size ≤ q) : JF k true true b16 c2 b23 c3 b29 c4 v' uk iv' x31 v' x38 x39 x45 x46 x51 x52 g9 g16 g23 g29 w' := by
  have h4 := h.w4
  simp only [Bool.false_eq_true, if_false] at h4
  obtain ⟨hw, hs⟩ := h4.appN ho hg hat
  exact ⟨by have h1 := h.ok; revert h1; unfold okW; cases b16 <;> cases c2 <;> cases b23 <;> cases c3 <;> cases b29 <;> cases c4 <;> simp, hw, h.st.trans hs, fun e => ⟨(h.l9 e).1, (hs.box (h.l9 e).2.1 (h.l9 e).2.2).1, (hs.box (h.l9 e).2.1 (h.l9 e).2.2).2⟩, fun e => ⟨(h.l16 e).1, (hs.box (h.l16 e).2.1 (h.l16 e).2.2).1, (hs.box (h.l16 e).2.1 (h.l16 e).2.2).2⟩, fun e => ⟨(h.l23 e).1, (hs.box (h.l23 e).2.1 (h.l23 e).2.2).1, (hs.box (h.l23 e).2.1 (h.l23 e).2.2).2⟩, fun e => ⟨(h.l29 e).1, (hs.box (h.l29 e).2.1 (h.l29 e).2.2).1, (hs.box (h.l29 e).2.1 (h.l29 e).2.2).2⟩, fun e => (by cases e), fun _ => rfl, h.u0, h.u1, h.p0, h.p1, h.k0, h.k1, h.rest⟩
theorem JF.app17 (h : JF k b9 true true false b23 c3 b29 c4 un uk iv' x31 x32 x38 x39 x45 x46 x51 x52 g9 g16 g23 g29 w) {v' : Value} (ho : w'.ownsRow k.B 3 1 v' ((k.L.map Nd.up).length + 1) (ints (k.L.map Nd.up) ++ [.int .i64 k.up])) (hg : w.grownBy w' (iv' 0).ownBlock) (hat : v'.ownBlock = (iv' 0).ownBlock ∨ ∃ q, v'.ownBlock = some q ∧ w.heap.size ≤ q) : JF k b9 true true true b23 c3 b29 c4 un uk (fun j => if j = 0 then v' else iv' j) x31 x32 x38 v' x45 x46 x51 x52 g9 g16 g23 g29 w' := by
  obtain ⟨hw, hs⟩ := h.w4.appI (p := 0) (by omega) (x := k.up) ho hg hat
  rw [ilF_up] at hw
  exact ⟨by have h1 := h.ok; revert h1; unfold okW; cases b9 <;> cases b23 <;> cases c3 <;> cases b29 <;> cases c4 <;> simp, hw, h.st.trans hs, fun e => ⟨(h.l9 e).1, (hs.box (h.l9 e).2.1 (h.l9 e).2.2).1, (hs.box (h.l9 e).2.1 (h.l9 e).2.2).2⟩, fun e => ⟨(h.l16 e).1, (hs.box (h.l16 e).2.1 (h.l16 e).2.2).1, (hs.box (h.l16 e).2.1 (h.l16 e).2.2).2⟩, fun e => ⟨(h.l23 e).1, (hs.box (h.l23 e).2.1 (h.l23 e).2.2).1, (hs.box (h.l23 e).2.1 (h.l23 e).2.2).2⟩, fun e => ⟨(h.l29 e).1, (hs.box (h.l29 e).2.1 (h.l29 e).2.2).1, (hs.box (h.l29 e).2.1 (h.l29 e).2.2).2⟩, h.n0, h.n1, fun e => (by cases e), fun _ => (by simp), fun e => (by simpa using h.p0 e), fun e => (by simpa using h.p1 e), h.k0, h.k1, fun j hj => (by rw [← h.rest j hj]; exact if_neg (by omega))⟩
theorem JF.app24 (h : JF k b9 c1 b16 true true false b29 c4 un uk iv' x31 x32 x38 x39 x45 x46 x51 x52 g9 g16 g23 g29 w) {v' : Value} (ho : w'.ownsRow k.B 3 1 v' ((k.L.map Nd.pos).length + 1) (ints (k.L.map Nd.pos) ++ [.int .i64 k.pos])) (hg : w.grownBy w' (iv' 1).ownBlock) (hat : v'.ownBlock = (iv' 1).ownBlock ∨ ∃ q, v'.ownBlock = some q ∧ w.heap.size ≤ q) : JF k b9 c1 b16 true true true b29 c4 un uk (fun j => if j = 1 then v' else iv' j) x31 x32 x38 x39 x45 v' x51 x52 g9 g16 g23 g29 w' := by
  obtain ⟨hw, hs⟩ := h.w4.appI (p := 1) (by omega) (x := k.pos) ho hg hat
  rw [ilF_pos] at hw
  exact ⟨by have h1 := h.ok; revert h1; unfold okW; cases b9 <;> cases c1 <;> cases b16 <;> cases b29 <;> cases c4 <;> simp, hw, h.st.trans hs, fun e => ⟨(h.l9 e).1, (hs.box (h.l9 e).2.1 (h.l9 e).2.2).1, (hs.box (h.l9 e).2.1 (h.l9 e).2.2).2⟩, fun e => ⟨(h.l16 e).1, (hs.box (h.l16 e).2.1 (h.l16 e).2.2).1, (hs.box (h.l16 e).2.1 (h.l16 e).2.2).2⟩, fun e => ⟨(h.l23 e).1, (hs.box (h.l23 e).2.1 (h.l23 e).2.2).1, (hs.box (h.l23 e).2.1 (h.l23 e).2.2).2⟩, fun e => ⟨(h.l29 e).1, (hs.box (h.l29 e).2.1 (h.l29 e).2.2).1, (hs.box (h.l29 e).2.1 (h.l29 e).2.2).2⟩, h.n0, h.n1, fun e => (by cases e), fun e => (by simpa using h.u1 e), fun e => (by cases e), fun _ => (by simp), h.k0, h.k1, fun j hj => (by rw [← h.rest j hj]; exact if_neg (by omega))⟩
theorem JF.app30 (h : JF k b9 c1 b16 c2 b23 true true false un uk iv' x31 x32 x38 x39 x45 x46 x51 x52 g9 g16 g23 g29 w) {v' : Value} (ho : w'.ownsRow k.B 40 1 v' (k.n + 1) (k.ck ++ [.slice none 0 0])) (hg : w.grownBy w' uk.ownBlock) (hat : v'.ownBlock = uk.ownBlock ∨ ∃ q, v'.ownBlock = some q ∧ w.heap.size ≤ q) : JF k b9 c1 b16 c2 b23 true true true un v' iv' x31 x32 x38 x39 x45 x46 x51 v' g9 g16 g23 g29 w' := by
  have h4 := h.w4
  simp only [Bool.false_eq_true, if_false] at h4
  obtain ⟨hw, hs⟩ := h4.appO ho hg hat
  exact ⟨by have h1 := h.ok; revert h1; unfold okW; cases b9 <;> cases c1 <;> cases b16 <;> cases c2 <;> cases b23 <;> simp, hw, h.st.trans hs, fun e => ⟨(h.l9 e).1, (hs.box (h.l9 e).2.1 (h.l9 e).2.2).1, (hs.box (h.l9 e).2.1 (h.l9 e).2.2).2⟩, fun e => ⟨(h.l16 e).1, (hs.box (h.l16 e).2.1 (h.l16 e).2.2).1, (hs.box (h.l16 e).2.1 (h.l16 e).2.2).2⟩, fun e => ⟨(h.l23 e).1, (hs.box (h.l23 e).2.1 (h.l23 e).2.2).1, (hs.box (h.l23 e).2.1 (h.l23 e).2.2).2⟩, fun e => ⟨(h.l29 e).1, (hs.box (h.l29 e).2.1 (h.l29 e).2.2).1, (hs.box (h.l29 e).2.1 (h.l29 e).2.2).2⟩, h.n0, h.n1, h.u0, h.u1, h.p0, h.p1, fun e => (by cases e), fun _ => rfl, h.rest⟩
theorem cell_set_ne {w : World} {b c i j : Nat} {v : Value} (h : b ≠ c) : (w.setCell ⟨c, j, none⟩ v).cell? ⟨b, i, none⟩ = w.cell? ⟨b, i, none⟩ := by
  simp only [World.cell?, Below.heap_setCell w ⟨c, j, none⟩ v b h]
theorem Stq.set {O O' : Nat → Prop} {w0 : World} {c j : Nat} {v : Value} (h : Stq O O' w0 w) (hc : O c) : Stq O O' w0 (w.setCell ⟨c, j, none⟩ v) := by
  refine ⟨(setCell_facts _ _ _).1.trans h.os, (setCell_facts _ _ _).2.1.trans h.tape, (setCell_facts _ _ _).2.2.trans h.output, by rw [show (w.setCell ⟨c, j, none⟩ v).heap.size = w.heap.size by simp]; exact h.size, fun q hq hn => ?_, h.own⟩
  rw [Below.heap_setCell w ⟨c, j, none⟩ v q (fun e => hn (by rw [e]; exact hc))]
  exact h.same q hq hn
theorem JF.fin (h : JF k true true true true true true true true un uk iv' x31 x32 x38 x39 x45 x46 x51 x52 g9 g16 g23 g29 w) {wb : Nat} {hd : Hw} {tr : Nat → Value × Value} {r : Int} {u v vn' vu' vp' vk' : Value} {O : Nat → Prop} (hcn : k.cn = trC k.L tr) (hn : k.n = k.L.length) (hck : k.ck = (List.range k.n).map fun j => k.iv (j + 2)) (hnil : ∀ j, k.n + 2 ≤ j → k.iv j = .slice none 0 0) (hnews : k.news = #[.int .i64 r, u, v])
    (hhd : w.heap[wb]? = some (.cells (hd.cells vn' vu' vp' vk' k.va) 64 (0, 0))) (hwb : wb < k.B) (hO : ∀ q, O q ↔ OwX wb k.vn k.vk k.va (k.n + 2) k.iv q) (hkO : k.O = OwW k.vn k.vk k.va (k.n + 2) k.iv) :
    WI k.B wb hd (k.L ++ [⟨r, k.up, k.pos, []⟩]) k.al (OwX wb un uk k.va (k.n + 3) iv') ((((w.setCell ⟨wb, 0 + 6, none⟩ un).setCell ⟨wb, 0 + 7, none⟩ (iv' 0)).setCell ⟨wb, 0 + 8, none⟩ (iv' 1)).setCell ⟨wb, 0 + 9, none⟩ uk) ∧
      Stq O (OwX wb un uk k.va (k.n + 3) iv') k.w0 ((((w.setCell ⟨wb, 0 + 6, none⟩ un).setCell ⟨wb, 0 + 7, none⟩ (iv' 0)).setCell ⟨wb, 0 + 8, none⟩ (iv' 1)).setCell ⟨wb, 0 + 9, none⟩ uk) := by
  have h4 := h.w4
  have hst := h.st
  have hiv : ∀ j, k.n + 2 ≤ j → iv' j = .slice none 0 0 := fun j hj => by rw [h.rest j (by omega)]; exact hnil j hj
  simp only [if_true] at h4
  have h5 := h4.more (hiv _ (Nat.le_refl _)) (by
    unfold ilF
    rw [if_neg (by omega), if_neg (by omega), hn, Nat.add_sub_cancel]
    unfold ndAt
    rw [List.getElem?_eq_none (Nat.le_refl _)]
    rfl)
  rw [hcn, hnews, ilF_end k.L r, hck] at h5
  have e1 : trC k.L tr ++ (#[Value.int .i64 r, u, v] : Array Value).toList = trC (k.L ++ [⟨r, k.up, k.pos, []⟩]) (fun j => if j = k.L.length then (u, v) else tr j) := by rw [trC_app]
  have e2 : ((List.range k.n).map fun j => k.iv (j + 2)) ++ [.slice none 0 0] = (List.range (k.n + 1)).map fun j => iv' (j + 2) := by
    rw [List.range_succ, List.map_append]
    congr 1
    · refine List.map_congr_left fun j _ => ?_
      rw [h.rest (j + 2) (by omega)]
    · simp [hiv (k.n + 2) (Nat.le_refl _)]
  rw [e1, e2] at h5
  have e3 : (k.L ++ [(⟨r, k.up, k.pos, []⟩ : Nd)]).length = k.n + 1 := by rw [List.length_append, hn]; rfl
  refine ⟨⟨un, uk, k.va, iv', fun j => if j = k.L.length then (u, v) else tr j, ⟨?_, ?_, fun j hj => ?_, hwb⟩, fun q => ?_⟩, ?_⟩
  · rw [e3]
    exact (((h5.set hwb _).set hwb _).set hwb _).set hwb _
  · exact bx_set (bx_set (bx_set (bx_set hhd 6 un) 7 (iv' 0)) 8 (iv' 1)) 9 uk
  · rw [e3] at hj
    exact hiv j (by omega)
  · rw [e3]
  · have h6 : Stq O (OwX wb un uk k.va (k.n + 3) iv') k.w0 w := by
      have h7 := hst.withB wb
      refine ⟨h7.os, h7.tape, h7.output, h7.size, fun q hq hnq => h7.same q hq (fun e => hnq ((hO q).2 (by unfold OwX; rw [hkO] at e; exact e))), fun q hq => ?_⟩
      have h8 : q = wb ∨ OwW un uk k.va (k.n + 2) iv' q := by
        rcases hq with hq | hq | hq | hq | ⟨i, hi, hq⟩
        · exact .inl hq
        · exact .inr (.inl hq)
        · exact .inr (.inr (.inl hq))
        · exact .inr (.inr (.inr (.inl hq)))
        · by_cases ei : i < k.n + 2
          · exact .inr (.inr (.inr (.inr ⟨i, ei, hq⟩)))
          · rw [hiv i (by omega)] at hq; cases hq
      rcases h7.own q h8 with h9 | h9
      · exact .inl ((hO q).2 (by unfold OwX; rw [hkO] at h9; exact h9))
      · exact .inr h9
    have hw : O wb := (hO wb).2 (.inl rfl)
    exact (((h6.set hw).set hw).set hw).set hw
end
end Dm
end Go.Proofs.YtfocooehnmpndaaGreat
namespace Go.Proofs.YtfocooehnmpndaaGreat
open Go.RowKit
namespace Dm
open At (Ref)
section
variable {B wb : Nat} {hd : Hw} {L : List Nd} {al : List Inst} {O : Nat → Prop} {vn vk va : Value} {iv : Nat → Value} {tr : Nat → Value × Value} {w w' : World}
def WaX (B wb : Nat) (hd : Hw) (L : List Nd) (al : List Inst) (O : Nat → Prop) (w0 w : World) : Prop := ∃ O', WI B wb hd L al O' w ∧ Stq O O' w0 w
theorem stq_x {O O' : Nat → Prop} (h : Stq O O' w w') : Stq (fun k => k = wb ∨ O k) (fun k => k = wb ∨ O' k) w w' := h.withB wb
theorem WR.hdr' (h : WR B wb hd L al vn vk va iv tr w) {v0 : Value} (hg : w.grownBy w' v0.ownBlock) (hv : ∀ k, v0.ownBlock = some k → B ≤ k) : w'.heap[wb]? = some (.cells (hd.cells vn (iv 0) (iv 1) vk va) 64 (0, 0)) := by
  have hl := h.lt
  exact (hg.block wb (Array.getElem?_eq_some_iff.1 h.hdr).1 (fun e => by have := hv _ e.symm; omega)).trans h.hdr
theorem WR.appA (h : WR B wb hd L al vn vk va iv tr w) {v' : Value} {i : Inst} (ho : w'.ownsRow B 59 2 v' (al.length + 1) (plC al ++ [.int .i64 i.1, .int .i64 i.2])) (hg : w.grownBy w' va.ownBlock) (hat : v'.ownBlock = va.ownBlock ∨ ∃ k, v'.ownBlock = some k ∧ w.heap.size ≤ k) :
    w'.cell? ⟨wb, 0 + 10, none⟩ = some va ∧ w'.frozen? ⟨wb, 0 + 10, none⟩ = false ∧ WI B wb hd L (al ++ [i]) (OwX wb vn vk v' (L.length + 2) iv) (w'.setCell ⟨wb, 0 + 10, none⟩ v') ∧ Stq (OwX wb vn vk va (L.length + 2) iv) (OwX wb vn vk v' (L.length + 2) iv) w (w'.setCell ⟨wb, 0 + 10, none⟩ v') := by
  have hh := h.hdr' hg (fun k e => (h.w4.all.lt k e).1)
  obtain ⟨h1, h2⟩ := h.w4.appA ho hg hat
  refine ⟨by simp [World.cell?, hh, Hw.cells], by simp [World.frozen?, hh], ⟨vn, vk, v', iv, tr, ⟨h1.set h.lt _, bx_set hh 10 v', h.nil, h.lt⟩, fun _ => Iff.rfl⟩, ?_⟩
  exact Stq.set (stq_x h2) (.inl rfl)
theorem WR.kids (h : WR B wb hd L al vn vk va iv tr w) {p : Nat} (hp : p < L.length) : ∃ kb kc, vk = .slice (some ⟨kb, 0, none⟩) L.length kc ∧ L.length ≤ kc ∧ kc ≤ maxLen ∧ B ≤ kb ∧ kb < w.heap.size ∧ w.cell? ⟨kb, p, none⟩ = some (iv (p + 2)) ∧ w.frozen? ⟨kb, p, none⟩ = false := by
  obtain ⟨a, cap, rfl, e1, e2⟩ := own_len h.w4.out
  cases a with
  | none =>
    rcases h.w4.out.2 with ⟨h2, h3⟩ | ⟨g, cap', cur, h2, _⟩
    · omega
    · cases h2
  | some ad =>
    rcases h.w4.out.2 with ⟨h2, h3⟩ | ⟨g, cap', cur, h2, hg, hh, _⟩
    · cases h2
    · cases h2
      have hj : p < ((List.range L.length).map fun k => iv (k + 2)).length := by simpa using hp
      have hc := own_cellN h.w4.out hj
      refine ⟨g, _, rfl, e1, e2, hg, (Array.getElem?_eq_some_iff.1 hh).1, ?_, hc.2⟩
      rw [hc.1]
      simp
theorem WR.addk (h : WR B wb hd L al vn vk va iv tr w) {p x : Nat} (hp : p < L.length) {v' : Value} (ho : w'.ownsRow B 3 1 v' ((ndAt L p).kids.length + 1) (ints (ndAt L p).kids ++ [.int .i64 x])) (hg : w.grownBy w' (iv (p + 2)).ownBlock) (hat : v'.ownBlock = (iv (p + 2)).ownBlock ∨ ∃ k, v'.ownBlock = some k ∧ w.heap.size ≤ k) {kb kc : Nat} (hvk : vk = .slice (some ⟨kb, 0, none⟩) L.length kc) :
    w'.cell? ⟨kb, p, none⟩ = some (iv (p + 2)) ∧ w'.frozen? ⟨kb, p, none⟩ = false ∧ w'.cell? ⟨wb, 0 + 9, none⟩ = some vk ∧ WaX B wb hd (addK L (p : Int) x) al (OwX wb vn vk va (L.length + 2) iv) w (w'.setCell ⟨kb, p, none⟩ v') := by
  have hil : ilW L (p + 2) = (ndAt L p).kids := by unfold ilW; rw [if_neg (by omega), if_neg (by omega), Nat.add_sub_cancel]
  have hh := h.hdr' hg (fun k e => ((h.w4.int (p + 2) (by omega)).lt k e).1)
  obtain ⟨h1, h2⟩ := h.w4.appI (p := p + 2) (by omega) (x := (x : Int)) (by rw [hil]; exact ho) hg hat
  rw [ilW_addK hp] at h1
  have hj : p < ((List.range L.length).map fun k => iv (k + 2)).length := by simpa using hp
  subst hvk
  have hc := own_cellN h1.out hj
  obtain ⟨h3, h4⟩ := h1.setO (p := p) rfl v'
  have hkb : kb ≠ wb := by
    have h5 := (h1.out.lt kb rfl).1
    have h6 := h.lt
    omega
  refine ⟨by rw [hc.1]; simp, hc.2, by simp [World.cell?, hh, Hw.cells], _, ⟨vn, .slice (some ⟨kb, 0, none⟩) L.length kc, va, fun k => if k = p + 2 then v' else iv k, tr, ⟨?_, ?_, fun k hk => ?_, h.lt⟩, fun _ => Iff.rfl⟩, ?_⟩
  · rw [addK_len, trC_addK _ _ hp]
    have e : ((List.range L.length).map fun k => iv (k + 2)).set p v' = (List.range L.length).map fun k => if k + 2 = p + 2 then v' else iv (k + 2) := by
      refine List.ext_getElem? fun k => ?_
      rw [List.getElem?_set]
      by_cases e : p = k
      · subst e
        simp [hp]
      · simp only [e, if_false]
        rw [List.getElem?_map, List.getElem?_map]
        by_cases hk : k < L.length
        · simp [hk, show ¬ k = p from fun e2 => e e2.symm]
        · simp [hk]
    rw [e] at h3
    exact h3
  · rw [Below.heap_setCell w' ⟨kb, p, none⟩ v' wb (Ne.symm hkb)]
    simp only [show ¬ (0 = p + 2) by omega, show ¬ (1 = p + 2) by omega, if_false]
    exact hh
  · rw [addK_len] at hk
    simp only [show ¬ k = p + 2 by omega, if_false]
    exact h.nil k hk
  · rw [addK_len]
    exact stq_x (h2.trans h4)
end
end Dm
end Go.Proofs.YtfocooehnmpndaaGreat
