/- The contract of TreeFault. -/
import Derived.Test.YtjehmleckcmilaaEqSyms
import Derived.Test.YtjehmleckcmilaaNodes
namespace Go.Proofs.Ytjehmleckcmilaa
open Go.RowKit
namespace TF

theorem symCells' {S S' : Nat → Prop} {w w' : World} {sy : List Sym} {xs : List Value} (h : RdAll S w (sy.map Sym.d) xs) : RdAll S' w' (sy.map Sym.d) xs := by
  induction sy generalizing xs with
  | nil => exact h
  | cons s sy ih =>
    obtain ⟨c1, c2, rfl, h1, h2⟩ := h
    obtain rfl := h1.sym
    exact ⟨_, _, rfl, rd_sym s, ih h2⟩
structure SymRel (w : World) (sy : List Sym) (v : Value) (W : World) : Prop where
  own : ∃ xs, W.ownsRow w.heap.size 88 2 v sy.length xs ∧ RdAll AnyB W (sy.map Sym.d) xs
  bel : Below w.heap.size w W
theorem SymRel.step {w : World} {sy : List Sym} {s : Sym} {v v' : Value} {W w1 W' : World} {xs : List Value} (h : SymRel w sy v W) (hb : Below W.heap.size W w1) (ho : W.ownsRow w.heap.size 88 2 v sy.length xs) (hd : RdAll AnyB W (sy.map Sym.d) xs)
    (ho' : W'.ownsRow w.heap.size 88 2 v' (sy.length + 1) (xs ++ [.bool s.term, .int .i64 s.n])) (hg : w1.grownBy W' v.ownBlock) : SymRel w (sy ++ [s]) v' W' := by
  refine ⟨⟨_, by rw [List.length_append]; exact ho', ?_⟩, (h.bel.trans (hb.mono h.bel.size)).grown hg (Nat.le_trans h.bel.size hb.size) (fun k e => (ho.lt k e).1)⟩
  rw [List.map_append]
  exact RdAll.append (symCells' hd) (RdAll.one (rd_sym s))
theorem SymRel.rd {w : World} {sy : List Sym} {v : Value} {W : World} (h : SymRel w sy v W) : Rd AnyB W (.sl (sy.map Sym.d)) [v] := by
  obtain ⟨xs, h1, h2⟩ := h.own
  exact rd_of_own h1 h2 (by simp) (fun _ _ => trivial)

mutual
theorem nodes_le : ∀ (t x : Tree), x ∈ nodes t → (nodes x).length ≤ (nodes t).length
  | .node r tm ks, x, hx => by
    rw [nodes] at hx
    rcases List.mem_cons.1 hx with rfl | hx
    · exact Nat.le_refl _
    · rw [nodes]
      by_cases h : r = -1
      · rw [if_pos h] at hx; simp at hx
      · rw [if_neg h] at hx ⊢
        have := nodes_leL ks x hx
        simp; omega
theorem nodes_leL : ∀ (ks : List Tree) (x : Tree), x ∈ nodesL ks → (nodes x).length ≤ (nodesL ks).length
  | [], x, hx => by simp [nodesL] at hx
  | y :: ks, x, hx => by
    rw [nodesL] at hx ⊢
    rw [List.length_append]
    rcases List.mem_append.1 hx with h | h
    · have := nodes_le y x h; omega
    · have := nodes_leL ks x h; omega
end
theorem kids_le {t x : Tree} (h : x ∈ nodes t) (hr : x.rule ≠ -1) : x.kids.length ≤ (nodes t).length := by
  have h1 := nodes_le t x h
  rw [nodes_eq x] at h1
  have h2 := len_nodesL x.kids
  simp [kidsOf, hr] at h1
  omega

theorem refNode_leaf {g : Gram} {x : Tree} (hl : (label g x).isSome = true) (hr : x.rule = -1) : refNode g x = true := by simp [refNode, hl, hr]
theorem refNode_none {g : Gram} {x : Tree} (hl : (label g x).isSome = false) : refNode g x = false := by simp [refNode, hl]
theorem refNode_kid {g : Gram} {x k : Tree} (hr : x.rule ≠ -1) (hk : k ∈ x.kids) (hl : (label g k).isSome = false) : refNode g x = false := by
  have h : (x.kids.all fun k => (label g k).isSome) = false := List.all_eq_false.2 ⟨k, hk, by simp [hl]⟩
  simp [refNode, hr, h]
theorem map_labS {g : Gram} {ks : List Tree} (h : ∀ k ∈ ks, (label g k).isSome = true) : ks.map (label g) = (ks.map (labS g)).map some := by
  rw [List.map_map]
  refine List.map_congr_left fun k hk => ?_
  obtain ⟨s, hs⟩ := Option.isSome_iff_exists.1 (h k hk)
  simp [labS, hs]
theorem refNode_inner {g : Gram} {x : Tree} {j : Nat} (hl : (label g x).isSome = true) (hr : x.rule = j) (hj : j < g.rules.length) (hk : ∀ k ∈ x.kids, (label g k).isSome = true) : refNode g x = decide (x.kids.map (labS g) = (g.rules[j]'hj).right) := by
  have h1 : (x.kids.all fun k => (label g k).isSome) = true := List.all_eq_true.2 hk
  have h2 : ¬ x.rule = -1 := by omega
  have h3 : g.rules[x.rule.toNat]? = some g.rules[j] := by rw [hr]; simp [hj]
  unfold refNode
  rw [hl, h1, h3, map_labS hk]
  simp only [h2, decide_false, Bool.true_and, Bool.false_or]
  rw [decide_eq_decide]
  exact ⟨fun h => (List.map_inj_right (fun a b h => Option.some.inj h)).1 h, fun h => by rw [h]⟩
theorem label_rule {g : Gram} {x : Tree} (hl : (label g x).isSome = true) (hr : x.rule ≠ -1) : ∃ j : Nat, x.rule = j ∧ j < g.rules.length := by
  obtain ⟨s, hs⟩ := Option.isSome_iff_exists.1 hl
  obtain ⟨-, h1, h2⟩ := label_root hs
  exact ⟨x.rule.toNat, by omega, by omega⟩

def refFault (g : Gram) (t : Tree) : Int := if 5000 < (nodes t).length then 2 else if (nodes t).all (refNode g) then 0 else 3

set_option maxHeartbeats 4000000 in
set_option maxRecDepth 100000 in
theorem treeFaultE (g : Gram) (ar : Option Addr) (cr : Nat) (t : Tree) (at' : Option Addr) (ct : Nat) (w : World) (hr : Rd AnyB w (.sl (g.rules.map Rule.d)) [.slice ar g.rules.length cr]) (hk : Rd AnyB w (.sl (t.kids.map Tree.d)) [.slice at' t.kids.length ct]) (hN : (nodes t).length ≤ 1099511627776) :
    Calls Try.prog 49 #[.agg #[.int .i64 g.terms, .int .i64 g.nons, .int .i64 g.start, .slice ar g.rules.length cr], .agg #[.int .i64 t.rule, .int .i64 t.term, .slice at' t.kids.length ct]] w fun e w' => e = .returned (.int .i64 (refFault g t)) ∧ Below w.heap.size w w' := by
  have hbs := hr.bounds.2
  unfold maxLen at hbs
  obtain ⟨hc1, hc2⟩ := hbs
  obtain ⟨w0, HW0⟩ := nameIt ((w.alloc (.cells #[.int .i64 g.terms, .int .i64 g.nons, .int .i64 g.start, .slice ar g.rules.length cr] 77)).alloc (.cells #[.int .i64 t.rule, .int .i64 t.term, .slice at' t.kids.length ct] 43))
  have hb0 : Below w.heap.size w w0 := by rw [← HW0.out]; exact ((Below.refl _ _).alloc (Nat.le_refl _) _).alloc (by simp) _
  have X1 : Hid (w0.heap[w.heap.size]? = some (.cells #[.int .i64 g.terms, .int .i64 g.nons, .int .i64 g.start, .slice ar g.rules.length cr] 77 (0, 0))) := by
    rw [← HW0.out]; exact bx_keep (bx_new _ _ _ rfl) ((Below.refl _ _).alloc (Nat.le_refl _) _)
  have X2 : Hid (w0.heap[w.heap.size + 1]? = some (.cells #[.int .i64 t.rule, .int .i64 t.term, .slice at' t.kids.length ct] 43 (0, 0))) := by
    rw [← HW0.out]; exact bx_new _ _ _ (by simp)
  have C1 := Lib.hid (nodesE t _ w0 (hk.below hb0) hN)
  have HR := Lib.hid (hr.below hb0)
  have CL := Lib.hid (fun (x : Tree) (ax : Option Addr) (cx : Nat) W (hb : Below w0.heap.size w0 W) => labelE g ar cr x ax cx W (HR.out.below hb))
  have HB0 := Lib.hid hb0
  obtain ⟨B, HBn⟩ := nameIt (refFault g t)
  obtain ⟨gt, HGT⟩ := nameIt g.terms
  obtain ⟨gn, HGN⟩ := nameIt g.nons
  obtain ⟨gs, HGS⟩ := nameIt g.start
  obtain ⟨R, HKn⟩ := nameIt g.rules
  obtain ⟨r, HRr⟩ := nameIt t.rule
  obtain ⟨tm, HRt⟩ := nameIt t.term
  obtain ⟨m, HMn⟩ := nameIt t.kids.length
  rw [HGT.out, HGN.out, HGS.out, HKn.out, HRr.out, HRt.out, HMn.out] at HW0
  rw [HGT.out, HGN.out, HGS.out, HKn.out] at X1
  rw [HRr.out, HRt.out, HMn.out] at X2
  rw [HRr.out, HRt.out, HMn.out] at C1
  rw [HKn.out] at hc1 HR
  rw [HGT.out, HGN.out, HGS.out, HKn.out] at CL
  rw [HGT.out, HGN.out, HGS.out, HKn.out, HRr.out, HRt.out, HMn.out, HBn.out]
  obtain ⟨x0, x1, x2, x3, y0, y1, y2⟩ := cells7 (Below.refl w0.heap.size w0) X1.out X2.out
  clear hr hk hb0
  go_enter Try.func49, Try.ntmps49
  go_upto_region 1 with fail
  rw [HW0.out]
  go_wp2_with fail
  refine C1.out.mono ?_
  rintro e w1 ⟨v, rfl, hrd, hb1⟩
  obtain ⟨al, cl, rfl, -, -⟩ := hrd.form
  rw [List.length_map] at hrd ⊢
  have hcl := hrd.bounds.2
  unfold maxLen at hcl
  obtain ⟨hcl1, hcl2⟩ := hcl
  have HBV : Hid (B = if 5000 < (nodes t).length then 2 else if (nodes t).all (refNode g) then 0 else 3) := HBn.out.symm
  obtain ⟨L, HL⟩ := nameIt (nodes t)
  rw [HL.out] at hrd hcl1 HBV hN
  rw [HL.out]
  have HRD := Lib.hid hrd
  have HB1 := Lib.hid hb1
  have HBB := Lib.hid (HB0.out.trans (hb1.mono HB0.out.size))
  clear hrd hb1 x0 x1 x2 x3 y0 y1 y2 C1
  by_cases hbig : 5000 < L.length
  · have hbig' : (5000 : Int) < (L.length : Int) := by omega
    obtain rfl : B = 2 := by rw [HBV.out, if_pos hbig]
    go_wp2_with fail
    go_ret
    exact ⟨rfl, HBB.out⟩
  · have hbig' : ¬ (5000 : Int) < (L.length : Int) := by omega
    have HBA : Hid (B = if L.all (refNode g) then 0 else 3) := by show _ = _; rw [HBV.out, if_neg hbig]
    have HBAD : Hid (∀ i (h : i < L.length), refNode g L[i] = false → B = 3) := by
      intro i h hb
      rw [HBA.out, if_neg]
      intro ha
      have := List.all_eq_true.1 ha _ (List.getElem_mem h)
      rw [hb] at this
      exact absurd this (by decide)
    clear hbig
    go_wp2_with fail
    go_loopg [22] L.length (fun gg v22 wr => ∃ i : Nat, i ≤ L.length ∧ L.length - i ≤ gg ∧ v22 = .int .i64 i ∧ Hid (Below w1.heap.size w1 wr) ∧ Hid (∀ j (h : j < L.length), j < i → refNode g L[j] = true))
    case atStart => exact ⟨0, by omega, by omega, rfl, Below.refl _ _, fun j _ hj => by omega⟩
    case round =>
      obtain ⟨i, hi, hg, rfl, HB, HN⟩ := hrel
      obtain ⟨wo, rfl⟩ : ∃ wo : World, wo = wr := ⟨_, rfl⟩
      by_cases hlt : i < L.length
      · have hlt' : (i : Int) < (L.length : Int) := by omega
        obtain ⟨b, off, v, hae, -, hbl, c0, c1, c2, hkid⟩ := (HRD.out.below HB.out).kid hlt
        obtain ⟨ak, ck, rfl, -, -⟩ := hkid.form
        rw [List.length_map] at c2 hkid
        have hcx := hkid.bounds.2
        unfold maxLen at hcx
        obtain ⟨hcx1, hcx2⟩ := hcx
        have HBAD1 := Lib.hid (HBAD.out i hlt)
        have HIN := Lib.hid (HN.out)
        obtain ⟨x, HX⟩ := nameIt (L[i]'hlt)
        rw [HX.out] at c0 c1 c2 hkid HBAD1 hcx1
        obtain ⟨w4, HW4⟩ := nameIt (wo.alloc (.cells #[.int .i64 x.rule, .int .i64 x.term, .slice ak x.kids.length ck] 43))
        have hb4 : Below wo.heap.size wo w4 := by rw [← HW4.out]; exact (Below.refl _ _).alloc (Nat.le_refl _) _
        have HB4 := Lib.hid (HB1.out.trans ((HB.out.trans (hb4.mono HB.out.size)).mono HB1.out.size))
        have X4 : Hid (w4.heap[wo.heap.size]? = some (.cells #[.int .i64 x.rule, .int .i64 x.term, .slice ak x.kids.length ck] 43 (0, 0))) := by rw [← HW4.out]; exact bx_new _ _ _ rfl
        have X1' := Lib.hid (bx_keep X1.out HB4.out)
        have HKD := Lib.hid (hkid.below hb4)
        have CX := Lib.hid (CL.out x ak ck w4 HB4.out)
        obtain ⟨S, HS⟩ := nameIt (labS g x)
        obtain ⟨q, HQ⟩ := nameIt (label g x).isSome
        obtain ⟨xr, HXr⟩ := nameIt x.rule
        obtain ⟨xt, HXt⟩ := nameIt x.term
        obtain ⟨K, HK⟩ := nameIt x.kids
        rw [HXr.out, HXt.out, HK.out] at X4 HW4
        rw [HXr.out, HXt.out, HK.out, HS.out, HQ.out] at CX
        rw [HXr.out] at c0
        rw [HXt.out] at c1
        rw [HK.out] at c2 HKD hcx1
        obtain ⟨x0, x1, x2, x3, y0, y1, y2⟩ := cells7 (Below.refl _ w4) X1'.out X4.out
        have hl4 : wo.heap.size < w4.heap.size := (Array.getElem?_eq_some_iff.1 X4.out).1
        have hl1 : w.heap.size < w4.heap.size := (Array.getElem?_eq_some_iff.1 X1'.out).1
        obtain ⟨S0, HS0⟩ := nameIt S.term
        obtain ⟨S1, HS1⟩ := nameIt S.n
        rw [HS0.out, HS1.out] at CX
        have HBW := Lib.hid (HBB.out.trans ((HB.out.trans (hb4.mono HB.out.size)).mono HBB.out.size))
        have HB14 := Lib.hid (HB.out.trans (hb4.mono HB.out.size))
        subst hae
        clear hkid hb4
        go_upto_region 7 with fail
        rw [HW4.out]
        go_wp2_with fail
        refine CX.out.mono ?_
        rintro e w5 ⟨rfl, hb5⟩
        obtain ⟨w6, HW6⟩ := nameIt (w5.alloc (.cells #[.bool S0, .int .i64 S1] 88))
        have hb6 : Below w4.heap.size w4 w6 := by rw [← HW6.out]; exact hb5.trans ((Below.refl _ _).alloc hb5.size _)
        have HB6 := Lib.hid hb6
        have HB16 := Lib.hid (HB14.out.trans (hb6.mono HB14.out.size))
        have HBW6 := Lib.hid (HBW.out.trans (hb6.mono HBW.out.size))
        have X16 := Lib.hid (bx_keep X1'.out hb6)
        have X46 := Lib.hid (bx_keep X4.out hb6)
        clear x0 x1 x2 x3 y0 y1 y2 c0 c1 c2 hl4 hl1 hb5
        obtain ⟨x0, x1, x2, x3, y0, y1, y2⟩ := cells7 (Below.refl _ w6) X16.out X46.out
        clear hb6
        cases q with
        | false =>
          obtain rfl : B = 3 := HBAD1.out (refNode_none HQ.out)
          go_upto_region 8 with fail
          rw [HW6.out]
          go_wp2_with fail
          go_ret
          exact ⟨rfl, HBW6.out⟩
        | true =>
          by_cases hxr : xr = -1
          · have HOK : Hid (refNode g x = true) := refNode_leaf HQ.out (by rw [HXr.out, hxr])
            have HN2 : Hid (∀ j (h : j < L.length), j < i + 1 → refNode g L[j] = true) := by
              intro j h hj
              by_cases e : j = i
              · subst e; rw [HX.out]; exact HOK.out
              · exact HIN.out j h (by omega)
            subst hxr
            go_upto_region 8 with fail
            rw [HW6.out]
            go_wp2_with fail
            go_roundg (L.length - (i + 1))
            case measure => omega
            case rel => exact ⟨i + 1, by omega, by omega, by go_num, HB16, HN2⟩
          · have hxb : (xr == -1) = false := by simpa using hxr
            have HXNE : Hid (x.rule ≠ -1) := by show _ ≠ _; rw [HXr.out]; exact hxr
            obtain ⟨j0, hj0, hj1⟩ := label_rule HQ.out HXNE.out
            rw [HXr.out] at hj0
            subst hj0
            have HKE : Hid (x.kids = K) := HK
            have hKL : K.length ≤ L.length := by
              have := kids_le (t := t) (x := x) (by rw [HL.out, ← HX.out]; exact List.getElem_mem hlt) HXNE.out
              rwa [HL.out, HKE.out] at this
            rw [HKn.out] at hj1
            have HJ1 := Lib.hid hj1
            clear hxr hj1
            go_upto_region 8 with fail
            rw [HW6.out]
            go_wp2_with fail
            go_loopg [10, 40] K.length (fun gg v10 v40 wr => ∃ j : Nat, j ≤ K.length ∧ K.length - j ≤ gg ∧ v40 = .int .i64 j ∧ Hid (SymRel w6 ((K.take j).map (labS g)) v10 wr) ∧ Hid (∀ k ∈ K.take j, (label g k).isSome = true))
            case atStart => exact ⟨0, by omega, by omega, rfl, ⟨⟨[], by simpa using World.ownsRow_nil _ _ _ _, by simp [RdAll]⟩, Below.refl _ _⟩, fun k hk => absurd hk (by simp)⟩
            case round =>
              obtain ⟨j, hj, hg2, rfl, HRL, HAL⟩ := hrel
              obtain ⟨wq, rfl⟩ : ∃ wq : World, wq = wr := ⟨_, rfl⟩
              obtain ⟨xs, ho, hd⟩ := HRL.out.own
              have hl0 : ((K.take j).map (labS g)).length = j := by simp; omega
              obtain ⟨a10, c10, hv10, h101, h102⟩ := own_len ho
              rw [hl0] at hv10 h101
              subst hv10
              unfold maxLen at h102
              have hbq := HRL.out.bel
              clear x0 x1 x2 x3 y0 y1 y2
              by_cases hjl : j < K.length
              · have hjl' : (j : Int) < (K.length : Int) := by omega
                have HO := Lib.hid ho
                have HD := Lib.hid hd
                have HL0 := Lib.hid hl0
                obtain ⟨b, off, v, hae, -, hbl, c0, c1, c2, hkid⟩ := ((HKD.out.below HB6.out).below hbq).kid hjl
                obtain ⟨ay, cy, rfl, -, -⟩ := hkid.form
                rw [List.length_map] at c2
                obtain ⟨y, HY⟩ := nameIt (K[j]'hjl)
                rw [HY.out] at c0 c1 c2
                obtain ⟨w7, HW7⟩ := nameIt (wq.alloc (.cells #[.int .i64 y.rule, .int .i64 y.term, .slice ay y.kids.length cy] 43))
                have hb7 : Below wq.heap.size wq w7 := by rw [← HW7.out]; exact (Below.refl _ _).alloc (Nat.le_refl _) _
                have HB7 := Lib.hid (HRL.out.bel.trans (hb7.mono hbq.size))
                have X7 : Hid (w7.heap[wq.heap.size]? = some (.cells #[.int .i64 y.rule, .int .i64 y.term, .slice ay y.kids.length cy] 43 (0, 0))) := by rw [← HW7.out]; exact bx_new _ _ _ rfl
                have X17 := Lib.hid (bx_keep X16.out HB7.out)
                have CY := Lib.hid (CL.out y ay cy w7 (HB4.out.trans ((HB6.out.trans (HB7.out.mono HB6.out.size)).mono HB4.out.size)))
                obtain ⟨T, HT⟩ := nameIt (labS g y)
                obtain ⟨p, HP⟩ := nameIt (label g y).isSome
                obtain ⟨yr, HYr⟩ := nameIt y.rule
                obtain ⟨yt, HYt⟩ := nameIt y.term
                obtain ⟨yk, HYk⟩ := nameIt y.kids.length
                rw [HYr.out, HYt.out, HYk.out] at X7 HW7
                rw [HYr.out, HYt.out, HYk.out, HT.out, HP.out] at CY
                rw [HYr.out] at c0
                rw [HYt.out] at c1
                rw [HYk.out] at c2
                obtain ⟨T0, HT0⟩ := nameIt T.term
                obtain ⟨T1, HT1⟩ := nameIt T.n
                rw [HT0.out, HT1.out] at CY
                obtain ⟨x0, x1, x2, x3, y0, y1, y2⟩ := cells7 (Below.refl _ w7) X17.out X7.out
                have HB7q := Lib.hid hb7
                have hsq := hbq.size
                subst hae
                clear hkid hb7 ho hd hl0
                go_upto_region 15 with fail
                rw [HW7.out]
                go_wp2_with fail
                refine CY.out.mono ?_
                rintro e w8 ⟨rfl, hb8⟩
                obtain ⟨w9, HW9⟩ := nameIt (w8.alloc (.cells #[.bool T0, .int .i64 T1] 88))
                have hb9 : Below w7.heap.size w7 w9 := by rw [← HW9.out]; exact hb8.trans ((Below.refl _ _).alloc hb8.size _)
                have hbq9 : Below wq.heap.size wq w9 := HB7q.out.trans (hb9.mono HB7q.out.size)
                have HB9 := Lib.hid hbq9
                have X9 : Hid (w9.heap[w8.heap.size]? = some (.cells #[.bool T0, .int .i64 T1] 88 (0, 0))) := by rw [← HW9.out]; exact bx_new _ _ _ rfl
                have hs9 := hbq9.size
                clear x0 x1 x2 x3 y0 y1 y2 c0 c1 c2 hb8 hb9 hbq9
                cases p with
                | false =>
                  obtain rfl : B = 3 := HBAD1.out (refNode_kid HXNE.out (by rw [HKE.out, ← HY.out]; exact List.getElem_mem hjl) HP.out)
                  go_upto_region 16 with fail
                  rw [HW9.out]
                  go_wp2_with fail
                  go_ret
                  exact ⟨rfl, HBW6.out.trans ((HRL.out.bel.trans (HB9.out.mono HRL.out.bel.size)).mono HBW6.out.size)⟩
                | true =>
                  have HO1 : Hid (w9.ownsRow w6.heap.size 88 2 (.slice a10 j c10) j xs) := by have h := own_keep HO.out HB9.out; rw [HL0.out] at h; exact h
                  obtain ⟨z0, z1⟩ := bx_cells2 X9.out
                  have HAL2 : Hid (∀ k ∈ K.take (j + 1), (label g k).isSome = true) := by
                    intro k hk
                    rw [List.take_succ_eq_append_getElem hjl] at hk
                    rcases List.mem_append.1 hk with h | h
                    · exact HAL.out k h
                    · simp at h; subst h; rw [HY.out]; exact HP.out
                  go_upto_region 16 with fail
                  rw [HW9.out]
                  go_wp2_with (at_builtin; refine wp_app1at elSym rfl _ _ rfl HO1.out rfl rfl rfl rfl rfl (by omega) (by unfold maxLen; omega) (by omega) ?_)
                  intro v' w10 ho2 hg10 hat2
                  have HR2 : Hid (SymRel w6 ((K.take (j + 1)).map (labS g)) v' w10) := by
                    rw [List.take_succ_eq_append_getElem hjl, List.map_append]
                    have h1 := HRL.out.step (s := T) HB9.out HO.out HD.out (by rw [HL0.out, HT0.out, HT1.out]; exact ho2) (by rw [HL0.out] at *; exact hg10)
                    rw [← HT.out, ← HY.out] at h1
                    exact h1
                  obtain ⟨a', c', rfl, -, -⟩ := own_len ho2
                  clear ho2 hg10 hat2 z0 z1
                  go_wp2_with fail
                  go_roundg (K.length - (j + 1))
                  case measure => omega
                  case rel => exact ⟨j + 1, by omega, by omega, by go_num, HR2, HAL2⟩
              · have hjl' : ¬ (j : Int) < (K.length : Int) := by omega
                obtain rfl : j = K.length := by omega
                have hsy := HRL.out.rd
                rw [List.take_length] at hsy hl0
                have hal := HAL.out
                rw [List.take_length] at hal
                obtain ⟨br, orr, vr, hae, -, hbr, -, e1, hkr⟩ := (HR.out.below (HB4.out.trans ((HB6.out.trans (hbq.mono HB6.out.size)).mono HB4.out.size))).rule_at HJ1.out
                obtain ⟨av, cv, rfl, -, -⟩ := hkr.form
                rw [List.length_map] at e1 hkr
                have HRI := refNode_inner HQ.out (j := j0) HXr.out (by rw [HKn.out]; exact HJ1.out) (by rw [HKE.out]; exact hal)
                rw [HKE.out] at HRI
                simp only [HKn.out] at HRI
                have CE := equalSyms a10 av c10 cv (K.map (labS g)) (R[j0]'HJ1.out).right wq (by rw [hl0]; exact hsy) hkr
                rw [← HRI, hl0] at CE
                obtain ⟨z, HZ⟩ := nameIt (refNode g x)
                obtain ⟨rn, HRN⟩ := nameIt (R[j0]'HJ1.out).right.length
                rw [HZ.out, HRN.out] at CE
                rw [HRN.out] at e1
                rw [HZ.out] at HBAD1
                have HCE := Lib.hid CE
                have hjr : (j0 : Int) < (R.length : Int) := by have := HJ1.out; omega
                have hjr2 : j0 < R.length := HJ1.out
                have hjr0 : (0 : Int) ≤ (j0 : Int) := by omega
                obtain ⟨x0, x1, x2, x3, y0, y1, y2⟩ := cells7 hbq X16.out X46.out
                have HBq := Lib.hid hbq
                subst hae
                clear hkr hsy CE HRI ho hd hbq hal
                go_wp2_with fail
                refine HCE.out.mono ?_
                rintro e w11 ⟨rfl, hb11⟩
                have HB11 := Lib.hid (HBq.out.trans (hb11.mono HBq.out.size))
                clear hb11 x0 x1 x2 x3 y0 y1 y2 e1
                cases z with
                | false =>
                  obtain rfl : B = 3 := HBAD1.out rfl
                  go_wp2_with fail
                  go_ret
                  exact ⟨rfl, HBW6.out.trans (HB11.out.mono HBW6.out.size)⟩
                | true =>
                  have HN2 : Hid (∀ j (h : j < L.length), j < i + 1 → refNode g L[j] = true) := by
                    intro j h hj
                    by_cases e : j = i
                    · subst e; rw [HX.out]; exact HZ.out
                    · exact HIN.out j h (by omega)
                  go_wp2_with fail
                  go_roundg (L.length - (i + 1))
                  case measure => omega
                  case rel => exact ⟨i + 1, by omega, by omega, by go_num, HB16.out.trans (HB11.out.mono HB16.out.size), HN2⟩
      · have hlt' : ¬ (i : Int) < (L.length : Int) := by omega
        obtain rfl : B = 0 := by
          rw [HBA.out, if_pos]
          rw [List.all_eq_true]
          intro y hy
          obtain ⟨j, hj, rfl⟩ := List.mem_iff_getElem.1 hy
          exact HN.out j hj (by omega)
        go_wp2_with fail
        go_ret
        exact ⟨rfl, HBB.out.trans (HB.out.mono HBB.out.size)⟩
end TF
end Go.Proofs.Ytjehmleckcmilaa
