/- The contracts of tree.Symbol and of Label. slices.Equal of symbols. The contracts of gram.CopyTree and tree.Clone. The contracts of Nodes, Yield and Codes. The contract of TreeFault. The contract of two; sizes of trees. What list's grammar says of trees. The walk of the law TreeChecks. demand.check, parllaw4.startFault. -/
import Derived.Test.YtfocooehnmpndaaGreatJDemandAllRow10
import Derived.Test.YtfocooehnmpndaaGreatJDemandAllRow6
import Derived.Deep.RegionHeld3
import Derived.WalkSmall
import Derived.Test.YtfocooehnmpndaaGreatJDemandAllRow4
import Derived.Test.YtfocooehnmpndaaGreatJDemandAllRow5
import Derived.Test.YtfocooehnmpndaaGreatJDemandAllRow3
namespace Go.Proofs.YtfocooehnmpndaaGreat
open Go.RowKit
theorem below_box2 {B b : Nat} {w w' : World} (h : Below B w w') (hb : B ≤ b) (x y : Value) : Below B w ((w'.setCell ⟨b, 0, none⟩ x).setCell ⟨b, 1, none⟩ y) :=
  (h.setCell (p := ⟨b, 0, none⟩) hb x).setCell (p := ⟨b, 1, none⟩) hb y
def symOf (g : Gram) (t : Tree) : Sym := if checkT g t = 0 then rootS g t else ⟨false, 0⟩
set_option maxHeartbeats 1000000 in
set_option maxRecDepth 100000 in
theorem symbolE (g : Gram) (ar : Option Addr) (cr : Nat) (t : Tree) (at' : Option Addr) (ct : Nat) (w : World) (hr : Rd AnyB w (.sl (g.rules.map Rule.d)) [.slice ar g.rules.length cr]) (hk : Rd AnyB w (.sl (t.kids.map Tree.d)) [.slice at' t.kids.length ct]) (hN : (nodes t).length ≤ 1099511627776) :
    Calls Tryz.prog 60 #[.agg #[.int .i64 g.terms, .int .i64 g.nons, .int .i64 g.start, .slice ar g.rules.length cr], .agg #[.int .i64 t.rule, .int .i64 t.term, .slice at' t.kids.length ct]] w fun e w' => e = .returned (.tuple #[.agg #[.bool (symOf g t).term, .int .i64 (symOf g t).n], .int .i64 (checkT g t)]) ∧ Below w.heap.size w w' := by
  obtain ⟨w0, HW0⟩ := nameIt (((w.alloc (.cells #[.int .i64 g.terms, .int .i64 g.nons, .int .i64 g.start, .slice ar g.rules.length cr] 24)).alloc (.cells #[.int .i64 t.rule, .int .i64 t.term, .slice at' t.kids.length ct] 31)).alloc (.cells #[.bool false, .int .i64 0] 78))
  have hb0 : Below w.heap.size w w0 := by rw [← HW0.out]; exact (((Below.refl _ _).alloc (Nat.le_refl _) _).alloc (by simp) _).alloc (by simp; omega) _
  have X1 : Hid (w0.heap[w.heap.size]? = some (.cells #[.int .i64 g.terms, .int .i64 g.nons, .int .i64 g.start, .slice ar g.rules.length cr] 24 (0, 0))) := by
    rw [← HW0.out]; exact bx_keep (bx_keep (bx_new _ _ _ rfl) ((Below.refl _ _).alloc (Nat.le_refl _) _)) ((Below.refl _ _).alloc (Nat.le_refl _) _)
  have X2 : Hid (w0.heap[w.heap.size + 1]? = some (.cells #[.int .i64 t.rule, .int .i64 t.term, .slice at' t.kids.length ct] 31 (0, 0))) := by
    rw [← HW0.out]; exact bx_keep (bx_new _ _ _ (by simp)) ((Below.refl _ _).alloc (Nat.le_refl _) _)
  have X3 : Hid (w0.heap[w.heap.size + 1 + 1]? = some (.cells #[.bool false, .int .i64 0] 78 (0, 0))) := by
    rw [← HW0.out]; exact bx_new _ _ _ (by simp)
  have C1 := Lib.hid (treeCheckE g ar cr t at' ct w0 (hr.below hb0) (hk.below hb0) hN)
  have C2 := Lib.hid (fun W (hb : Below w0.heap.size w0 W) => rootE g ar cr t at' t.kids.length ct W ((hr.below hb0).below hb))
  have HB0 := Lib.hid hb0
  obtain ⟨E1, HE1⟩ := nameIt (checkT g t)
  obtain ⟨Y, HY⟩ := nameIt (symOf g t)
  have HYV : Hid (Y = if E1 = 0 then rootS g t else ⟨false, 0⟩) := by show _ = _; rw [← HY.out]; unfold symOf; rw [HE1.out]
  obtain ⟨Z, HZ⟩ := nameIt (rootS g t)
  rw [HZ.out] at HYV C2
  obtain ⟨gt, HGT⟩ := nameIt g.terms
  obtain ⟨gn, HGN⟩ := nameIt g.nons
  obtain ⟨gs, HGS⟩ := nameIt g.start
  obtain ⟨n, HKn⟩ := nameIt g.rules.length
  obtain ⟨r, HRr⟩ := nameIt t.rule
  obtain ⟨tm, HRt⟩ := nameIt t.term
  obtain ⟨m, HMn⟩ := nameIt t.kids.length
  rw [HGT.out, HGN.out, HGS.out, HKn.out, HRr.out, HRt.out, HMn.out] at HW0 C2
  rw [HGT.out, HGN.out, HGS.out, HKn.out, HRr.out, HRt.out, HMn.out, HE1.out] at C1
  rw [HGT.out, HGN.out, HGS.out, HKn.out] at X1
  rw [HRr.out, HRt.out, HMn.out] at X2
  rw [HGT.out, HGN.out, HGS.out, HKn.out, HRr.out, HRt.out, HMn.out, HE1.out, HY.out]
  obtain ⟨x0, x1, x2, x3, y0, y1, y2, z0, z1⟩ := cells9 (Below.refl w0.heap.size w0) X1.out X2.out X3.out
  clear hr hk hb0
  go_enter Tryz.func60, Tryz.ntmps60
  go_upto_region 1 with fail
  rw [HW0.out]
  go_wp2_with fail
  refine C1.out.mono ?_
  rintro e w1 ⟨rfl, hb1⟩
  have HB1 := Lib.hid hb1
  obtain ⟨x0, x1, x2, x3, y0, y1, y2, z0, z1⟩ := cells9 hb1 X1.out X2.out X3.out
  obtain ⟨f0, f1⟩ := bx_free2 (bx_keep X3.out hb1)
  clear hb1
  by_cases h1 : E1 = 0
  · subst h1
    have hy := HYV.out
    rw [if_pos rfl] at hy
    subst hy
    go_wp2_with fail
    refine (C2.out _ HB1.out).mono ?_
    rintro e w2 ⟨rfl, hb2⟩
    have HB2 := Lib.hid (HB1.out.trans (hb2.mono HB1.out.size))
    clear hb2 x0 x1 x2 x3 y0 y1 y2 z0 z1 f0 f1
    obtain ⟨x0, x1, x2, x3, y0, y1, y2, z0, z1⟩ := cells9 HB2.out X1.out X2.out X3.out
    obtain ⟨f0, f1⟩ := bx_free2 (bx_keep X3.out HB2.out)
    obtain ⟨Y0, HY0⟩ := nameIt Y.term
    obtain ⟨Y1, HY1⟩ := nameIt Y.n
    rw [HY0.out, HY1.out]
    go_wp2_with fail
    exact bodyPost_ret (v := .tuple #[.agg #[.bool Y0, .int .i64 Y1], .int .i64 0]) (by simp [results, Tryz.results60, go_sem, z0, z1]) rfl ⟨by rw [← HY0.out, ← HY1.out], below_box2 (HB0.out.trans (HB2.out.mono HB0.out.size)) (by omega) _ _⟩
  · have hne : (E1 != 0) = true := by simpa using h1
    obtain rfl : Y = ⟨false, 0⟩ := by rw [HYV.out, if_neg h1]
    clear h1
    go_wp2_with fail
    exact bodyPost_ret (v := .tuple #[.agg #[.bool false, .int .i64 0], .int .i64 E1]) (by simp [results, Tryz.results60, go_sem, z0, z1]) rfl ⟨rfl, below_box2 (HB0.out.trans (HB1.out.mono HB0.out.size)) (by omega) _ _⟩
def labS (g : Gram) (t : Tree) : Sym := (label g t).getD ⟨false, 0⟩
set_option maxHeartbeats 1000000 in
set_option maxRecDepth 100000 in
theorem labelE (g : Gram) (ar : Option Addr) (cr : Nat) (t : Tree) (at' : Option Addr) (ct : Nat) (w : World) (hr : Rd AnyB w (.sl (g.rules.map Rule.d)) [.slice ar g.rules.length cr]) :
    Calls Tryz.prog 34 #[.agg #[.int .i64 g.terms, .int .i64 g.nons, .int .i64 g.start, .slice ar g.rules.length cr], .agg #[.int .i64 t.rule, .int .i64 t.term, .slice at' t.kids.length ct]] w fun e w' => e = .returned (.tuple #[.agg #[.bool (labS g t).term, .int .i64 (labS g t).n], .bool (label g t).isSome]) ∧ Below w.heap.size w w' := by
  have hbs := hr.bounds.2
  unfold maxLen at hbs
  obtain ⟨hc1, hc2⟩ := hbs
  obtain ⟨gt, HGT⟩ := nameIt g.terms
  obtain ⟨gn, HGN⟩ := nameIt g.nons
  obtain ⟨gs, HGS⟩ := nameIt g.start
  obtain ⟨K, HK⟩ := nameIt g.rules
  obtain ⟨r, HRr⟩ := nameIt t.rule
  obtain ⟨tm, HRt⟩ := nameIt t.term
  obtain ⟨m, HMn⟩ := nameIt t.kids.length
  obtain ⟨S, HS⟩ := nameIt (labS g t)
  obtain ⟨q, HQ⟩ := nameIt (label g t)
  have HSV : Hid (S = q.getD ⟨false, 0⟩) := by show _ = _; rw [← HS.out, ← HQ.out]; rfl
  have HQV : Hid (q = if r = -1 ∧ m = 0 ∧ 0 ≤ tm ∧ tm < gt then some ⟨true, tm⟩ else if r < 0 ∨ tm ≠ 0 then none else (K[r.toNat]?).map fun x => ⟨false, x.left⟩) := by
    show _ = _; rw [← HQ.out]; unfold label; rw [HRr.out, HRt.out, HK.out, HMn.out, HGT.out]
  have HR := Lib.hid hr
  rw [HK.out] at HR hc1
  rw [HGT.out, HGN.out, HGS.out, HK.out, HRr.out, HRt.out, HMn.out, HS.out, HQ.out]
  have HB : Hid (Below w.heap.size w (((w.alloc (.cells #[.int .i64 gt, .int .i64 gn, .int .i64 gs, .slice ar K.length cr] 24)).alloc (.cells #[.int .i64 r, .int .i64 tm, .slice at' m ct] 31)).alloc (.cells #[.bool S.term, .int .i64 S.n] 78))) := (((Below.refl _ _).alloc (Nat.le_refl _) _).alloc (by simp) _).alloc (by simp; omega) _
  clear hr
  by_cases h0 : r = -1
  · have a0 : (r == -1) = true := by simpa using h0
    have a5 : decide (0 ≤ r) = false := by simp; omega
    by_cases h1 : m = 0
    · have a1 : ((m : Int) == 0) = true := by simpa using h1
      by_cases h2 : 0 ≤ tm
      · have a2 : decide (0 ≤ tm) = true := by simpa using h2
        by_cases h3 : tm < gt
        · have a3 : decide (tm < gt) = true := by simpa using h3
          obtain rfl : q = some ⟨true, tm⟩ := by rw [HQV.out, if_pos ⟨h0, h1, h2, h3⟩]
          obtain rfl : S = ⟨true, tm⟩ := HSV.out
          clear h0 h1 h2 h3
          go_enter Tryz.func34, Tryz.ntmps34
          go_wp2_with fail
          exact bodyPost_ret (v := .tuple #[.agg #[.bool true, .int .i64 tm], .bool true]) (by simp [results, Tryz.results34, go_sem]) rfl ⟨rfl, HB.out⟩
        · have a3 : decide (tm < gt) = false := by simpa using h3
          obtain rfl : q = none := by rw [HQV.out, if_neg (by omega), if_pos (by omega)]
          obtain rfl : S = ⟨false, 0⟩ := HSV.out
          clear h0 h1 h2 h3
          go_enter Tryz.func34, Tryz.ntmps34
          go_wp2_with fail
          exact bodyPost_ret (v := .tuple #[.agg #[.bool false, .int .i64 0], .bool false]) (by simp [results, Tryz.results34, go_sem]) rfl ⟨rfl, HB.out⟩
      · have a2 : decide (0 ≤ tm) = false := by simpa using h2
        obtain rfl : q = none := by rw [HQV.out, if_neg (by omega), if_pos (by omega)]
        obtain rfl : S = ⟨false, 0⟩ := HSV.out
        clear h0 h1 h2
        go_enter Tryz.func34, Tryz.ntmps34
        go_wp2_with fail
        exact bodyPost_ret (v := .tuple #[.agg #[.bool false, .int .i64 0], .bool false]) (by simp [results, Tryz.results34, go_sem]) rfl ⟨rfl, HB.out⟩
    · have a1 : ((m : Int) == 0) = false := by simpa using h1
      obtain rfl : q = none := by rw [HQV.out, if_neg (by omega), if_pos (by omega)]
      obtain rfl : S = ⟨false, 0⟩ := HSV.out
      clear h0 h1
      go_enter Tryz.func34, Tryz.ntmps34
      go_wp2_with fail
      exact bodyPost_ret (v := .tuple #[.agg #[.bool false, .int .i64 0], .bool false]) (by simp [results, Tryz.results34, go_sem]) rfl ⟨rfl, HB.out⟩
  · have a0 : (r == -1) = false := by simpa using h0
    have hq := HQV.out
    rw [if_neg (fun h => h0 h.1)] at hq
    clear h0
    by_cases h1 : r < 0
    · have a5 : decide (0 ≤ r) = false := by simpa using h1
      obtain rfl : q = none := by rw [hq, if_pos (.inl h1)]
      obtain rfl : S = ⟨false, 0⟩ := HSV.out
      clear h1 hq
      go_enter Tryz.func34, Tryz.ntmps34
      go_wp2_with fail
      exact bodyPost_ret (v := .tuple #[.agg #[.bool false, .int .i64 0], .bool false]) (by simp [results, Tryz.results34, go_sem]) rfl ⟨rfl, HB.out⟩
    · obtain ⟨j, rfl⟩ := Int.eq_ofNat_of_zero_le (show 0 ≤ r by omega)
      have b0 : decide ((j : Int) < 0) = false := by simp
      have b0' : (0 : Int) ≤ (j : Int) := by omega
      by_cases h2 : j < K.length
      · have b1 : decide ((j : Int) < (K.length : Int)) = true := by simp; omega
        have b1' : decide (j < K.length) = true := by simp; omega
        have h2' : (j : Int) < (K.length : Int) := by omega
        by_cases h3 : tm = 0
        · subst h3
          obtain ⟨b, off, vr, hae, -, hbl, c0, -, -⟩ := HR.out.rule_at h2
          obtain ⟨lf, HLF⟩ := nameIt (K[j]'h2).left
          obtain rfl : q = some ⟨false, lf⟩ := by rw [hq, if_neg (by omega)]; simp [h2, HLF.out]
          obtain rfl : S = ⟨false, lf⟩ := HSV.out
          rw [HLF.out] at c0
          subst hae
          clear h1 hq
          have hbl1 : b < w.heap.size + 1 := by omega
          have hbl2 : b < w.heap.size + 1 + 1 := by omega
          have hn0 : ¬ b = w.heap.size := by omega
          have hn1 : ¬ b = w.heap.size + 1 := by omega
          have hn2 : ¬ b = w.heap.size + 1 + 1 := by omega
          go_enter Tryz.func34, Tryz.ntmps34
          go_wp2_with fail
          exact bodyPost_ret (v := .tuple #[.agg #[.bool false, .int .i64 lf], .bool true]) (by simp [results, Tryz.results34, go_sem]) rfl ⟨rfl, HB.out⟩
        · have b3 : (tm == 0) = false := by simpa using h3
          obtain rfl : q = none := by rw [hq, if_pos (.inr h3)]
          obtain rfl : S = ⟨false, 0⟩ := HSV.out
          clear h1 h3 hq
          go_enter Tryz.func34, Tryz.ntmps34
          go_wp2_with fail
          exact bodyPost_ret (v := .tuple #[.agg #[.bool false, .int .i64 0], .bool false]) (by simp [results, Tryz.results34, go_sem]) rfl ⟨rfl, HB.out⟩
      · have b1 : decide ((j : Int) < (K.length : Int)) = false := by simp; omega
        have b1' : decide (j < K.length) = false := by simp; omega
        obtain rfl : q = none := by
          rw [hq]
          by_cases h3 : tm = 0
          · rw [if_neg (by omega)]; simp [show K.length ≤ j by omega]
          · rw [if_pos (.inr h3)]
        obtain rfl : S = ⟨false, 0⟩ := HSV.out
        clear h1 hq
        go_enter Tryz.func34, Tryz.ntmps34
        go_wp2_with fail
        exact bodyPost_ret (v := .tuple #[.agg #[.bool false, .int .i64 0], .bool false]) (by simp [results, Tryz.results34, go_sem]) rfl ⟨rfl, HB.out⟩
end Go.Proofs.YtfocooehnmpndaaGreat
namespace Go.Proofs.YtfocooehnmpndaaGreat
open Go.RowKit
theorem symNe (a c : Bool) (b d : Int) (w : World) : (binOp .neq 78 (.agg #[.bool a, .int .i64 b]) (.agg #[.bool c, .int .i64 d])).run Tryz.prog w = .ok (.bool (!(a == c && b == d))) w := by
  have h1 : Tryz.prog.underlying 78 = some (.struct (Tryz.prog.fieldsOf 78)) := by kernel_rfl
  have h2 : Tryz.prog.stoodInHeld 78 = false := by kernel_rfl
  have h3 := Tryz.underlying78
  have h4 := Tryz.underlying4
  have h5 := Tryz.underlying3
  rw [run_neq_struct, run_equalIn_agg (d := 9999) _ _ _ _ h1 h2]
  simp only [Program.fieldsOf, h3]
  cases hac : (a == c) <;> by_cases hbd : b = d <;> simp [Op.eqFields, go_sem, h4, h5, hac, hbd]
theorem sym_beq (x y : Sym) : (x.term == y.term && x.n == y.n) = decide (x = y) := by
  rw [Bool.eq_iff_iff]; cases x; cases y; simp
set_option maxHeartbeats 1000000 in
set_option maxRecDepth 100000 in
theorem equalSyms (a a' : Option Addr) (c c' : Nat) (l m : List Sym) (w : World) (hl : Rd AnyB w (.sl (l.map Sym.d)) [.slice a l.length c]) (hm : Rd AnyB w (.sl (m.map Sym.d)) [.slice a' m.length c']) :
    Calls Tryz.prog 74 #[.slice a l.length c, .slice a' m.length c'] w fun e w' => e = .returned (.bool (decide (l = m))) ∧ Below w.heap.size w w' := by
  have HL := Lib.hid hl
  have HM := Lib.hid hm
  have hc := hl.bounds.2
  have hc' := hm.bounds.2
  unfold maxLen at hc hc'
  obtain ⟨hc1, hc2⟩ := hc
  obtain ⟨hc3, hc4⟩ := hc'
  clear hl hm
  by_cases hlen : l.length = m.length
  · have hlb : ((l.length : Int) != (m.length : Int)) = false := by simp [hlen]
    have hle : l.length ≤ m.length := by omega
    have HLEN := Lib.hid hlen
    clear hlen
    have heg : Tryz.prog.eqGuardType Tryz.prog.depth 78 = false := by kernel_rfl
    go_enter Tryz.func74, Tryz.ntmps74
    go_wp2_with fail
    go_loopg [13] l.length (fun gg v13 wr => ∃ i : Nat, i ≤ l.length ∧ l.length - i ≤ gg ∧ v13 = .int .i64 i ∧ Hid (Below w.heap.size w wr) ∧ Hid (∀ j (h1 : j < l.length) (h2 : j < m.length), j < i → l[j] = m[j]))
    case atStart => exact ⟨0, by omega, by omega, rfl, Below.refl _ _, fun j _ _ hj => by omega⟩
    case round =>
      obtain ⟨i, hi, hg, rfl, HB, HN⟩ := hrel
      by_cases hlt : i < l.length
      · have hlt' : (i : Int) < (l.length : Int) := by omega
        have hlt2 : i < m.length := by omega
        have hlt2' : (i : Int) < (m.length : Int) := by omega
        have hi0 : (0 : Int) ≤ (i : Int) := by omega
        obtain ⟨b, off, hae, -, hbl, c0, c1⟩ := (HL.out.below HB.out).sym_at hlt
        obtain ⟨b', off', hae', -, hbl', d0, d1⟩ := (HM.out.below HB.out).sym_at hlt2
        obtain ⟨x, HX⟩ := nameIt (l[i]'hlt)
        obtain ⟨y, HY⟩ := nameIt (m[i]'hlt2)
        rw [HX.out] at c0 c1
        rw [HY.out] at d0 d1
        have hne := symNe x.term y.term x.n y.n
        rw [sym_beq] at hne
        obtain ⟨q, HQ⟩ := nameIt (decide (x = y))
        obtain ⟨x0, HX0⟩ := nameIt x.term
        obtain ⟨x1, HX1⟩ := nameIt x.n
        obtain ⟨y0, HY0⟩ := nameIt y.term
        obtain ⟨y1, HY1⟩ := nameIt y.n
        rw [HQ.out, HX0.out, HX1.out, HY0.out, HY1.out] at hne
        rw [HX0.out] at c0
        rw [HX1.out] at c1
        rw [HY0.out] at d0
        rw [HY1.out] at d1
        subst hae hae'
        have HBD := Lib.hid (HB.out.trans ((below_drewN wr 9).mono HB.out.size))
        go_wp2_with fail
        go_quiet (fail)
        cases q with
        | false =>
          have HE : Hid (decide (l = m) = false) := by
            show _ = _
            rw [decide_eq_false_iff_not]
            intro h
            subst h
            have h2 := HX.out.symm.trans HY.out
            subst h2
            have := HQ.out
            simp at this
          go_wp2_with fail
          go_ret
          exact ⟨by rw [HE.out]; rfl, HB.out.trans ((below_drewN _ _).mono HB.out.size)⟩
        | true =>
          have HN2 : Hid (∀ j (h1 : j < l.length) (h2 : j < m.length), j < i + 1 → l[j] = m[j]) := by
            intro j h1 h2 hj
            by_cases e : j = i
            · subst e; rw [HX.out, HY.out]; simpa using HQ.out
            · exact HN.out j h1 h2 (by omega)
          go_wp2_with fail
          go_roundg (l.length - (i + 1))
          case measure => omega
          case rel => exact ⟨i + 1, by omega, by omega, by go_num, HB.out.trans ((below_drewN _ _).mono HB.out.size), HN2⟩
      · have hlt' : ¬ (i : Int) < (l.length : Int) := by omega
        have HE : Hid (decide (l = m) = true) := by
          show _ = _
          rw [decide_eq_true_iff]
          exact List.ext_getElem HLEN.out fun j h1 h2 => HN.out j h1 h2 (by omega)
        go_wp2_with fail
        go_ret
        exact ⟨by rw [HE.out]; rfl, HB.out⟩
  · have hlb : ((l.length : Int) != (m.length : Int)) = true := by simp; omega
    have HE : Hid (decide (l = m) = false) := by show _ = _; rw [decide_eq_false_iff_not]; intro h; exact hlen (by rw [h])
    clear hlen
    go_enter Tryz.func74, Tryz.ntmps74
    go_wp2_with fail
    go_ret
    exact ⟨by rw [HE.out]; rfl, Below.refl _ _⟩
end Go.Proofs.YtfocooehnmpndaaGreat
namespace Go.Proofs.YtfocooehnmpndaaGreat
open Go.RowKit
mutual
def Tree.size : Tree → Nat
  | .node _ _ ks => sizeL ks + 1
def sizeL : List Tree → Nat
  | [] => 0
  | k :: ks => Tree.size k + sizeL ks
end
theorem Tree.size_eq (t : Tree) : t.size = sizeL t.kids + 1 := by cases t; simp [Tree.size, Tree.kids]
theorem Tree.size_pos (t : Tree) : 0 < t.size := by rw [Tree.size_eq]; omega
theorem sizeL_len : ∀ (ks : List Tree), ks.length ≤ sizeL ks
  | [] => by simp
  | k :: ks => by have := sizeL_len ks; have := k.size_pos; simp [sizeL]; omega
theorem elTree : ElemT Tryz.prog 29 31 3 40 := ElemT.mk' (z := .agg #[.int .i64 0, .int .i64 0, .slice none 0 0]) Tryz.underlying29 (by kernel_rfl) rfl (by decide)
structure RowRel (T : Nat → Prop) (B b : Nat) (r tm : Int) (ts : List Tree) (vr : Value) (wr : World) : Prop where
  out : wr.heap[b]? = some (.cells #[.int .i64 r, .int .i64 tm, vr] 31 (0, 0))
  own : ∃ xs, wr.ownsRow B 31 3 vr ts.length xs ∧ RdAll (fun k => T k ∧ vr.ownBlock ≠ some k) wr (ts.map Tree.d) xs
  lt : b < B
  nt : ¬ T b
  le : B ≤ wr.heap.size
theorem RowRel.len {T : Nat → Prop} {B b : Nat} {r tm : Int} {ts : List Tree} {vr : Value} {wr : World} (h : RowRel T B b r tm ts vr wr) : ∃ a cap, vr = .slice a ts.length cap ∧ ts.length ≤ cap ∧ cap ≤ maxLen := by
  obtain ⟨xs, h1, _⟩ := h.own; exact own_len h1
theorem RowRel.keep {T : Nat → Prop} {B b : Nat} {r tm : Int} {ts : List Tree} {vr : Value} {wr w' : World} (h : RowRel T B b r tm ts vr wr) (hb : Below wr.heap.size wr w') : RowRel T B b r tm ts vr w' := by
  obtain ⟨xs, h1, h2⟩ := h.own
  exact ⟨bx_keep h.out hb, ⟨xs, own_keep h1 hb, h2.below hb⟩, h.lt, h.nt, Nat.le_trans h.le hb.size⟩
theorem RowRel.step {T : Nat → Prop} {B b g cap n : Nat} {r tm : Int} {ts : List Tree} {t : Tree} {vr v : Value} {w2 w3 : World} {xs : List Value} (h : RowRel T B b r tm ts vr w2) (hn : ts.length = n) (ho : w2.ownsRow B 31 3 vr n xs) (hd : RdAll (fun k => T k ∧ vr.ownBlock ≠ some k) w2 (ts.map Tree.d) xs)
    (hr : Rd (fun k => T k ∧ vr.ownBlock ≠ some k) w2 (.sl (t.kids.map Tree.d)) [v])
    (ho3 : w3.ownsRow B 31 3 (.slice (some ⟨g, 0, none⟩) (n + 1) cap) (n + 1) (xs ++ [.int .i64 t.rule, .int .i64 t.term, v])) (hg : w2.grownBy w3 vr.ownBlock) (hat : vr.ownBlock = some g ∨ w2.heap.size ≤ g) :
    w3.heap[b]? = some (.cells #[.int .i64 r, .int .i64 tm, vr] 31 (0, 0)) ∧ RowRel T B b r tm (ts ++ [t]) (.slice (some ⟨g, 0, none⟩) (n + 1) cap) (w3.setCell ⟨b, 2, none⟩ (.slice (some ⟨g, 0, none⟩) (n + 1) cap)) := by
  have hlt := (Array.getElem?_eq_some_iff.1 h.out).1
  have hb3 : w3.heap[b]? = some (.cells #[.int .i64 r, .int .i64 tm, vr] 31 (0, 0)) := by
    rw [hg.block b hlt (fun e => by have := (ho.lt b e.symm).1; have := h.lt; omega)]; exact h.out
  have hne : b ≠ g := by
    have h1 := (ho3.lt g rfl).1
    have := h.lt; omega
  refine ⟨hb3, ?_, ⟨xs ++ [.int .i64 t.rule, .int .i64 t.term, v], ?_, ?_⟩, h.lt, h.nt, by simp [World.setCell]; exact Nat.le_trans h.le hg.size⟩
  · rw [bx_set hb3]; rfl
  · rw [List.length_append, hn]
    exact ho3.kept (grown_cell w3 ⟨b, 2, none⟩ _) (.inr (by simpa [Value.ownBlock] using fun e => hne e.symm))
  · have h1 := own_step (S := T) (v' := .slice (some ⟨g, 0, none⟩) (n + 1) cap) hd (RdAll.one (rd_tree hr)) hg (by
      rcases hat with e | e
      · exact .inl e.symm
      · exact .inr ⟨g, rfl, e⟩)
    rw [List.map_append]
    refine RdAll.keep (fun k hk _ => ⟨hk, Below.heap_setCell _ _ _ _ ?_⟩) _ _ h1
    intro e
    simp at e
    subst e
    exact h.nt hk.1
structure CopyRel (t : Tree) (w : World) (i : Nat) (vr : Value) (wr : World) : Prop where
  row : RowRel (fun k => w.heap.size + 1 + 1 + 1 ≤ k) (w.heap.size + 1 + 1 + 1) (w.heap.size + 1 + 1) t.rule t.term (t.kids.take i) vr wr
  res : wr.heap[w.heap.size + 1]? = some (.cells #[.int .i64 0, .int .i64 0, .slice none 0 0] 31 (0, 0))
  bel : Below w.heap.size w wr
end Go.Proofs.YtfocooehnmpndaaGreat
namespace Go.Proofs.YtfocooehnmpndaaGreat
open Go.RowKit
theorem len_nodesL : ∀ (l : List Tree), l.length ≤ (nodesL l).length
  | [] => by simp
  | t :: l => by have := len_nodesL l; have := nodes_pos t; simp [nodesL]; omega
theorem own_lit {w : World} {B g : Nat} {e : TypeId} {size n : Nat} {news : Array Value} (hg : g = w.heap.size) (hB : B ≤ w.heap.size) (hn : news.size = n * size) (hm : n ≤ maxLen) : (w.alloc (.cells news e)).ownsRow B e size (.slice (some ⟨g, 0, none⟩) n n) n news.toList := by
  subst hg
  exact ⟨by simpa using hn, .inr ⟨_, n, news, rfl, hB, heap_alloc_new w _, Nat.le_refl _, hm, hn, by rw [← hn]; exact List.take_of_length_le (by simp)⟩⟩
def RowT (w : World) (B : Nat) (v : Value) (ts : List Tree) (wr : World) : Prop := ∃ xs, wr.ownsRow B 31 3 v ts.length xs ∧ RdAll AnyB w (ts.map Tree.d) xs
theorem RowT.form {w : World} {B : Nat} {v : Value} {ts : List Tree} {wr : World} (h : RowT w B v ts wr) : ∃ a cap, v = .slice a ts.length cap ∧ ts.length ≤ cap ∧ cap ≤ maxLen := by
  obtain ⟨xs, h1, _⟩ := h; exact own_len h1
theorem RowT.lt {w : World} {B : Nat} {v : Value} {ts : List Tree} {wr : World} (h : RowT w B v ts wr) : ∀ k, v.ownBlock = some k → B ≤ k ∧ k < wr.heap.size := by
  obtain ⟨xs, h1, _⟩ := h; exact h1.lt
theorem RowT.keep {w : World} {B : Nat} {v : Value} {ts : List Tree} {wr w' : World} (h : RowT w B v ts wr) (hb : Below wr.heap.size wr w') : RowT w B v ts w' := by
  obtain ⟨xs, h1, h2⟩ := h; exact ⟨xs, own_keep h1 hb, h2⟩
theorem RowT.kept {w : World} {B : Nat} {v : Value} {ts : List Tree} {wr w' : World} {row : Option Nat} (h : RowT w B v ts wr) (hg : wr.grownBy w' row) (hne : ∀ k, v.ownBlock = some k → row ≠ some k) : RowT w B v ts w' := by
  obtain ⟨xs, h1, h2⟩ := h
  refine ⟨xs, h1.kept hg ?_, h2⟩
  cases e : v.ownBlock with
  | none => exact .inl rfl
  | some k => exact .inr fun h => hne k e h.symm
theorem RowT.rd {w : World} {B : Nat} {v : Value} {ts : List Tree} {wr : World} (h : RowT w B v ts wr) (hb : Below w.heap.size w wr) : Rd AnyB wr (.sl (ts.map Tree.d)) [v] := by
  obtain ⟨xs, h1, h2⟩ := h
  exact rd_of_own h1 (h2.below hb) (by simp) (fun _ _ => trivial)
theorem RowT.step {w : World} {B : Nat} {v' u : Value} {ts : List Tree} {t : Tree} {w' : World} {xs : List Value} {n : Nat} (hn : ts.length = n) (hd : RdAll AnyB w (ts.map Tree.d) xs) (hk : Rd AnyB w (.sl (t.kids.map Tree.d)) [u])
    (ho : w'.ownsRow B 31 3 v' (n + 1) (xs ++ [.int .i64 t.rule, .int .i64 t.term, u])) : RowT w B v' (ts ++ [t]) w' :=
  ⟨_, by rw [List.length_append, hn]; exact ho, by rw [List.map_append]; exact RdAll.append hd (RdAll.one (rd_tree hk))⟩
theorem RowT.pop {w : World} {B g cap n : Nat} {ts : List Tree} {t : Tree} {wr : World} (hn : ts.length = n) (h : RowT w B (.slice (some ⟨g, 0, none⟩) (n + 1) cap) (ts ++ [t]) wr) : RowT w B (.slice (some ⟨g, 0, none⟩) n cap) ts wr := by
  obtain ⟨xs, h1, h2⟩ := h
  rw [List.map_append] at h2
  obtain ⟨c1, c2, rfl, h3, h4⟩ := h2.split
  refine ⟨c1, ?_, h3⟩
  rw [List.length_append, hn] at h1
  rw [hn]
  exact ownsRow_pop (by rw [RdAll.len _ _ h3, cellsAll_eq (trees_cells ts)]; simp [hn]) h1
theorem RowT.top {w : World} {B g cap n : Nat} {ts : List Tree} {t : Tree} {wr : World} (hn : ts.length = n) (h : RowT w B (.slice (some ⟨g, 0, none⟩) (n + 1) cap) (ts ++ [t]) wr) :
    ∃ u, wr.cell? ⟨g, n * 3, none⟩ = some (.int .i64 t.rule) ∧ wr.cell? ⟨g, n * 3 + 1, none⟩ = some (.int .i64 t.term) ∧ wr.cell? ⟨g, n * 3 + 2, none⟩ = some u ∧ Rd AnyB w (.sl (t.kids.map Tree.d)) [u] := by
  obtain ⟨xs, h1, h2⟩ := h
  rw [List.map_append] at h2
  obtain ⟨c1, c2, rfl, h3, h4⟩ := h2.split
  rw [List.map_cons, List.map_nil, RdAll.one_iff] at h4
  obtain ⟨u, rfl, hk⟩ := h4.tree
  have hl : c1.length = n * 3 := by rw [RdAll.len _ _ h3, cellsAll_eq (trees_cells ts)]; simp [hn]
  have hc := fun j u hj => h1.cells (g := g) rfl j u hj
  simp only [add_at, Nat.zero_add] at hc
  refine ⟨u, hc _ _ ?_, hc _ _ ?_, hc _ _ ?_, hk⟩ <;> simp [← hl]
theorem RowT.block {w : World} {B n : Nat} {v : Value} {ts : List Tree} {wr : World} (h : RowT w B v ts wr) (hn : ts.length = n + 1) : ∃ g cap, v = .slice (some ⟨g, 0, none⟩) (n + 1) cap ∧ n + 1 ≤ cap ∧ cap ≤ maxLen ∧ B ≤ g ∧ g < wr.heap.size := by
  obtain ⟨xs, h1, h2⟩ := h
  have hlt := h1.lt
  rcases h1.2 with ⟨_, h0⟩ | ⟨g, cap, cur, hv, hg, hh, hn', hc, _⟩
  · omega
  · rw [hn] at hv hn'
    subst hv
    exact ⟨g, cap, rfl, hn', hc, (hlt g rfl).1, (hlt g rfl).2⟩
structure NodesRel (w : World) (st out : List Tree) (vt vo : Value) (wr : World) : Prop where
  ot : RowT w w.heap.size vt st wr
  oo : RowT w w.heap.size vo out wr
  ne : ∀ k, vt.ownBlock = some k → vo.ownBlock ≠ some k
  bel : Below w.heap.size w wr
structure InnerRel (w : World) (st out : List Tree) (vt vo : Value) (bx : Nat) (cs : Array Value) (wr : World) : Prop where
  rel : NodesRel w st out vt vo wr
  box : wr.heap[bx]? = some (.cells cs 31 (0, 0))
  apart : vt.ownBlock ≠ some bx
theorem nodes_leaf {t x : Tree} {s' out : List Tree} (h : out ++ nodesL (s' ++ [x]).reverse = nodes t) (hr : x.rule = -1) : (out ++ [x]) ++ nodesL s'.reverse = nodes t := by
  rw [← h]
  simp [nodesL, nodes_eq x, kidsOf, hr]
theorem nodes_inner {t x : Tree} {s' out : List Tree} (h : out ++ nodesL (s' ++ [x]).reverse = nodes t) (hr : x.rule ≠ -1) : (out ++ [x]) ++ nodesL (s' ++ x.kids.reverse).reverse = nodes t := by
  rw [← h]
  simp [nodesL, nodes_eq x, kidsOf, hr, nodesL_append]
theorem nodesL_rev_cons (s' : List Tree) (x : Tree) : (nodesL (s' ++ [x]).reverse).length = (nodes x).length + (nodesL s'.reverse).length := by simp [nodesL]
def NodesPost (t : Tree) (w : World) (e : Ending) (w' : World) : Prop := ∃ v, e = .returned v ∧ Rd AnyB w' (.sl ((nodes t).map Tree.d)) [v] ∧ Below w.heap.size w w'
set_option maxHeartbeats 2000000 in
set_option maxRecDepth 100000 in
theorem nodesE (t : Tree) (v : Value) (w : World) (hv : Rd AnyB w (.sl (t.kids.map Tree.d)) [v]) (hN : (nodes t).length ≤ 1099511627776) :
    Calls Tryz.prog 55 #[.agg #[.int .i64 t.rule, .int .i64 t.term, v]] w (NodesPost t w) := by
  obtain ⟨a, cap, rfl, -, -⟩ := hv.form
  obtain ⟨n, HN⟩ := nameIt (t.kids.map Tree.d).length
  rw [HN.out] at hv
  rw [HN.out]
  obtain ⟨w0, HW0⟩ := nameIt ((w.alloc (.cells #[.int .i64 t.rule, .int .i64 t.term, .slice a n cap] 31)).alloc (.cells #[.int .i64 t.rule, .int .i64 t.term, .slice a n cap] 31))
  have HR0 : Hid (NodesRel w [t] [] (.slice (some ⟨w.heap.size + 1, 0, none⟩) 1 1) (.slice none 0 0) w0) := by
    rw [← HW0.out]
    refine ⟨⟨_, own_lit (by simp) (by simp) rfl (by simp [maxLen]), RdAll.one (rd_tree hv)⟩, ⟨[], World.ownsRow_nil _ _ _ _, by simp [RdAll]⟩, by simp [Value.ownBlock], ((Below.refl _ _).alloc (Nat.le_refl _) _).alloc (by simp) _⟩
  have HNN := Lib.hid hN
  clear hv hN
  go_enter Tryz.func55, Tryz.ntmps55
  go_wp2_with fail
  rw [HW0.out]
  go_loopg [3, 4] (nodes t).length (fun gg v3 v4 wr => ∃ (st out : List Tree), Hid (out ++ nodesL st.reverse = nodes t) ∧ (nodesL st.reverse).length ≤ gg ∧ Hid (NodesRel w st out v3 v4 wr))
  case atStart => exact ⟨[t], [], by show _ = _; simp [nodesL], by simp [nodesL], HR0⟩
  case round =>
    clear HR0 HW0
    obtain ⟨wo, rfl⟩ : ∃ wo : World, wo = wr := ⟨_, rfl⟩
    obtain ⟨st, out, HE, hg, HR⟩ := hrel
    obtain ⟨a4, c4, rfl, ho1, ho2⟩ := HR.out.oo.form
    unfold maxLen at ho2
    rcases List.eq_nil_or_concat st with rfl | ⟨s', x, rfl⟩
    · obtain ⟨a3, c3, rfl, ht1, ht2⟩ := HR.out.ot.form
      have HE2 : Hid (nodes t = out) := by have h := HE.out; simp [nodesL] at h; exact h.symm
      simp only [List.length_nil]
      clear HE
      go_wp2_with fail
      go_ret
      exact ⟨_, rfl, by rw [HE2.out]; exact HR.out.oo.rd HR.out.bel, HR.out.bel⟩
    · rw [List.concat_eq_append] at *
      obtain ⟨k, HK⟩ := nameIt s'.length
      obtain ⟨gt, ct, rfl, ht1, ht2, ht3, ht4⟩ := HR.out.ot.block (n := k) (by simp [HK.out])
      obtain ⟨u, x0, x1, x2, hku⟩ := HR.out.ot.top HK.out
      obtain ⟨au, cu, rfl, hqq, hcu⟩ := hku.form
      obtain ⟨q, HQ⟩ := nameIt (x.kids.map Tree.d).length
      rw [HQ.out] at hqq
      rw [HQ.out] at x2 hku
      have HKU := Lib.hid hku
      have HPOP := Lib.hid (HR.out.ot.pop HK.out)
      obtain ⟨xs, hoo, hdo⟩ := HR.out.oo
      have HOO := Lib.hid hoo
      have HDO := Lib.hid hdo
      have hsz := HR.out.bel.size
      have hout : out.length ≤ (nodes t).length := by have h := congrArg List.length HE.out; simp at h; omega
      have hout2 : k + 1 ≤ (nodes t).length := by
        have h := congrArg List.length HE.out
        have h2 := len_nodesL (s' ++ [x]).reverse
        have h3 := HK.out
        simp at h h2; omega
      have hNN := HNN.out
      unfold maxLen at ht2 hcu
      obtain ⟨r, HXr⟩ := nameIt x.rule
      obtain ⟨tm, HXt⟩ := nameIt x.term
      rw [HXr.out] at x0
      rw [HXt.out] at x1
      have HB1 := Lib.hid ((Below.refl wo.heap.size wo).alloc (Nat.le_refl _) (.cells #[.int .i64 r, .int .i64 tm, .slice au q cu] 31))
      clear hku hoo hdo
      go_wp2_with (at_builtin; refine wp_app1at elTree rfl _ _ rfl (own_keep HOO.out HB1.out) rfl rfl (by simp) rfl rfl (by omega) (by unfold maxLen; omega) (by simp; omega) ?_)
      intro v' w' ho hg2 hat
      have hat' : v'.ownBlock = (Value.slice a4 out.length c4).ownBlock ∨ ∃ k, v'.ownBlock = some k ∧ wo.heap.size < k := by
        rcases hat with e | ⟨k, e, hk⟩
        · exact .inl e
        · exact .inr ⟨k, e, by first | omega | (simp at hk; omega)⟩
      have hR' : NodesRel w s' (out ++ [x]) (.slice (some ⟨gt, 0, none⟩) k ct) v' w' := by
        refine ⟨(HPOP.out.keep HB1.out).kept hg2 (fun k' e => fun h => HR.out.ne k' e h), RowT.step rfl HDO.out HKU.out (by rw [HXr.out, HXt.out]; exact ho), ?_, (HR.out.bel.trans (HB1.out.mono hsz)).grown hg2 (by simp; omega) (fun k' e => (HOO.out.lt k' e).1)⟩
        intro k' e
        rcases hat' with h | ⟨j, h, hj⟩
        · rw [h]; exact HR.out.ne k' e
        · rw [h]; intro h2; cases h2; have : gt = k' := (by simpa [Value.ownBlock] using e); omega
      have hbx : w'.heap[wo.heap.size]? = some (.cells #[.int .i64 r, .int .i64 tm, .slice au q cu] 31 (0, 0)) := by
        rw [hg2.block _ (by simp) (fun e => by have := (HOO.out.lt _ e.symm).2; omega)]
        exact bx_new _ _ _ rfl
      obtain ⟨a5, c5, hv', -, -⟩ := own_len ho
      subst hv'
      have HR' := Lib.hid hR'
      have HBX := Lib.hid hbx
      have hgtw : wo.heap.size < w'.heap.size := (Array.getElem?_eq_some_iff.1 hbx).1
      obtain ⟨y0, y1, y2⟩ := bx_cells3 hbx
      clear ho hg2 hat hat' hR' hbx HOO HDO HPOP HB1 x0 x1 x2
      by_cases hr : r = -1
      · have HE2 := Lib.hid (nodes_leaf HE.out (by rw [HXr.out, hr]))
        have hms : (nodesL s'.reverse).length < gk := by rw [nodesL_rev_cons] at hg; have := nodes_pos x; omega
        subst hr
        go_wp2_with fail
        go_roundg (nodesL s'.reverse).length
        case measure => exact hms
        case rel => exact ⟨s', out ++ [x], HE2, Nat.le_refl _, HR'⟩
      · have HE2 := Lib.hid (nodes_inner HE.out (by rw [HXr.out]; exact hr))
        have hrb : (r == -1) = false := by simpa using hr
        have HQK : Hid (x.kids.length = q) := by have h := HQ.out; rw [List.length_map] at h; exact h
        clear hr
        have HI0 : Hid (InnerRel w (s' ++ (x.kids.drop q).reverse) (out ++ [x]) (.slice (some ⟨gt, 0, none⟩) k ct) (.slice a5 (out.length + 1) c5) wo.heap.size #[.int .i64 r, .int .i64 tm, .slice au q cu] w') := by
          refine ⟨?_, HBX.out, by simp [Value.ownBlock]; omega⟩
          rw [List.drop_of_length_le (by rw [HQK.out]; omega)]
          simpa using HR'.out
        have hkq : ∀ j, (s' ++ (x.kids.drop j).reverse).length ≤ (nodes t).length := by
          intro j
          have h1 := congrArg List.length HE2.out
          have h2 := len_nodesL (s' ++ x.kids.reverse).reverse
          simp at h1 h2 ⊢
          omega
        have HKQ := Lib.hid hkq
        have hms : (nodesL (s' ++ x.kids.reverse).reverse).length < gk := by
          have h1 := congrArg List.length HE.out
          have h2 := congrArg List.length HE2.out
          simp only [List.length_append, List.length_cons, List.length_nil] at h1 h2
          omega
        clear HR' HBX hkq
        go_wp2_with fail
        go_loopg [3, 6] q (fun gg v3 v6 wq => ∃ (j : Nat) (z : Int), v6 = .int .i64 z ∧ Hid (z = (j : Int) - 1) ∧ j ≤ q ∧ j ≤ gg ∧ Hid (InnerRel w (s' ++ (x.kids.drop j).reverse) (out ++ [x]) v3 (.slice a5 (out.length + 1) c5) wo.heap.size #[.int .i64 r, .int .i64 tm, .slice au q cu] wq))
        case atStart => exact ⟨q, _, rfl, rfl, by omega, by omega, HI0⟩
        case round =>
          clear HI0 y0 y1 y2
          obtain ⟨j, z, rfl, HZ, hj, hjg, HI⟩ := hrel
          obtain ⟨y0, y1, y2⟩ := bx_cells3 HI.out.box
          cases j with
          | zero =>
            obtain rfl : z = -1 := by have := HZ.out; omega
            go_wp2_with fail
            go_roundg (nodesL (s' ++ x.kids.reverse).reverse).length
            case measure => exact hms
            case rel => exact ⟨_, out ++ [x], HE2, Nat.le_refl _, HI.out.rel⟩
          | succ i =>
            obtain rfl : z = (i : Int) := by have := HZ.out; omega
            have hiq : i < x.kids.length := by rw [HQK.out]; omega
            obtain ⟨b, off, u, hae, -, hbl, c0, c1, c2, hkid⟩ := HKU.out.kid hiq
            obtain ⟨av, cv, rfl, -, -⟩ := hkid.form
            obtain ⟨nv, HNV⟩ := nameIt (x.kids[i].kids.map Tree.d).length
            rw [HNV.out] at c2 hkid
            have hbel := HI.out.rel.bel
            have e0 := (hbel.cell (p := ⟨b, off + i * 3, none⟩) hbl).trans c0
            have e1 := (hbel.cell (p := ⟨b, off + i * 3 + 1, none⟩) hbl).trans c1
            have e2 := (hbel.cell (p := ⟨b, off + i * 3 + 2, none⟩) hbl).trans c2
            have HST : Hid (s' ++ (x.kids.drop i).reverse = (s' ++ (x.kids.drop (i + 1)).reverse) ++ [x.kids[i]]) := by
              show _ = _
              rw [List.drop_eq_getElem_cons hiq]; simp
            obtain ⟨kid, HKI⟩ := nameIt (x.kids[i]'hiq)
            rw [HKI.out] at e0 e1 hkid HST
            obtain ⟨q0, HQ0⟩ := nameIt kid.rule
            obtain ⟨q1, HQ1⟩ := nameIt kid.term
            rw [HQ0.out] at e0
            rw [HQ1.out] at e1
            obtain ⟨st, HSTN⟩ := nameIt (s' ++ (x.kids.drop (i + 1)).reverse)
            have hstl := HKQ.out (i + 1)
            rw [HSTN.out] at HI HST hstl
            obtain ⟨xs, hot, hdt⟩ := HI.out.rel.ot
            obtain ⟨at', ct', rfl, -, hct'⟩ := own_len hot
            unfold maxLen at hct'
            have hsz2 := hbel.size
            have hlt5 := (Array.getElem?_eq_some_iff.1 HI.out.box).1
            have HKD := Lib.hid hkid
            have HOT := Lib.hid hot
            have HDT := Lib.hid hdt
            subst hae
            clear hkid hot hdt hbel c0 c1 c2
            have i1 : (i : Int) < (q : Int) := by omega
            go_wp2_with (at_builtin; refine wp_app1at elTree rfl _ _ rfl HOT.out rfl rfl (by simp) rfl rfl (by omega) (by unfold maxLen; omega) (by omega) ?_)
            intro v3' w3 ho hg3 hat
            have hI' : InnerRel w (s' ++ (x.kids.drop i).reverse) (out ++ [x]) v3' (.slice a5 (out.length + 1) c5) wo.heap.size #[.int .i64 r, .int .i64 tm, .slice (some ⟨b, off, none⟩) q cu] w3 := by
              rw [HST.out]
              refine ⟨⟨RowT.step rfl HDT.out HKD.out (by rw [HQ0.out, HQ1.out]; exact ho), HI.out.rel.oo.kept hg3 (fun k' e h => HI.out.rel.ne k' h e), ?_, HI.out.rel.bel.grown hg3 (by omega) (fun k' e => (HOT.out.lt k' e).1)⟩, ?_, ?_⟩
              · intro k' e
                rcases hat with h | ⟨j', h, hj'⟩
                · rw [h] at e; exact HI.out.rel.ne k' e
                · rw [h] at e
                  cases e
                  intro h2
                  have := (HI.out.rel.oo.lt _ h2).2
                  omega
              · rw [hg3.block _ hlt5 (fun e => HI.out.apart e.symm)]; exact HI.out.box
              · rcases hat with h | ⟨j', h, hj'⟩
                · rw [h]; exact HI.out.apart
                · rw [h]; intro e; cases e; omega
            have HI' := Lib.hid hI'
            obtain ⟨a6, c6, hv6, -, -⟩ := own_len ho
            subst hv6
            clear ho hg3 hat hI' HKD HOT HDT HI y0 y1 y2 e0 e1 e2
            go_wp2_with fail
            go_roundg i
            case measure => omega
            case rel => exact ⟨i, _, rfl, by show _ = _; go_num, by omega, by omega, HI'⟩
end Go.Proofs.YtfocooehnmpndaaGreat
namespace Go.Proofs.YtfocooehnmpndaaGreat
open Go.RowKit
namespace TF
theorem symCells' {S S' : Nat → Prop} {w w' : World} {sy : List Sym} {xs : List Value} (h : RdAll S w (sy.map Sym.d) xs) : RdAll S' w' (sy.map Sym.d) xs := by
  induction sy generalizing xs with
  | nil => exact h
  | cons s sy ih =>
    obtain ⟨c1, c2, rfl, h1, h2⟩ := h
    obtain rfl := h1.sym
    exact ⟨_, _, rfl, rd_sym s, ih h2⟩
structure SymRel (w : World) (sy : List Sym) (v : Value) (W : World) : Prop where
  own : ∃ xs, W.ownsRow w.heap.size 78 2 v sy.length xs ∧ RdAll AnyB W (sy.map Sym.d) xs
  bel : Below w.heap.size w W
theorem SymRel.step {w : World} {sy : List Sym} {s : Sym} {v v' : Value} {W w1 W' : World} {xs : List Value} (h : SymRel w sy v W) (hb : Below W.heap.size W w1) (ho : W.ownsRow w.heap.size 78 2 v sy.length xs) (hd : RdAll AnyB W (sy.map Sym.d) xs)
    (ho' : W'.ownsRow w.heap.size 78 2 v' (sy.length + 1) (xs ++ [.bool s.term, .int .i64 s.n])) (hg : w1.grownBy W' v.ownBlock) : SymRel w (sy ++ [s]) v' W' := by
  refine ⟨⟨_, by rw [List.length_append]; exact ho', ?_⟩, (h.bel.trans (hb.mono h.bel.size)).grown hg (Nat.le_trans h.bel.size hb.size) (fun k e => (ho.lt k e).1)⟩
  rw [List.map_append]
  exact RdAll.append (symCells' hd) (RdAll.one (rd_sym s))
theorem SymRel.rd {w : World} {sy : List Sym} {v : Value} {W : World} (h : SymRel w sy v W) : Rd AnyB W (.sl (sy.map Sym.d)) [v] := by
  obtain ⟨xs, h1, h2⟩ := h.own
  exact rd_of_own h1 h2 (by simp) (fun _ _ => trivial)
mutual
theorem nodes_le : ∀ (t x : Tree), x ∈ nodes t → (nodes x).length ≤ (nodes t).length
  | .node r tm ks, x, hx => by
    rw [nodes] at hx
    rcases List.mem_cons.1 hx with rfl | hx
    · exact Nat.le_refl _
    · rw [nodes]
      by_cases h : r = -1
      · rw [if_pos h] at hx; simp at hx
      · rw [if_neg h] at hx ⊢
        have := nodes_leL ks x hx
        simp; omega
theorem nodes_leL : ∀ (ks : List Tree) (x : Tree), x ∈ nodesL ks → (nodes x).length ≤ (nodesL ks).length
  | [], x, hx => by simp [nodesL] at hx
  | y :: ks, x, hx => by
    rw [nodesL] at hx ⊢
    rw [List.length_append]
    rcases List.mem_append.1 hx with h | h
    · have := nodes_le y x h; omega
    · have := nodes_leL ks x h; omega
end
theorem kids_le {t x : Tree} (h : x ∈ nodes t) (hr : x.rule ≠ -1) : x.kids.length ≤ (nodes t).length := by
  have h1 := nodes_le t x h
  rw [nodes_eq x] at h1
  have h2 := len_nodesL x.kids
  simp [kidsOf, hr] at h1
  omega
theorem refNode_leaf {g : Gram} {x : Tree} (hl : (label g x).isSome = true) (hr : x.rule = -1) : refNode g x = true := by simp [refNode, hl, hr]
theorem refNode_none {g : Gram} {x : Tree} (hl : (label g x).isSome = false) : refNode g x = false := by simp [refNode, hl]
theorem refNode_kid {g : Gram} {x k : Tree} (hr : x.rule ≠ -1) (hk : k ∈ x.kids) (hl : (label g k).isSome = false) : refNode g x = false := by
  have h : (x.kids.all fun k => (label g k).isSome) = false := List.all_eq_false.2 ⟨k, hk, by simp [hl]⟩
  simp [refNode, hr, h]
theorem map_labS {g : Gram} {ks : List Tree} (h : ∀ k ∈ ks, (label g k).isSome = true) : ks.map (label g) = (ks.map (labS g)).map some := by
  rw [List.map_map]
  refine List.map_congr_left fun k hk => ?_
  obtain ⟨s, hs⟩ := Option.isSome_iff_exists.1 (h k hk)
  simp [labS, hs]
theorem refNode_inner {g : Gram} {x : Tree} {j : Nat} (hl : (label g x).isSome = true) (hr : x.rule = j) (hj : j < g.rules.length) (hk : ∀ k ∈ x.kids, (label g k).isSome = true) : refNode g x = decide (x.kids.map (labS g) = (g.rules[j]'hj).right) := by
  have h1 : (x.kids.all fun k => (label g k).isSome) = true := List.all_eq_true.2 hk
  have h2 : ¬ x.rule = -1 := by omega
  have h3 : g.rules[x.rule.toNat]? = some g.rules[j] := by rw [hr]; simp [hj]
  unfold refNode
  rw [hl, h1, h3, map_labS hk]
  simp only [h2, decide_false, Bool.true_and, Bool.false_or]
  rw [decide_eq_decide]
  exact ⟨fun h => (List.map_inj_right (fun a b h => Option.some.inj h)).1 h, fun h => by rw [h]⟩
theorem label_rule {g : Gram} {x : Tree} (hl : (label g x).isSome = true) (hr : x.rule ≠ -1) : ∃ j : Nat, x.rule = j ∧ j < g.rules.length := by
  obtain ⟨s, hs⟩ := Option.isSome_iff_exists.1 hl
  obtain ⟨-, h1, h2⟩ := label_root hs
  exact ⟨x.rule.toNat, by omega, by omega⟩
def refFault (g : Gram) (t : Tree) : Int := if 5000 < (nodes t).length then 2 else if (nodes t).all (refNode g) then 0 else 3
set_option maxHeartbeats 4000000 in
set_option maxRecDepth 100000 in
theorem treeFaultE (g : Gram) (ar : Option Addr) (cr : Nat) (t : Tree) (at' : Option Addr) (ct : Nat) (w : World) (hr : Rd AnyB w (.sl (g.rules.map Rule.d)) [.slice ar g.rules.length cr]) (hk : Rd AnyB w (.sl (t.kids.map Tree.d)) [.slice at' t.kids.length ct]) (hN : (nodes t).length ≤ 1099511627776) :
    Calls Tryz.prog 33 #[.agg #[.int .i64 g.terms, .int .i64 g.nons, .int .i64 g.start, .slice ar g.rules.length cr], .agg #[.int .i64 t.rule, .int .i64 t.term, .slice at' t.kids.length ct]] w fun e w' => e = .returned (.int .i64 (refFault g t)) ∧ Below w.heap.size w w' := by
  have hbs := hr.bounds.2
  unfold maxLen at hbs
  obtain ⟨hc1, hc2⟩ := hbs
  obtain ⟨w0, HW0⟩ := nameIt ((w.alloc (.cells #[.int .i64 g.terms, .int .i64 g.nons, .int .i64 g.start, .slice ar g.rules.length cr] 24)).alloc (.cells #[.int .i64 t.rule, .int .i64 t.term, .slice at' t.kids.length ct] 31))
  have hb0 : Below w.heap.size w w0 := by rw [← HW0.out]; exact ((Below.refl _ _).alloc (Nat.le_refl _) _).alloc (by simp) _
  have X1 : Hid (w0.heap[w.heap.size]? = some (.cells #[.int .i64 g.terms, .int .i64 g.nons, .int .i64 g.start, .slice ar g.rules.length cr] 24 (0, 0))) := by
    rw [← HW0.out]; exact bx_keep (bx_new _ _ _ rfl) ((Below.refl _ _).alloc (Nat.le_refl _) _)
  have X2 : Hid (w0.heap[w.heap.size + 1]? = some (.cells #[.int .i64 t.rule, .int .i64 t.term, .slice at' t.kids.length ct] 31 (0, 0))) := by
    rw [← HW0.out]; exact bx_new _ _ _ (by simp)
  have C1 := Lib.hid (nodesE t _ w0 (hk.below hb0) hN)
  have HR := Lib.hid (hr.below hb0)
  have CL := Lib.hid (fun (x : Tree) (ax : Option Addr) (cx : Nat) W (hb : Below w0.heap.size w0 W) => labelE g ar cr x ax cx W (HR.out.below hb))
  have HB0 := Lib.hid hb0
  obtain ⟨B, HBn⟩ := nameIt (refFault g t)
  obtain ⟨gt, HGT⟩ := nameIt g.terms
  obtain ⟨gn, HGN⟩ := nameIt g.nons
  obtain ⟨gs, HGS⟩ := nameIt g.start
  obtain ⟨R, HKn⟩ := nameIt g.rules
  obtain ⟨r, HRr⟩ := nameIt t.rule
  obtain ⟨tm, HRt⟩ := nameIt t.term
  obtain ⟨m, HMn⟩ := nameIt t.kids.length
  rw [HGT.out, HGN.out, HGS.out, HKn.out, HRr.out, HRt.out, HMn.out] at HW0
  rw [HGT.out, HGN.out, HGS.out, HKn.out] at X1
  rw [HRr.out, HRt.out, HMn.out] at X2
  rw [HRr.out, HRt.out, HMn.out] at C1
  rw [HKn.out] at hc1 HR
  rw [HGT.out, HGN.out, HGS.out, HKn.out] at CL
  rw [HGT.out, HGN.out, HGS.out, HKn.out, HRr.out, HRt.out, HMn.out, HBn.out]
  obtain ⟨x0, x1, x2, x3, y0, y1, y2⟩ := cells7 (Below.refl w0.heap.size w0) X1.out X2.out
  clear hr hk hb0
  go_enter Tryz.func33, Tryz.ntmps33
  go_upto_region 1 with fail
  rw [HW0.out]
  go_wp2_with fail
  refine C1.out.mono ?_
  rintro e w1 ⟨v, rfl, hrd, hb1⟩
  obtain ⟨al, cl, rfl, -, -⟩ := hrd.form
  rw [List.length_map] at hrd ⊢
  have hcl := hrd.bounds.2
  unfold maxLen at hcl
  obtain ⟨hcl1, hcl2⟩ := hcl
  have HBV : Hid (B = if 5000 < (nodes t).length then 2 else if (nodes t).all (refNode g) then 0 else 3) := HBn.out.symm
  obtain ⟨L, HL⟩ := nameIt (nodes t)
  rw [HL.out] at hrd hcl1 HBV hN
  rw [HL.out]
  have HRD := Lib.hid hrd
  have HB1 := Lib.hid hb1
  have HBB := Lib.hid (HB0.out.trans (hb1.mono HB0.out.size))
  clear hrd hb1 x0 x1 x2 x3 y0 y1 y2 C1
  by_cases hbig : 5000 < L.length
  · have hbig' : (5000 : Int) < (L.length : Int) := by omega
    obtain rfl : B = 2 := by rw [HBV.out, if_pos hbig]
    go_wp2_with fail
    go_ret
    exact ⟨rfl, HBB.out⟩
  · have hbig' : ¬ (5000 : Int) < (L.length : Int) := by omega
    have HBA : Hid (B = if L.all (refNode g) then 0 else 3) := by show _ = _; rw [HBV.out, if_neg hbig]
    have HBAD : Hid (∀ i (h : i < L.length), refNode g L[i] = false → B = 3) := by
      intro i h hb
      rw [HBA.out, if_neg]
      intro ha
      have := List.all_eq_true.1 ha _ (List.getElem_mem h)
      rw [hb] at this
      exact absurd this (by decide)
    clear hbig
    go_wp2_with fail
    go_loopg [22] L.length (fun gg v22 wr => ∃ i : Nat, i ≤ L.length ∧ L.length - i ≤ gg ∧ v22 = .int .i64 i ∧ Hid (Below w1.heap.size w1 wr) ∧ Hid (∀ j (h : j < L.length), j < i → refNode g L[j] = true))
    case atStart => exact ⟨0, by omega, by omega, rfl, Below.refl _ _, fun j _ hj => by omega⟩
    case round =>
      obtain ⟨i, hi, hg, rfl, HB, HN⟩ := hrel
      obtain ⟨wo, rfl⟩ : ∃ wo : World, wo = wr := ⟨_, rfl⟩
      by_cases hlt : i < L.length
      · have hlt' : (i : Int) < (L.length : Int) := by omega
        obtain ⟨b, off, v, hae, -, hbl, c0, c1, c2, hkid⟩ := (HRD.out.below HB.out).kid hlt
        obtain ⟨ak, ck, rfl, -, -⟩ := hkid.form
        rw [List.length_map] at c2 hkid
        have hcx := hkid.bounds.2
        unfold maxLen at hcx
        obtain ⟨hcx1, hcx2⟩ := hcx
        have HBAD1 := Lib.hid (HBAD.out i hlt)
        have HIN := Lib.hid (HN.out)
        obtain ⟨x, HX⟩ := nameIt (L[i]'hlt)
        rw [HX.out] at c0 c1 c2 hkid HBAD1 hcx1
        obtain ⟨w4, HW4⟩ := nameIt (wo.alloc (.cells #[.int .i64 x.rule, .int .i64 x.term, .slice ak x.kids.length ck] 31))
        have hb4 : Below wo.heap.size wo w4 := by rw [← HW4.out]; exact (Below.refl _ _).alloc (Nat.le_refl _) _
        have HB4 := Lib.hid (HB1.out.trans ((HB.out.trans (hb4.mono HB.out.size)).mono HB1.out.size))
        have X4 : Hid (w4.heap[wo.heap.size]? = some (.cells #[.int .i64 x.rule, .int .i64 x.term, .slice ak x.kids.length ck] 31 (0, 0))) := by rw [← HW4.out]; exact bx_new _ _ _ rfl
        have X1' := Lib.hid (bx_keep X1.out HB4.out)
        have HKD := Lib.hid (hkid.below hb4)
        have CX := Lib.hid (CL.out x ak ck w4 HB4.out)
        obtain ⟨S, HS⟩ := nameIt (labS g x)
        obtain ⟨q, HQ⟩ := nameIt (label g x).isSome
        obtain ⟨xr, HXr⟩ := nameIt x.rule
        obtain ⟨xt, HXt⟩ := nameIt x.term
        obtain ⟨K, HK⟩ := nameIt x.kids
        rw [HXr.out, HXt.out, HK.out] at X4 HW4
        rw [HXr.out, HXt.out, HK.out, HS.out, HQ.out] at CX
        rw [HXr.out] at c0
        rw [HXt.out] at c1
        rw [HK.out] at c2 HKD hcx1
        obtain ⟨x0, x1, x2, x3, y0, y1, y2⟩ := cells7 (Below.refl _ w4) X1'.out X4.out
        have hl4 : wo.heap.size < w4.heap.size := (Array.getElem?_eq_some_iff.1 X4.out).1
        have hl1 : w.heap.size < w4.heap.size := (Array.getElem?_eq_some_iff.1 X1'.out).1
        obtain ⟨S0, HS0⟩ := nameIt S.term
        obtain ⟨S1, HS1⟩ := nameIt S.n
        rw [HS0.out, HS1.out] at CX
        have HBW := Lib.hid (HBB.out.trans ((HB.out.trans (hb4.mono HB.out.size)).mono HBB.out.size))
        have HB14 := Lib.hid (HB.out.trans (hb4.mono HB.out.size))
        subst hae
        clear hkid hb4
        go_upto_region 7 with fail
        rw [HW4.out]
        go_wp2_with fail
        refine CX.out.mono ?_
        rintro e w5 ⟨rfl, hb5⟩
        obtain ⟨w6, HW6⟩ := nameIt (w5.alloc (.cells #[.bool S0, .int .i64 S1] 78))
        have hb6 : Below w4.heap.size w4 w6 := by rw [← HW6.out]; exact hb5.trans ((Below.refl _ _).alloc hb5.size _)
        have HB6 := Lib.hid hb6
        have HB16 := Lib.hid (HB14.out.trans (hb6.mono HB14.out.size))
        have HBW6 := Lib.hid (HBW.out.trans (hb6.mono HBW.out.size))
        have X16 := Lib.hid (bx_keep X1'.out hb6)
        have X46 := Lib.hid (bx_keep X4.out hb6)
        clear x0 x1 x2 x3 y0 y1 y2 c0 c1 c2 hl4 hl1 hb5
        obtain ⟨x0, x1, x2, x3, y0, y1, y2⟩ := cells7 (Below.refl _ w6) X16.out X46.out
        clear hb6
        cases q with
        | false =>
          obtain rfl : B = 3 := HBAD1.out (refNode_none HQ.out)
          go_upto_region 8 with fail
          rw [HW6.out]
          go_wp2_with fail
          go_ret
          exact ⟨rfl, HBW6.out⟩
        | true =>
          by_cases hxr : xr = -1
          · have HOK : Hid (refNode g x = true) := refNode_leaf HQ.out (by rw [HXr.out, hxr])
            have HN2 : Hid (∀ j (h : j < L.length), j < i + 1 → refNode g L[j] = true) := by
              intro j h hj
              by_cases e : j = i
              · subst e; rw [HX.out]; exact HOK.out
              · exact HIN.out j h (by omega)
            subst hxr
            go_upto_region 8 with fail
            rw [HW6.out]
            go_wp2_with fail
            go_roundg (L.length - (i + 1))
            case measure => omega
            case rel => exact ⟨i + 1, by omega, by omega, by go_num, HB16, HN2⟩
          · have hxb : (xr == -1) = false := by simpa using hxr
            have HXNE : Hid (x.rule ≠ -1) := by show _ ≠ _; rw [HXr.out]; exact hxr
            obtain ⟨j0, hj0, hj1⟩ := label_rule HQ.out HXNE.out
            rw [HXr.out] at hj0
            subst hj0
            have HKE : Hid (x.kids = K) := HK
            have hKL : K.length ≤ L.length := by
              have := kids_le (t := t) (x := x) (by rw [HL.out, ← HX.out]; exact List.getElem_mem hlt) HXNE.out
              rwa [HL.out, HKE.out] at this
            rw [HKn.out] at hj1
            have HJ1 := Lib.hid hj1
            clear hxr hj1
            go_upto_region 8 with fail
            rw [HW6.out]
            go_wp2_with fail
            go_loopg [10, 40] K.length (fun gg v10 v40 wr => ∃ j : Nat, j ≤ K.length ∧ K.length - j ≤ gg ∧ v40 = .int .i64 j ∧ Hid (SymRel w6 ((K.take j).map (labS g)) v10 wr) ∧ Hid (∀ k ∈ K.take j, (label g k).isSome = true))
            case atStart => exact ⟨0, by omega, by omega, rfl, ⟨⟨[], by simpa using World.ownsRow_nil _ _ _ _, by simp [RdAll]⟩, Below.refl _ _⟩, fun k hk => absurd hk (by simp)⟩
            case round =>
              obtain ⟨j, hj, hg2, rfl, HRL, HAL⟩ := hrel
              obtain ⟨wq, rfl⟩ : ∃ wq : World, wq = wr := ⟨_, rfl⟩
              obtain ⟨xs, ho, hd⟩ := HRL.out.own
              have hl0 : ((K.take j).map (labS g)).length = j := by simp; omega
              obtain ⟨a10, c10, hv10, h101, h102⟩ := own_len ho
              rw [hl0] at hv10 h101
              subst hv10
              unfold maxLen at h102
              have hbq := HRL.out.bel
              clear x0 x1 x2 x3 y0 y1 y2
              by_cases hjl : j < K.length
              · have hjl' : (j : Int) < (K.length : Int) := by omega
                have HO := Lib.hid ho
                have HD := Lib.hid hd
                have HL0 := Lib.hid hl0
                obtain ⟨b, off, v, hae, -, hbl, c0, c1, c2, hkid⟩ := ((HKD.out.below HB6.out).below hbq).kid hjl
                obtain ⟨ay, cy, rfl, -, -⟩ := hkid.form
                rw [List.length_map] at c2
                obtain ⟨y, HY⟩ := nameIt (K[j]'hjl)
                rw [HY.out] at c0 c1 c2
                obtain ⟨w7, HW7⟩ := nameIt (wq.alloc (.cells #[.int .i64 y.rule, .int .i64 y.term, .slice ay y.kids.length cy] 31))
                have hb7 : Below wq.heap.size wq w7 := by rw [← HW7.out]; exact (Below.refl _ _).alloc (Nat.le_refl _) _
                have HB7 := Lib.hid (HRL.out.bel.trans (hb7.mono hbq.size))
                have X7 : Hid (w7.heap[wq.heap.size]? = some (.cells #[.int .i64 y.rule, .int .i64 y.term, .slice ay y.kids.length cy] 31 (0, 0))) := by rw [← HW7.out]; exact bx_new _ _ _ rfl
                have X17 := Lib.hid (bx_keep X16.out HB7.out)
                have CY := Lib.hid (CL.out y ay cy w7 (HB4.out.trans ((HB6.out.trans (HB7.out.mono HB6.out.size)).mono HB4.out.size)))
                obtain ⟨T, HT⟩ := nameIt (labS g y)
                obtain ⟨p, HP⟩ := nameIt (label g y).isSome
                obtain ⟨yr, HYr⟩ := nameIt y.rule
                obtain ⟨yt, HYt⟩ := nameIt y.term
                obtain ⟨yk, HYk⟩ := nameIt y.kids.length
                rw [HYr.out, HYt.out, HYk.out] at X7 HW7
                rw [HYr.out, HYt.out, HYk.out, HT.out, HP.out] at CY
                rw [HYr.out] at c0
                rw [HYt.out] at c1
                rw [HYk.out] at c2
                obtain ⟨T0, HT0⟩ := nameIt T.term
                obtain ⟨T1, HT1⟩ := nameIt T.n
                rw [HT0.out, HT1.out] at CY
                obtain ⟨x0, x1, x2, x3, y0, y1, y2⟩ := cells7 (Below.refl _ w7) X17.out X7.out
                have HB7q := Lib.hid hb7
                have hsq := hbq.size
                subst hae
                clear hkid hb7 ho hd hl0
                go_upto_region 15 with fail
                rw [HW7.out]
                go_wp2_with fail
                refine CY.out.mono ?_
                rintro e w8 ⟨rfl, hb8⟩
                obtain ⟨w9, HW9⟩ := nameIt (w8.alloc (.cells #[.bool T0, .int .i64 T1] 78))
                have hb9 : Below w7.heap.size w7 w9 := by rw [← HW9.out]; exact hb8.trans ((Below.refl _ _).alloc hb8.size _)
                have hbq9 : Below wq.heap.size wq w9 := HB7q.out.trans (hb9.mono HB7q.out.size)
                have HB9 := Lib.hid hbq9
                have X9 : Hid (w9.heap[w8.heap.size]? = some (.cells #[.bool T0, .int .i64 T1] 78 (0, 0))) := by rw [← HW9.out]; exact bx_new _ _ _ rfl
                have hs9 := hbq9.size
                clear x0 x1 x2 x3 y0 y1 y2 c0 c1 c2 hb8 hb9 hbq9
                cases p with
                | false =>
                  obtain rfl : B = 3 := HBAD1.out (refNode_kid HXNE.out (by rw [HKE.out, ← HY.out]; exact List.getElem_mem hjl) HP.out)
                  go_upto_region 16 with fail
                  rw [HW9.out]
                  go_wp2_with fail
                  go_ret
                  exact ⟨rfl, HBW6.out.trans ((HRL.out.bel.trans (HB9.out.mono HRL.out.bel.size)).mono HBW6.out.size)⟩
                | true =>
                  have HO1 : Hid (w9.ownsRow w6.heap.size 78 2 (.slice a10 j c10) j xs) := by have h := own_keep HO.out HB9.out; rw [HL0.out] at h; exact h
                  obtain ⟨z0, z1⟩ := bx_cells2 X9.out
                  have HAL2 : Hid (∀ k ∈ K.take (j + 1), (label g k).isSome = true) := by
                    intro k hk
                    rw [List.take_succ_eq_append_getElem hjl] at hk
                    rcases List.mem_append.1 hk with h | h
                    · exact HAL.out k h
                    · simp at h; subst h; rw [HY.out]; exact HP.out
                  go_upto_region 16 with fail
                  rw [HW9.out]
                  go_wp2_with (at_builtin; refine wp_app1at elSym rfl _ _ rfl HO1.out rfl rfl rfl rfl rfl (by omega) (by unfold maxLen; omega) (by omega) ?_)
                  intro v' w10 ho2 hg10 hat2
                  have HR2 : Hid (SymRel w6 ((K.take (j + 1)).map (labS g)) v' w10) := by
                    rw [List.take_succ_eq_append_getElem hjl, List.map_append]
                    have h1 := HRL.out.step (s := T) HB9.out HO.out HD.out (by rw [HL0.out, HT0.out, HT1.out]; exact ho2) (by rw [HL0.out] at *; exact hg10)
                    rw [← HT.out, ← HY.out] at h1
                    exact h1
                  obtain ⟨a', c', rfl, -, -⟩ := own_len ho2
                  clear ho2 hg10 hat2 z0 z1
                  go_wp2_with fail
                  go_roundg (K.length - (j + 1))
                  case measure => omega
                  case rel => exact ⟨j + 1, by omega, by omega, by go_num, HR2, HAL2⟩
              · have hjl' : ¬ (j : Int) < (K.length : Int) := by omega
                obtain rfl : j = K.length := by omega
                have hsy := HRL.out.rd
                rw [List.take_length] at hsy hl0
                have hal := HAL.out
                rw [List.take_length] at hal
                obtain ⟨br, orr, vr, hae, -, hbr, -, e1, hkr⟩ := (HR.out.below (HB4.out.trans ((HB6.out.trans (hbq.mono HB6.out.size)).mono HB4.out.size))).rule_at HJ1.out
                obtain ⟨av, cv, rfl, -, -⟩ := hkr.form
                rw [List.length_map] at e1 hkr
                have HRI := refNode_inner HQ.out (j := j0) HXr.out (by rw [HKn.out]; exact HJ1.out) (by rw [HKE.out]; exact hal)
                rw [HKE.out] at HRI
                simp only [HKn.out] at HRI
                have CE := equalSyms a10 av c10 cv (K.map (labS g)) (R[j0]'HJ1.out).right wq (by rw [hl0]; exact hsy) hkr
                rw [← HRI, hl0] at CE
                obtain ⟨z, HZ⟩ := nameIt (refNode g x)
                obtain ⟨rn, HRN⟩ := nameIt (R[j0]'HJ1.out).right.length
                rw [HZ.out, HRN.out] at CE
                rw [HRN.out] at e1
                rw [HZ.out] at HBAD1
                have HCE := Lib.hid CE
                have hjr : (j0 : Int) < (R.length : Int) := by have := HJ1.out; omega
                have hjr2 : j0 < R.length := HJ1.out
                have hjr0 : (0 : Int) ≤ (j0 : Int) := by omega
                obtain ⟨x0, x1, x2, x3, y0, y1, y2⟩ := cells7 hbq X16.out X46.out
                have HBq := Lib.hid hbq
                subst hae
                clear hkr hsy CE HRI ho hd hbq hal
                go_wp2_with fail
                refine HCE.out.mono ?_
                rintro e w11 ⟨rfl, hb11⟩
                have HB11 := Lib.hid (HBq.out.trans (hb11.mono HBq.out.size))
                clear hb11 x0 x1 x2 x3 y0 y1 y2 e1
                cases z with
                | false =>
                  obtain rfl : B = 3 := HBAD1.out rfl
                  go_wp2_with fail
                  go_ret
                  exact ⟨rfl, HBW6.out.trans (HB11.out.mono HBW6.out.size)⟩
                | true =>
                  have HN2 : Hid (∀ j (h : j < L.length), j < i + 1 → refNode g L[j] = true) := by
                    intro j h hj
                    by_cases e : j = i
                    · subst e; rw [HX.out]; exact HZ.out
                    · exact HIN.out j h (by omega)
                  go_wp2_with fail
                  go_roundg (L.length - (i + 1))
                  case measure => omega
                  case rel => exact ⟨i + 1, by omega, by omega, by go_num, HB16.out.trans (HB11.out.mono HB16.out.size), HN2⟩
      · have hlt' : ¬ (i : Int) < (L.length : Int) := by omega
        obtain rfl : B = 0 := by
          rw [HBA.out, if_pos]
          rw [List.all_eq_true]
          intro y hy
          obtain ⟨j, hj, rfl⟩ := List.mem_iff_getElem.1 hy
          exact HN.out j hj (by omega)
        go_wp2_with fail
        go_ret
        exact ⟨rfl, HBB.out.trans (HB.out.mono HBB.out.size)⟩
end TF
end Go.Proofs.YtfocooehnmpndaaGreat
namespace Go.Proofs.YtfocooehnmpndaaGreat
open Go.RowKit
mutual
theorem nodes_size : ∀ t : Tree, (nodes t).length ≤ t.size
  | .node r tm ks => by
    have := nodesL_size ks
    rw [nodes, Tree.size]
    by_cases h : r = -1 <;> simp [h] <;> omega
theorem nodesL_size : ∀ ks : List Tree, (nodesL ks).length ≤ sizeL ks
  | [] => by simp [nodesL, sizeL]
  | k :: ks => by
    have := nodes_size k
    have := nodesL_size ks
    simp [nodesL, sizeL]; omega
end
def twoT : Tree := .node 0 0 [.node 1 0 [.node (-1) 0 []], .node (-1) 0 []]
def ReadPost (t : Tree) (w : World) (e : Ending) (w' : World) : Prop := ∃ v, e = .returned (.agg #[.int .i64 t.rule, .int .i64 t.term, v]) ∧ Rd AnyB w' (.sl (t.kids.map Tree.d)) [v] ∧ Below w.heap.size w w'
set_option maxHeartbeats 1000000 in
theorem twoE (w : World) : Calls Tryz.prog 9 #[] w (ReadPost twoT w) := by
  go_enter Tryz.func9, Tryz.ntmps9
  go_wp2_with fail
  refine bodyPost_ret (v := .agg #[.int .i64 0, .int .i64 0, .slice (some ⟨w.heap.size + 1 + 1 + 1, 0, none⟩) 2 2]) (by simp [results, Tryz.results9, go_sem]) rfl ?_
  refine ⟨_, rfl, ?_, ((((Below.refl _ _).alloc (Nat.le_refl _) _).alloc (by simp) _).alloc (by simp; omega) _).alloc (by simp; omega) _⟩
  have l : ∀ W, Rd AnyB W (Tree.node (-1) 0 []).d [.int .i64 (-1), .int .i64 0, .slice none 0 0] := fun W => rd_tree (t := .node (-1) 0 []) (rd_nil _ _)
  refine rd_of_own (own_of_block (bx_new _ _ _ (by simp)) (n := 2) (size := 3) rfl (by simp [maxLen])) ?_ rfl (fun _ _ => trivial)
  refine ⟨[.int .i64 1, .int .i64 0, .slice (some ⟨w.heap.size + 1 + 1, 0, none⟩) 1 1], [.int .i64 (-1), .int .i64 0, .slice none 0 0], rfl, ?_, RdAll.one (l _)⟩
  refine rd_tree (t := .node 1 0 [.node (-1) 0 []]) ?_
  exact rd_of_own (own_of_block (bx_keep (bx_new _ _ _ (by simp)) ((Below.refl _ _).alloc (Nat.le_refl _) _)) (n := 1) (size := 3) rfl (by simp [maxLen])) (RdAll.one (l _)) rfl (fun _ _ => trivial)
end Go.Proofs.YtfocooehnmpndaaGreat
namespace Go.Proofs.YtfocooehnmpndaaGreat
open Go.RowKit
theorem list_two : checkT listG twoT = 0 := by decide
end Go.Proofs.YtfocooehnmpndaaGreat
namespace Go.Proofs.YtfocooehnmpndaaGreat
open Go.RowKit
namespace TreeChecks
theorem check_ref (g : Gram) (t : Tree) : checkT g t = if checkG g = 0 then TF.refFault g t else checkG g := by
  unfold checkT TF.refFault
  rw [valid_ref]
  by_cases h : checkG g = 0
  · rw [if_neg (by simp [h]), if_pos h]
  · rw [if_pos h, if_neg h]
theorem sym_ref (g : Gram) (t : Tree) : symOf g t = if checkT g t = 0 then labS g t else ⟨false, 0⟩ := by
  unfold symOf
  by_cases h : checkT g t = 0
  · rw [if_pos h, if_pos h]
    have hv : validT g t = true := by
      unfold checkT at h
      by_cases h1 : checkG g = 0
      · rw [if_neg (by simp [h1])] at h
        by_cases h2 : 5000 < (nodes t).length
        · rw [if_pos h2] at h; simp at h
        · rw [if_neg h2] at h
          cases hv : validT g t
          · rw [hv] at h; simp at h
          · rfl
      · rw [if_pos h1] at h; exact absurd h h1
    have hn : nodeOk g t = true := List.all_eq_true.1 hv t (by rw [nodes_eq]; exact List.mem_cons_self)
    rw [labS, nodeOk_label hn]
    rfl
  · rw [if_neg h, if_neg h]
end TreeChecks
end Go.Proofs.YtfocooehnmpndaaGreat
namespace Go.Proofs.YtfocooehnmpndaaGreat
open Go.RowKit
namespace Dm
open At (Ref okEqK checkS)
noncomputable def chkD (g : Gram) (s : At.Sys) (t : Tree) : Int := if checkS g s ≠ 0 then checkS g s else if checkT g t ≠ 0 then checkT g t else if (symOf g t).term = false ∧ (symOf g t).n = g.start then 0 else 1
noncomputable def stF (g : Gram) (t : Tree) : Int := if TF.refFault g t ≠ 0 then TF.refFault g t else if (labS g t).term = false ∧ (labS g t).n = g.start then 0 else 1
theorem chk_want (g : Gram) (s : At.Sys) (t : Tree) : chkD g s t = if checkS g s ≠ 0 then checkS g s else stF g t := by
  unfold chkD
  by_cases h : checkS g s = 0
  · have hg := (sys_parts h).1
    have h1 : checkT g t = TF.refFault g t := by rw [TreeChecks.check_ref, if_pos hg]
    rw [if_neg (show ¬ checkS g s ≠ 0 by simpa using h), if_neg (show ¬ checkS g s ≠ 0 by simpa using h), h1]
    unfold stF
    by_cases h2 : TF.refFault g t = 0
    · rw [TreeChecks.sym_ref, h1, if_pos h2]
    · rw [if_pos h2, if_pos h2]
  · rw [if_pos h, if_pos h]
theorem chk_ok {g : Gram} {s : At.Sys} {t : Tree} (h : chkD g s t = 0) : checkS g s = 0 ∧ validT g t = true ∧ rootS g t = ⟨false, g.start⟩ ∧ (nodes t).length ≤ 5000 := by
  unfold chkD at h
  by_cases h1 : checkS g s = 0
  · rw [if_neg (by simpa using h1)] at h
    by_cases h2 : checkT g t = 0
    · rw [if_neg (by simpa using h2)] at h
      have h3 : (symOf g t).term = false ∧ (symOf g t).n = g.start := by
        by_cases h4 : (symOf g t).term = false ∧ (symOf g t).n = g.start
        · exact h4
        · rw [if_neg h4] at h; simp at h
      have h5 := h2
      unfold checkT at h5
      rw [if_neg (by simpa using (sys_parts h1).1)] at h5
      by_cases h6 : 5000 < (nodes t).length
      · rw [if_pos h6] at h5; simp at h5
      · rw [if_neg h6] at h5
        have hv : validT g t = true := by
          cases hv : validT g t
          · rw [hv] at h5; simp at h5
          · rfl
        unfold symOf at h3
        rw [if_pos h2] at h3
        refine ⟨h1, hv, ?_, by omega⟩
        have e : ∀ x : Sym, x.term = false → x.n = g.start → x = ⟨false, g.start⟩ := by rintro ⟨_, _⟩ rfl rfl; rfl
        exact e _ h3.1 h3.2
    · rw [if_pos (by simpa using h2)] at h; exact absurd h h2
  · rw [if_pos (by simpa using h1)] at h; exact absurd h h1
mutual
theorem tsz_nodes {g : Gram} : ∀ (t : Tree), ((nodes t).all (nodeOk g)) = true → tsz t = (nodes t).length
  | .node r tm ks, h => by
    rw [nodes] at h ⊢
    rw [tsz]
    by_cases hr : r = -1
    · have h1 := List.all_eq_true.1 h (.node r tm ks) List.mem_cons_self
      unfold nodeOk at h1
      rw [if_pos (show (Tree.node r tm ks).rule = -1 from hr)] at h1
      simp at h1
      have hk : ks = [] := h1.2.2
      subst hk
      simp [tszL, nodesL]
    · rw [if_neg hr] at h ⊢
      rw [List.length_cons, tszL_nodes ks (List.all_eq_true.2 fun x hx => List.all_eq_true.1 h x (List.mem_cons_of_mem _ hx))]
      omega
theorem tszL_nodes {g : Gram} : ∀ (ks : List Tree), ((nodesL ks).all (nodeOk g)) = true → tszL ks = (nodesL ks).length
  | [], _ => by simp [tszL, nodesL]
  | k :: ks, h => by
    rw [nodesL] at h ⊢
    rw [List.all_append, Bool.and_eq_true] at h
    rw [tszL, List.length_append, tsz_nodes k h.1, tszL_nodes ks h.2]
end
set_option maxHeartbeats 4000000 in
set_option maxRecDepth 100000 in
theorem checkDE (g : Gram) (s : At.Sys) (T : Tree) (hok : ∀ q ∈ s.eqs, okEqK q) (hN : (nodes T).length ≤ 1099511627776) (ra aa qa ta : Option Addr) (rc ac qc tc : Nat) (W : World)
    (hr : Rd AnyB W (.sl (g.rules.map Rule.d)) [.slice ra g.rules.length rc]) (ha : Rd AnyB W (.sl (s.attrs.map At.Attr.d)) [.slice aa s.attrs.length ac]) (hq : Rd AnyB W (.sl (s.eqs.map At.Eqn.d)) [.slice qa s.eqs.length qc]) (ht : Rd AnyB W (.sl (T.kids.map Tree.d)) [.slice ta T.kids.length tc]) :
    Calls Tryz.prog 25 #[.agg #[.int .i64 g.terms, .int .i64 g.nons, .int .i64 g.start, .slice ra g.rules.length rc], .agg #[.slice aa s.attrs.length ac, .slice qa s.eqs.length qc], .agg #[.int .i64 T.rule, .int .i64 T.term, .slice ta T.kids.length tc]] W fun e w' => e = .returned (.int .i64 (chkD g s T)) ∧ Below W.heap.size W w' := by
  obtain ⟨w0, HW0⟩ := nameIt (((W.alloc (.cells #[.int .i64 g.terms, .int .i64 g.nons, .int .i64 g.start, .slice ra g.rules.length rc] 24)).alloc (.cells #[.slice aa s.attrs.length ac, .slice qa s.eqs.length qc] 28)).alloc (.cells #[.int .i64 T.rule, .int .i64 T.term, .slice ta T.kids.length tc] 31))
  have b1 : Below W.heap.size W (W.alloc (.cells #[.int .i64 g.terms, .int .i64 g.nons, .int .i64 g.start, .slice ra g.rules.length rc] 24)) := (Below.refl _ _).alloc (Nat.le_refl _) _
  have b2 := b1.alloc (by simp) (.cells #[.slice aa s.attrs.length ac, .slice qa s.eqs.length qc] 28)
  have hb0 : Below W.heap.size W w0 := by rw [← HW0.out]; exact b2.alloc (by simp; omega) _
  have X0 : Hid (w0.heap[W.heap.size]? = some (.cells #[.int .i64 g.terms, .int .i64 g.nons, .int .i64 g.start, .slice ra g.rules.length rc] 24 (0, 0))) := by
    rw [← HW0.out]; exact bx_keep (bx_keep (bx_new _ _ _ rfl) ((Below.refl _ _).alloc (Nat.le_refl _) _)) ((Below.refl _ _).alloc (Nat.le_refl _) _)
  have X1 : Hid (w0.heap[W.heap.size + 1]? = some (.cells #[.slice aa s.attrs.length ac, .slice qa s.eqs.length qc] 28 (0, 0))) := by
    rw [← HW0.out]; exact bx_keep (bx_new _ _ _ (by simp)) ((Below.refl _ _).alloc (Nat.le_refl _) _)
  have X2 : Hid (w0.heap[W.heap.size + 1 + 1]? = some (.cells #[.int .i64 T.rule, .int .i64 T.term, .slice ta T.kids.length tc] 31 (0, 0))) := by
    rw [← HW0.out]; exact bx_new _ _ _ (by simp)
  have HB0 := Lib.hid hb0
  have CA := Lib.hid (fun (w' : World) (hb : Below W.heap.size W w') => At.attrCheckE g s ra aa qa rc ac qc w' hok (hr.below hb) (ha.below hb) (hq.below hb))
  have CS := Lib.hid (fun (w' : World) (hb : Below W.heap.size W w') => symbolE g ra rc T ta tc w' (hr.below hb) (ht.below hb) hN)
  have HCH : Hid (chkD g s T = if checkS g s ≠ 0 then checkS g s else if checkT g T ≠ 0 then checkT g T else if (symOf g T).term = false ∧ (symOf g T).n = g.start then 0 else 1) := rfl
  obtain ⟨E, HE⟩ := nameIt (checkS g s)
  obtain ⟨F, HF⟩ := nameIt (checkT g T)
  obtain ⟨yt, HYT⟩ := nameIt (symOf g T).term
  obtain ⟨yn, HYN⟩ := nameIt (symOf g T).n
  obtain ⟨Z, HZ⟩ := nameIt (chkD g s T)
  obtain ⟨rl, HRL⟩ := nameIt g.rules.length
  obtain ⟨al, HAL⟩ := nameIt s.attrs.length
  obtain ⟨ql, HQLn⟩ := nameIt s.eqs.length
  obtain ⟨gt, HGT⟩ := nameIt g.terms
  obtain ⟨gn, HGN⟩ := nameIt g.nons
  obtain ⟨gs, HGS⟩ := nameIt g.start
  obtain ⟨tr, HTR⟩ := nameIt T.rule
  obtain ⟨tm, HTM⟩ := nameIt T.term
  obtain ⟨nk, HNK⟩ := nameIt T.kids.length
  rw [HRL.out, HAL.out, HQLn.out, HGT.out, HGN.out, HGS.out, HTR.out, HTM.out, HNK.out, HZ.out]
  rw [HRL.out, HAL.out, HQLn.out, HGT.out, HGN.out, HGS.out, HTR.out, HTM.out, HNK.out] at HW0
  rw [HRL.out, HGT.out, HGN.out, HGS.out] at X0
  rw [HAL.out, HQLn.out] at X1
  rw [HTR.out, HTM.out, HNK.out] at X2
  simp only [HRL.out, HAL.out, HQLn.out, HGT.out, HGN.out, HGS.out, HE.out] at CA
  simp only [HRL.out, HGT.out, HGN.out, HGS.out, HTR.out, HTM.out, HNK.out, HYT.out, HYN.out, HF.out] at CS
  rw [HE.out, HF.out, HYT.out, HYN.out, HGS.out, HZ.out] at HCH
  clear b1 b2 hb0 hr ha hq ht hok hN
  have C0 := Lib.hid (CA.out w0 HB0.out)
  obtain ⟨x0, x1, x2, x3⟩ := bx_cells4 X0.out
  obtain ⟨y0, y1⟩ := bx_cells2 X1.out
  go_enter Tryz.func25, Tryz.ntmps25
  go_upto_region 1 with fail
  rw [HW0.out]
  clear HW0
  go_wp2_with (refine C0.out.mono ?_)
  rintro e1 w1 ⟨rfl, hb1⟩
  have HB1 : Hid (Below W.heap.size W w1) := HB0.out.trans (hb1.mono HB0.out.size)
  have HB01 : Hid (Below w0.heap.size w0 w1) := hb1
  clear hb1 x0 x1 x2 x3 y0 y1 C0
  by_cases hE : E = 0
  · have hE1 : (E != 0) = false := by simpa using hE
    have HC2 : Hid (Z = if F ≠ 0 then F else if yt = false ∧ yn = gs then 0 else 1) := by show _ = _; rw [HCH.out, if_neg (by simpa using hE)]
    have C1 := Lib.hid (CS.out w1 HB1.out)
    obtain ⟨x0, x1, x2, x3⟩ := bx_cells4 (bx_keep X0.out HB01.out)
    obtain ⟨z0, z1, z2⟩ := bx_cells3 (bx_keep X2.out HB01.out)
    clear hE HCH
    go_wp2_with (refine C1.out.mono ?_)
    rintro e2 w2 ⟨rfl, hb2⟩
    have HB2 : Hid (Below W.heap.size W w2) := HB1.out.trans (hb2.mono HB1.out.size)
    have HB02 : Hid (Below w0.heap.size w0 w2) := HB01.out.trans (hb2.mono HB01.out.size)
    clear hb2 x0 x1 x2 x3 z0 z1 z2 C1
    obtain ⟨w3, HW3⟩ := nameIt (w2.alloc (.cells #[.bool yt, .int .i64 yn] 78))
    have hb3 : Below w2.heap.size w2 w3 := by rw [← HW3.out]; exact (Below.refl _ _).alloc (Nat.le_refl _) _
    have X3 : Hid (w3.heap[w2.heap.size]? = some (.cells #[.bool yt, .int .i64 yn] 78 (0, 0))) := by rw [← HW3.out]; exact bx_new _ _ _ rfl
    have HB3 : Hid (Below W.heap.size W w3) := HB2.out.trans (hb3.mono HB2.out.size)
    have HB03 : Hid (Below w0.heap.size w0 w3) := HB02.out.trans (hb3.mono HB02.out.size)
    clear hb3
    by_cases hF : F = 0
    · have hF1 : (F != 0) = false := by simpa using hF
      have HC3 : Hid (Z = if yt = false ∧ yn = gs then 0 else 1) := by show _ = _; rw [HC2.out, if_neg (by simpa using hF)]
      clear hF HC2
      go_upto_region 5 with fail
      rw [HW3.out]
      clear HW3
      have hsn : ∀ w : World, (binOp .neq 78 (.agg #[.bool yt, .int .i64 yn]) (.agg #[.bool false, .int .i64 gs])).run Tryz.prog w = .ok (.bool (!(yt == false && yn == gs))) w := fun w => symNe yt false yn gs w
      have hgn : ∀ x : Aft w3, Calls Tryz.prog 61 #[.int .i64 gs] x.w fun e w' => e = .returned (.agg #[.bool false, .int .i64 gs]) ∧ Below x.w.heap.size x.w w' := fun x => At.gramN gs x.w
      have HGNC := Lib.hid hgn
      obtain ⟨nb, HNB⟩ : ∃ b : Bool, (!(yt == false && yn == gs)) = b := ⟨_, rfl⟩
      rw [HNB] at hsn
      have HNBh := Lib.hid HNB
      obtain ⟨x0, x1, x2, x3⟩ := bx_cells4 (bx_keep X0.out HB03.out)
      obtain ⟨s0, s1⟩ := bx_cells2 X3.out
      have ax2 := aft_cell x2
      have as0 := aft_cell s0
      have as1 := aft_cell s1
      clear x0 x1 x2 x3 s0 s1 hgn HNB
      go_upto_region 7 with fail
      refine wp_region_after (w0 := w3) (by kernel_rfl) (by kernel_rfl) ?_
      repeat (go_big_quiet_step (exact Calls.after (HGNC.out _)))
      refine wpQuiet_nil ?_
      rintro w4 ⟨⟨_, hb4⟩, rfl⟩
      have HB4 : Hid (Below W.heap.size W w4) := HB3.out.trans (hb4.mono HB3.out.size)
      clear hb4 ax2 as0 as1 hsn
      cases nb with
      | true =>
        have HZ1 : Hid (Z = 1) := by
          show _ = _
          rw [HC3.out, if_neg (fun h => by have h2 := HNBh.out; rw [h.1, h.2] at h2; simp at h2)]
        obtain rfl := HZ1.out
        go_wp2_with fail
        go_ret
        exact ⟨rfl, HB4.out⟩
      | false =>
        have HZ1 : Hid (Z = 0) := by
          show _ = _
          rw [HC3.out, if_pos (by have h2 := HNBh.out; simpa using h2)]
        obtain rfl := HZ1.out
        go_wp2_with fail
        go_ret
        exact ⟨rfl, HB4.out⟩
    · have hF1 : (F != 0) = true := by simpa using hF
      have HZ1 : Hid (Z = F) := by show _ = _; rw [HC2.out, if_pos (by simpa using hF)]
      clear hF HC2
      go_upto_region 5 with fail
      rw [HW3.out]
      clear HW3
      obtain rfl := HZ1.out
      go_wp2_with fail
      go_ret
      exact ⟨rfl, HB3.out⟩
  · have hE1 : (E != 0) = true := by simpa using hE
    have HZ1 : Hid (Z = E) := by show _ = _; rw [HCH.out, if_pos (by simpa using hE)]
    clear hE HCH
    obtain rfl := HZ1.out
    go_wp2_with fail
    go_ret
    exact ⟨rfl, HB1.out⟩
end Dm
end Go.Proofs.YtfocooehnmpndaaGreat
