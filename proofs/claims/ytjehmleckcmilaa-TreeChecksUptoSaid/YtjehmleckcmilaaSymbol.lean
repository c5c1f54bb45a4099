/- The contracts of tree.Symbol and of Label. -/
import Derived.Test.YtjehmleckcmilaaValidE
namespace Go.Proofs.Ytjehmleckcmilaa
open Go.RowKit

theorem below_box2 {B b : Nat} {w w' : World} (h : Below B w w') (hb : B ≤ b) (x y : Value) : Below B w ((w'.setCell ⟨b, 0, none⟩ x).setCell ⟨b, 1, none⟩ y) :=
  (h.setCell (p := ⟨b, 0, none⟩) hb x).setCell (p := ⟨b, 1, none⟩) hb y
theorem bx_set2 {w : World} {b : Nat} {x0 x1 : Value} {T : TypeId} (h : w.heap[b]? = some (.cells #[x0, x1] T (0, 0))) (y0 y1 : Value) : ((w.setCell ⟨b, 0, none⟩ y0).setCell ⟨b, 1, none⟩ y1).heap[b]? = some (.cells #[y0, y1] T (0, 0)) := by
  exact bx_set (bx_set h 0 y0) 1 y1
theorem bx_other2 {w : World} {b c : Nat} {o : Obj} (h : w.heap[b]? = some o) (hne : b ≠ c) (y0 y1 : Value) : ((w.setCell ⟨c, 0, none⟩ y0).setCell ⟨c, 1, none⟩ y1).heap[b]? = some o :=
  bx_other (bx_other h hne 0 y0) hne 1 y1

def symOf (g : Gram) (t : Tree) : Sym := if checkT g t = 0 then rootS g t else ⟨false, 0⟩

set_option maxHeartbeats 1000000 in
set_option maxRecDepth 100000 in
theorem symbolE (g : Gram) (ar : Option Addr) (cr : Nat) (t : Tree) (at' : Option Addr) (ct : Nat) (w : World) (hr : Rd AnyB w (.sl (g.rules.map Rule.d)) [.slice ar g.rules.length cr]) (hk : Rd AnyB w (.sl (t.kids.map Tree.d)) [.slice at' t.kids.length ct]) (hN : (nodes t).length ≤ 1099511627776) :
    Calls Try.prog 51 #[.agg #[.int .i64 g.terms, .int .i64 g.nons, .int .i64 g.start, .slice ar g.rules.length cr], .agg #[.int .i64 t.rule, .int .i64 t.term, .slice at' t.kids.length ct]] w fun e w' => e = .returned (.tuple #[.agg #[.bool (symOf g t).term, .int .i64 (symOf g t).n], .int .i64 (checkT g t)]) ∧ Below w.heap.size w w' := by
  obtain ⟨w0, HW0⟩ := nameIt (((w.alloc (.cells #[.int .i64 g.terms, .int .i64 g.nons, .int .i64 g.start, .slice ar g.rules.length cr] 77)).alloc (.cells #[.int .i64 t.rule, .int .i64 t.term, .slice at' t.kids.length ct] 43)).alloc (.cells #[.bool false, .int .i64 0] 88))
  have hb0 : Below w.heap.size w w0 := by rw [← HW0.out]; exact (((Below.refl _ _).alloc (Nat.le_refl _) _).alloc (by simp) _).alloc (by simp; omega) _
  have X1 : Hid (w0.heap[w.heap.size]? = some (.cells #[.int .i64 g.terms, .int .i64 g.nons, .int .i64 g.start, .slice ar g.rules.length cr] 77 (0, 0))) := by
    rw [← HW0.out]; exact bx_keep (bx_keep (bx_new _ _ _ rfl) ((Below.refl _ _).alloc (Nat.le_refl _) _)) ((Below.refl _ _).alloc (Nat.le_refl _) _)
  have X2 : Hid (w0.heap[w.heap.size + 1]? = some (.cells #[.int .i64 t.rule, .int .i64 t.term, .slice at' t.kids.length ct] 43 (0, 0))) := by
    rw [← HW0.out]; exact bx_keep (bx_new _ _ _ (by simp)) ((Below.refl _ _).alloc (Nat.le_refl _) _)
  have X3 : Hid (w0.heap[w.heap.size + 1 + 1]? = some (.cells #[.bool false, .int .i64 0] 88 (0, 0))) := by
    rw [← HW0.out]; exact bx_new _ _ _ (by simp)
  have C1 := Lib.hid (treeCheckE g ar cr t at' ct w0 (hr.below hb0) (hk.below hb0) hN)
  have C2 := Lib.hid (fun W (hb : Below w0.heap.size w0 W) => rootE g ar cr t at' t.kids.length ct W ((hr.below hb0).below hb))
  have HB0 := Lib.hid hb0
  obtain ⟨E1, HE1⟩ := nameIt (checkT g t)
  obtain ⟨Y, HY⟩ := nameIt (symOf g t)
  have HYV : Hid (Y = if E1 = 0 then rootS g t else ⟨false, 0⟩) := by show _ = _; rw [← HY.out]; unfold symOf; rw [HE1.out]
  obtain ⟨Z, HZ⟩ := nameIt (rootS g t)
  rw [HZ.out] at HYV C2
  obtain ⟨gt, HGT⟩ := nameIt g.terms
  obtain ⟨gn, HGN⟩ := nameIt g.nons
  obtain ⟨gs, HGS⟩ := nameIt g.start
  obtain ⟨n, HKn⟩ := nameIt g.rules.length
  obtain ⟨r, HRr⟩ := nameIt t.rule
  obtain ⟨tm, HRt⟩ := nameIt t.term
  obtain ⟨m, HMn⟩ := nameIt t.kids.length
  rw [HGT.out, HGN.out, HGS.out, HKn.out, HRr.out, HRt.out, HMn.out] at HW0 C2
  rw [HGT.out, HGN.out, HGS.out, HKn.out, HRr.out, HRt.out, HMn.out, HE1.out] at C1
  rw [HGT.out, HGN.out, HGS.out, HKn.out] at X1
  rw [HRr.out, HRt.out, HMn.out] at X2
  rw [HGT.out, HGN.out, HGS.out, HKn.out, HRr.out, HRt.out, HMn.out, HE1.out, HY.out]
  obtain ⟨x0, x1, x2, x3, y0, y1, y2, z0, z1⟩ := cells9 (Below.refl w0.heap.size w0) X1.out X2.out X3.out
  clear hr hk hb0
  go_enter Try.func51, Try.ntmps51
  go_upto_region 1 with fail
  rw [HW0.out]
  go_wp2_with fail
  refine C1.out.mono ?_
  rintro e w1 ⟨rfl, hb1⟩
  have HB1 := Lib.hid hb1
  obtain ⟨x0, x1, x2, x3, y0, y1, y2, z0, z1⟩ := cells9 hb1 X1.out X2.out X3.out
  obtain ⟨f0, f1⟩ := bx_free2 (bx_keep X3.out hb1)
  clear hb1
  by_cases h1 : E1 = 0
  · subst h1
    have hy := HYV.out
    rw [if_pos rfl] at hy
    subst hy
    go_wp2_with fail
    refine (C2.out _ HB1.out).mono ?_
    rintro e w2 ⟨rfl, hb2⟩
    have HB2 := Lib.hid (HB1.out.trans (hb2.mono HB1.out.size))
    clear hb2 x0 x1 x2 x3 y0 y1 y2 z0 z1 f0 f1
    obtain ⟨x0, x1, x2, x3, y0, y1, y2, z0, z1⟩ := cells9 HB2.out X1.out X2.out X3.out
    obtain ⟨f0, f1⟩ := bx_free2 (bx_keep X3.out HB2.out)
    obtain ⟨Y0, HY0⟩ := nameIt Y.term
    obtain ⟨Y1, HY1⟩ := nameIt Y.n
    rw [HY0.out, HY1.out]
    go_wp2_with fail
    exact bodyPost_ret (v := .tuple #[.agg #[.bool Y0, .int .i64 Y1], .int .i64 0]) (by simp [results, Try.results51, go_sem, z0, z1]) rfl ⟨by rw [← HY0.out, ← HY1.out], below_box2 (HB0.out.trans (HB2.out.mono HB0.out.size)) (by omega) _ _⟩
  · have hne : (E1 != 0) = true := by simpa using h1
    obtain rfl : Y = ⟨false, 0⟩ := by rw [HYV.out, if_neg h1]
    clear h1
    go_wp2_with fail
    exact bodyPost_ret (v := .tuple #[.agg #[.bool false, .int .i64 0], .int .i64 E1]) (by simp [results, Try.results51, go_sem, z0, z1]) rfl ⟨rfl, below_box2 (HB0.out.trans (HB1.out.mono HB0.out.size)) (by omega) _ _⟩

def labS (g : Gram) (t : Tree) : Sym := (label g t).getD ⟨false, 0⟩

set_option maxHeartbeats 1000000 in
set_option maxRecDepth 100000 in
theorem labelE (g : Gram) (ar : Option Addr) (cr : Nat) (t : Tree) (at' : Option Addr) (ct : Nat) (w : World) (hr : Rd AnyB w (.sl (g.rules.map Rule.d)) [.slice ar g.rules.length cr]) :
    Calls Try.prog 50 #[.agg #[.int .i64 g.terms, .int .i64 g.nons, .int .i64 g.start, .slice ar g.rules.length cr], .agg #[.int .i64 t.rule, .int .i64 t.term, .slice at' t.kids.length ct]] w fun e w' => e = .returned (.tuple #[.agg #[.bool (labS g t).term, .int .i64 (labS g t).n], .bool (label g t).isSome]) ∧ Below w.heap.size w w' := by
  have hbs := hr.bounds.2
  unfold maxLen at hbs
  obtain ⟨hc1, hc2⟩ := hbs
  obtain ⟨gt, HGT⟩ := nameIt g.terms
  obtain ⟨gn, HGN⟩ := nameIt g.nons
  obtain ⟨gs, HGS⟩ := nameIt g.start
  obtain ⟨K, HK⟩ := nameIt g.rules
  obtain ⟨r, HRr⟩ := nameIt t.rule
  obtain ⟨tm, HRt⟩ := nameIt t.term
  obtain ⟨m, HMn⟩ := nameIt t.kids.length
  obtain ⟨S, HS⟩ := nameIt (labS g t)
  obtain ⟨q, HQ⟩ := nameIt (label g t)
  have HSV : Hid (S = q.getD ⟨false, 0⟩) := by show _ = _; rw [← HS.out, ← HQ.out]; rfl
  have HQV : Hid (q = if r = -1 ∧ m = 0 ∧ 0 ≤ tm ∧ tm < gt then some ⟨true, tm⟩ else if r < 0 ∨ tm ≠ 0 then none else (K[r.toNat]?).map fun x => ⟨false, x.left⟩) := by
    show _ = _; rw [← HQ.out]; unfold label; rw [HRr.out, HRt.out, HK.out, HMn.out, HGT.out]
  have HR := Lib.hid hr
  rw [HK.out] at HR hc1
  rw [HGT.out, HGN.out, HGS.out, HK.out, HRr.out, HRt.out, HMn.out, HS.out, HQ.out]
  have HB : Hid (Below w.heap.size w (((w.alloc (.cells #[.int .i64 gt, .int .i64 gn, .int .i64 gs, .slice ar K.length cr] 77)).alloc (.cells #[.int .i64 r, .int .i64 tm, .slice at' m ct] 43)).alloc (.cells #[.bool S.term, .int .i64 S.n] 88))) := (((Below.refl _ _).alloc (Nat.le_refl _) _).alloc (by simp) _).alloc (by simp; omega) _
  clear hr
  by_cases h0 : r = -1
  · have a0 : (r == -1) = true := by simpa using h0
    have a5 : decide (0 ≤ r) = false := by simp; omega
    by_cases h1 : m = 0
    · have a1 : ((m : Int) == 0) = true := by simpa using h1
      by_cases h2 : 0 ≤ tm
      · have a2 : decide (0 ≤ tm) = true := by simpa using h2
        by_cases h3 : tm < gt
        · have a3 : decide (tm < gt) = true := by simpa using h3
          obtain rfl : q = some ⟨true, tm⟩ := by rw [HQV.out, if_pos ⟨h0, h1, h2, h3⟩]
          obtain rfl : S = ⟨true, tm⟩ := HSV.out
          clear h0 h1 h2 h3
          go_enter Try.func50, Try.ntmps50
          go_wp2_with fail
          exact bodyPost_ret (v := .tuple #[.agg #[.bool true, .int .i64 tm], .bool true]) (by simp [results, Try.results50, go_sem]) rfl ⟨rfl, HB.out⟩
        · have a3 : decide (tm < gt) = false := by simpa using h3
          obtain rfl : q = none := by rw [HQV.out, if_neg (by omega), if_pos (by omega)]
          obtain rfl : S = ⟨false, 0⟩ := HSV.out
          clear h0 h1 h2 h3
          go_enter Try.func50, Try.ntmps50
          go_wp2_with fail
          exact bodyPost_ret (v := .tuple #[.agg #[.bool false, .int .i64 0], .bool false]) (by simp [results, Try.results50, go_sem]) rfl ⟨rfl, HB.out⟩
      · have a2 : decide (0 ≤ tm) = false := by simpa using h2
        obtain rfl : q = none := by rw [HQV.out, if_neg (by omega), if_pos (by omega)]
        obtain rfl : S = ⟨false, 0⟩ := HSV.out
        clear h0 h1 h2
        go_enter Try.func50, Try.ntmps50
        go_wp2_with fail
        exact bodyPost_ret (v := .tuple #[.agg #[.bool false, .int .i64 0], .bool false]) (by simp [results, Try.results50, go_sem]) rfl ⟨rfl, HB.out⟩
    · have a1 : ((m : Int) == 0) = false := by simpa using h1
      obtain rfl : q = none := by rw [HQV.out, if_neg (by omega), if_pos (by omega)]
      obtain rfl : S = ⟨false, 0⟩ := HSV.out
      clear h0 h1
      go_enter Try.func50, Try.ntmps50
      go_wp2_with fail
      exact bodyPost_ret (v := .tuple #[.agg #[.bool false, .int .i64 0], .bool false]) (by simp [results, Try.results50, go_sem]) rfl ⟨rfl, HB.out⟩
  · have a0 : (r == -1) = false := by simpa using h0
    have hq := HQV.out
    rw [if_neg (fun h => h0 h.1)] at hq
    clear h0
    by_cases h1 : r < 0
    · have a5 : decide (0 ≤ r) = false := by simpa using h1
      obtain rfl : q = none := by rw [hq, if_pos (.inl h1)]
      obtain rfl : S = ⟨false, 0⟩ := HSV.out
      clear h1 hq
      go_enter Try.func50, Try.ntmps50
      go_wp2_with fail
      exact bodyPost_ret (v := .tuple #[.agg #[.bool false, .int .i64 0], .bool false]) (by simp [results, Try.results50, go_sem]) rfl ⟨rfl, HB.out⟩
    · obtain ⟨j, rfl⟩ := Int.eq_ofNat_of_zero_le (show 0 ≤ r by omega)
      have b0 : decide ((j : Int) < 0) = false := by simp
      have b0' : (0 : Int) ≤ (j : Int) := by omega
      by_cases h2 : j < K.length
      · have b1 : decide ((j : Int) < (K.length : Int)) = true := by simp; omega
        have b1' : decide (j < K.length) = true := by simp; omega
        have h2' : (j : Int) < (K.length : Int) := by omega
        by_cases h3 : tm = 0
        · subst h3
          obtain ⟨b, off, vr, hae, -, hbl, c0, -, -⟩ := HR.out.rule_at h2
          obtain ⟨lf, HLF⟩ := nameIt (K[j]'h2).left
          obtain rfl : q = some ⟨false, lf⟩ := by rw [hq, if_neg (by omega)]; simp [h2, HLF.out]
          obtain rfl : S = ⟨false, lf⟩ := HSV.out
          rw [HLF.out] at c0
          subst hae
          clear h1 hq
          have hbl1 : b < w.heap.size + 1 := by omega
          have hbl2 : b < w.heap.size + 1 + 1 := by omega
          have hn0 : ¬ b = w.heap.size := by omega
          have hn1 : ¬ b = w.heap.size + 1 := by omega
          have hn2 : ¬ b = w.heap.size + 1 + 1 := by omega
          go_enter Try.func50, Try.ntmps50
          go_wp2_with fail
          exact bodyPost_ret (v := .tuple #[.agg #[.bool false, .int .i64 lf], .bool true]) (by simp [results, Try.results50, go_sem]) rfl ⟨rfl, HB.out⟩
        · have b3 : (tm == 0) = false := by simpa using h3
          obtain rfl : q = none := by rw [hq, if_pos (.inr h3)]
          obtain rfl : S = ⟨false, 0⟩ := HSV.out
          clear h1 h3 hq
          go_enter Try.func50, Try.ntmps50
          go_wp2_with fail
          exact bodyPost_ret (v := .tuple #[.agg #[.bool false, .int .i64 0], .bool false]) (by simp [results, Try.results50, go_sem]) rfl ⟨rfl, HB.out⟩
      · have b1 : decide ((j : Int) < (K.length : Int)) = false := by simp; omega
        have b1' : decide (j < K.length) = false := by simp; omega
        obtain rfl : q = none := by
          rw [hq]
          by_cases h3 : tm = 0
          · rw [if_neg (by omega)]; simp [show K.length ≤ j by omega]
          · rw [if_pos (.inr h3)]
        obtain rfl : S = ⟨false, 0⟩ := HSV.out
        clear h1 hq
        go_enter Try.func50, Try.ntmps50
        go_wp2_with fail
        exact bodyPost_ret (v := .tuple #[.agg #[.bool false, .int .i64 0], .bool false]) (by simp [results, Try.results50, go_sem]) rfl ⟨rfl, HB.out⟩
end Go.Proofs.Ytjehmleckcmilaa
