/- The contract of tree.valid. The contracts of tree.Symbol and of Label. slices.Equal of symbols. rank.Of. rank.Tree. rank.Tree. A block that is known whole is a row. rank.Count; what it answers at the plain grammar. Plain functions: the number that coins draw; its laws. The contracts of draw.Number and parlref5.Coins. The contract of parlref5.Coins. draw.Tree. draw.Tree. Plain: what the second implementation lists: all trees, if there are not too many, or too high. Maps that are sets: only 'true' is stored. -/
import Derived.Test.YtbnpemgmdnghgaaJRankTellsRow8
import Derived.Test.YtbnpemgmdnghgaaJRankTellsRow3
import Derived.Deep.RegionHeld3
import Derived.Test.YtbnpemgmdnghgaaJRankTellsRow7
import Derived.Test.YtbnpemgmdnghgaaJRankTellsRow1
import Derived.Test.YtbnpemgmdnghgaaJRankTellsRow6
import Derived.Test.YtbnpemgmdnghgaaRows
import Derived.Outline
import Derived.Lib.Hide
import Derived.Test.YtbnpemgmdnghgaaJRankTellsRow2
import Derived.Maps.OwnSet
import Derived.Maps.Views
namespace Go.Proofs.Ytbnpemgmdnghgaa
open Go.RowKit

theorem cells8 {W w' : World} (hb : Below W.heap.size W w') {b1 b2 b3 o3 : Nat} {T1 T2 : TypeId} {a0 a1 a2 a3 c0 c1 c2 d : Value} (h1 : W.heap[b1]? = some (.cells #[a0, a1, a2, a3] T1 (0, 0))) (h2 : W.heap[b2]? = some (.cells #[c0, c1, c2] T2 (0, 0))) (h3 : W.cell? ⟨b3, o3, none⟩ = some d) :
    w'.cell? ⟨b1, 0, none⟩ = some a0 ∧ w'.cell? ⟨b1, 0 + 1, none⟩ = some a1 ∧ w'.cell? ⟨b1, 0 + 2, none⟩ = some a2 ∧ w'.cell? ⟨b1, 0 + 3, none⟩ = some a3 ∧ w'.cell? ⟨b2, 0, none⟩ = some c0 ∧ w'.cell? ⟨b2, 0 + 1, none⟩ = some c1 ∧ w'.cell? ⟨b2, 0 + 2, none⟩ = some c2 ∧ w'.cell? ⟨b3, o3, none⟩ = some d := by
  obtain ⟨x1, x2, x3, x4, y1, y2, y3⟩ := cells7 hb h1 h2
  exact ⟨x1, x2, x3, x4, y1, y2, y3, (hb.cell (p := ⟨b3, o3, none⟩) (lt_of_cell h3)).trans h3⟩

set_option maxHeartbeats 4000000 in
set_option maxRecDepth 100000 in
theorem nodeOkE (g : Gram) (b : Nat) (ar : Option Addr) (cr : Nat) (t : Tree) (ak : Option Addr) (ck : Nat) (w : World) (hx : w.heap[b]? = some (.cells #[.int .i64 g.terms, .int .i64 g.nons, .int .i64 g.start, .slice ar g.rules.length cr] 24 (0, 0)))
    (hr : Rd AnyB w (.sl (g.rules.map Rule.d)) [.slice ar g.rules.length cr]) (hk : Rd AnyB w (.sl (t.kids.map Tree.d)) [.slice ak t.kids.length ck]) :
    Calls Try.prog 66 #[.agg #[.int .i64 t.rule, .int .i64 t.term, .slice ak t.kids.length ck], .pointer (some ⟨b, 0, none⟩)] w fun e w' => e = .returned (.bool (nodeOk g t)) ∧ Below w.heap.size w w' := by
  have hbs := hr.bounds.2
  have hbk := hk.bounds.2
  unfold maxLen at hbs hbk
  obtain ⟨hc1, hc2⟩ := hbs
  obtain ⟨hc3, hc4⟩ := hbk
  obtain ⟨w0, HW0⟩ := nameIt (w.alloc (.cells #[.int .i64 t.rule, .int .i64 t.term, .slice ak t.kids.length ck] 42))
  have hb0 : Below w.heap.size w w0 := by rw [← HW0.out]; exact (Below.refl _ _).alloc (Nat.le_refl _) _
  have X1 := Lib.hid (bx_keep hx hb0)
  have X2 : Hid (w0.heap[w.heap.size]? = some (.cells #[.int .i64 t.rule, .int .i64 t.term, .slice ak t.kids.length ck] 42 (0, 0))) := by
    rw [← HW0.out]; exact bx_new _ _ _ rfl
  have HX1 := X1
  have HR := Lib.hid (hr.below hb0)
  have HKD := Lib.hid (hk.below hb0)
  have HB0 := Lib.hid hb0
  have PA : Hid (∀ W, Below w0.heap.size w0 W → PairAt 68 #[.pointer (some ⟨b, 0, none⟩)] (kidOk g) W) := by
    intro W hb W' k v s hb' hv
    obtain ⟨a, n, c, rfl⟩ := treeBox hv
    have hbb := hb.trans (hb'.mono hb.size)
    exact kidOkE g b ar cr k a n c s W' (bx_keep HX1.out hbb) (HR.out.below hbb)
  obtain ⟨B, HBn⟩ := nameIt (nodeOk g t)
  have HBV : Hid (nodeOk g t = B) := HBn
  obtain ⟨gt, HGT⟩ := nameIt g.terms
  obtain ⟨gn, HGN⟩ := nameIt g.nons
  obtain ⟨gs, HGS⟩ := nameIt g.start
  obtain ⟨R, HRn⟩ := nameIt g.rules
  obtain ⟨r, HRr⟩ := nameIt t.rule
  obtain ⟨tm, HRt⟩ := nameIt t.term
  obtain ⟨K, HKn⟩ := nameIt t.kids
  rw [HGT.out, HGN.out, HGS.out, HRn.out] at X1
  rw [HRr.out, HRt.out, HKn.out] at X2 HW0
  rw [HKn.out] at HKD hc3
  rw [HRn.out] at HR hc1
  unfold nodeOk at HBV
  rw [HRr.out, HRt.out, HKn.out, HGT.out, HRn.out] at HBV
  rw [HRr.out, HRt.out, HKn.out, HBn.out]
  obtain ⟨x0, x1, x2, x3, y0, y1, y2⟩ := cells7 (Below.refl w0.heap.size w0) X1.out X2.out
  clear hx hr hk hb0
  go_enter Try.func66, Try.ntmps66
  go_upto_region 1 with fail
  rw [HW0.out]
  by_cases h0 : r = -1
  · have hv := HBV.out
    rw [if_pos h0] at hv
    have hrb : (r == -1) = true := by simpa using h0
    clear h0
    by_cases h1 : 0 ≤ tm
    · have b1 : decide (0 ≤ tm) = true := by simpa using h1
      by_cases h2 : tm < gt
      · have b2 : decide (tm < gt) = true := by simpa using h2
        have HE : Hid (B = ((K.length : Int) == 0)) := by show _ = _; rw [← hv, b1, b2, Bool.eq_iff_iff]; simp
        clear hv
        go_wp2_with fail
        go_ret
        exact ⟨by rw [HE.out]; rfl, HB0.out⟩
      · have b2 : decide (tm < gt) = false := by simpa using h2
        obtain rfl : B = false := by rw [← hv, b2]; simp
        clear hv
        go_wp2_with fail
        go_ret
        exact ⟨rfl, HB0.out⟩
    · have b1 : decide (0 ≤ tm) = false := by simpa using h1
      obtain rfl : B = false := by rw [← hv, b1]; simp
      clear hv
      go_wp2_with fail
      go_ret
      exact ⟨rfl, HB0.out⟩
  · have hv := HBV.out
    rw [if_neg h0] at hv
    have hrb : (r == -1) = false := by simpa using h0
    clear h0
    by_cases h1 : r < 0
    · have b1 : decide (r < 0) = true := by simpa using h1
      obtain rfl : B = false := by rw [← hv, if_pos h1]
      clear hv
      go_wp2_with fail
      go_ret
      exact ⟨rfl, HB0.out⟩
    · rw [if_neg h1] at hv
      obtain ⟨j, rfl⟩ := Int.eq_ofNat_of_zero_le (show 0 ≤ r by omega)
      have b1 : decide ((j : Int) < 0) = false := by simp
      by_cases h2 : j < R.length
      · have b2 : decide (R.length ≤ j) = false := by simp; omega
        have b2' : decide ((R.length : Int) ≤ (j : Int)) = false := by simp; omega
        have h2' : (j : Int) < (R.length : Int) := by omega
        have h2'' : (0 : Int) ≤ (j : Int) := by omega
        rw [show R[(j : Int).toNat]? = some R[j] by simp [h2]] at hv
        by_cases h3 : tm = 0
        · subst h3
          obtain ⟨br, orr, vr, hae, -, hbl, -, e1, hkr⟩ := HR.out.rule_at h2
          obtain ⟨av, cv, rfl, -, -⟩ := hkr.form
          rw [List.length_map] at e1 hkr
          obtain ⟨L, HLn⟩ := nameIt (R[j]'h2).right
          rw [HLn.out] at e1 hkr
          have hv' : (decide ((0 : Int) = 0) && kidsOk g K (R[j]'h2).right) = B := hv
          rw [HLn.out] at hv'
          have HE : Hid (eqAll (kidOk g) K L = B) := by show _ = _; rw [← hv']; simp [kidsOk, eqAll]
          clear hv'
          have CE := Lib.hid (fun W (hb : Below w0.heap.size w0 W) => equalFuncTS 68 #[.pointer (some ⟨b, 0, none⟩)] (kidOk g) ak av ck cv K L W (fun _ _ => by kernel_rfl) (PA.out W hb) (HKD.out.below hb) (hkr.below hb))
          rw [HE.out] at CE
          have E1 := Lib.hid e1
          subst hae
          clear hv hkr
          go_upto_region 5 with fail
          go_region_held3 (fun w' => w'.cell? ⟨b, 0, none⟩ = some (.int .i64 gt) ∧ w'.cell? ⟨b, 0 + 1, none⟩ = some (.int .i64 gn) ∧ w'.cell? ⟨b, 0 + 2, none⟩ = some (.int .i64 gs) ∧ w'.cell? ⟨b, 0 + 3, none⟩ = some (.slice (some ⟨br, orr, none⟩) R.length cr) ∧ w'.cell? ⟨w.heap.size, 0, none⟩ = some (.int .i64 j) ∧ w'.cell? ⟨w.heap.size, 0 + 1, none⟩ = some (.int .i64 0) ∧ w'.cell? ⟨w.heap.size, 0 + 2, none⟩ = some (.slice ak K.length ck) ∧ w'.cell? ⟨br, orr + j * 2 + 1, none⟩ = some (.slice av L.length cv))
            (first | exact cells8 (Below.refl _ _).drew X1.out X2.out E1.out | exact cells8 HB1.out X1.out X2.out E1.out | fail)
            (first
              | (go_at_call 67; (with_reducible refine (CE.out _ (Below.refl _ _).drew).mono ?_); rintro e w1 ⟨rfl, hb1⟩; have HB1 : Hid (Below w0.heap.size w0 w1) := (Below.refl _ _).drew.trans hb1; clear hb1)
              | fail)
          go_wp2_with fail
          go_ret
          exact ⟨rfl, HB0.out.trans (HB1.out.mono HB0.out.size)⟩
        · have b3 : (tm != 0) = true := by simpa using h3
          obtain rfl : B = false := by rw [← hv]; simp [h3]
          clear hv h3
          go_wp2_with fail
          go_ret
          exact ⟨rfl, HB0.out⟩
      · have b2 : decide (R.length ≤ j) = true := by simp; omega
        have b2' : decide ((R.length : Int) ≤ (j : Int)) = true := by simp; omega
        obtain rfl : B = false := by rw [← hv, show R[(j : Int).toNat]? = none by simp; omega]
        clear hv
        go_wp2_with fail
        go_ret
        exact ⟨rfl, HB0.out⟩

theorem validF (g : Gram) (b : Nat) (ar : Option Addr) (cr : Nat) (w0 : World) (N : Nat) (hx : w0.heap[b]? = some (.cells #[.int .i64 g.terms, .int .i64 g.nons, .int .i64 g.start, .slice ar g.rules.length cr] 24 (0, 0)))
    (hr : Rd AnyB w0 (.sl (g.rules.map Rule.d)) [.slice ar g.rules.length cr]) : NodeFn 66 #[.pointer (some ⟨b, 0, none⟩)] w0 (nodeOk g) N (ValidI w0) where
  below := fun h => h.1
  own := fun h k hk => absurd hk (h.2 k)
  keep := fun h hb => ⟨h.1.trans (hb.mono h.1.size), h.2⟩
  call := by
    intro s S W t v h hv _
    obtain ⟨a, c, rfl, -, -⟩ := hv.form
    rw [List.length_map] at hv ⊢
    refine (nodeOkE g b ar cr t a c W (bx_keep hx h.1) (hr.below h.1) (hv.below h.1)).mono ?_
    rintro e W' ⟨rfl, hb⟩
    exact ⟨S, rfl, ⟨h.1.trans (hb.mono h.1.size), h.2⟩, Below.keeps hb, fun k hk => .inl hk⟩

set_option maxHeartbeats 1000000 in
set_option maxRecDepth 100000 in
theorem validE (g : Gram) (ar : Option Addr) (cr : Nat) (t : Tree) (at' : Option Addr) (ct : Nat) (w : World) (hr : Rd AnyB w (.sl (g.rules.map Rule.d)) [.slice ar g.rules.length cr]) (hk : Rd AnyB w (.sl (t.kids.map Tree.d)) [.slice at' t.kids.length ct]) :
    Calls Try.prog 40 #[.agg #[.int .i64 g.terms, .int .i64 g.nons, .int .i64 g.start, .slice ar g.rules.length cr], .agg #[.int .i64 t.rule, .int .i64 t.term, .slice at' t.kids.length ct]] w fun e w' => e = .returned (.bool (validT g t)) ∧ Below w.heap.size w w' := by
  obtain ⟨w0, HW0⟩ := nameIt ((w.alloc (.cells #[.int .i64 g.terms, .int .i64 g.nons, .int .i64 g.start, .slice ar g.rules.length cr] 24)).alloc (.cells #[.int .i64 t.rule, .int .i64 t.term, .slice at' t.kids.length ct] 42))
  have hb0 : Below w.heap.size w w0 := by rw [← HW0.out]; exact ((Below.refl _ _).alloc (Nat.le_refl _) _).alloc (by simp) _
  have hx : w0.heap[w.heap.size]? = some (.cells #[.int .i64 g.terms, .int .i64 g.nons, .int .i64 g.start, .slice ar g.rules.length cr] 24 (0, 0)) := by
    rw [← HW0.out]; exact bx_keep (bx_new _ _ _ rfl) ((Below.refl _ _).alloc (Nat.le_refl _) _)
  have X2 : Hid (w0.heap[w.heap.size + 1]? = some (.cells #[.int .i64 t.rule, .int .i64 t.term, .slice at' t.kids.length ct] 42 (0, 0))) := by
    rw [← HW0.out]; exact bx_new _ _ _ (by simp)
  have HC := Lib.hid (walkE 66 #[.pointer (some ⟨w.heap.size, 0, none⟩)] w0 (nodeOk g) (nodes t).length (ValidI w0) (fun _ _ => by kernel_rfl) (validF g w.heap.size ar cr w0 _ hx (hr.below hb0)) (nodes t).length t _ [] (fun _ => False) w0 (Nat.le_refl _) ⟨Below.refl _ _, fun _ h => h⟩ (hk.below hb0) (by simp))
  have HB0 := Lib.hid hb0
  obtain ⟨y0, y1, y2⟩ := bx_cells3 X2.out
  obtain ⟨gt, HGT⟩ := nameIt g.terms
  obtain ⟨gn, HGN⟩ := nameIt g.nons
  obtain ⟨gs, HGS⟩ := nameIt g.start
  obtain ⟨n, HKn⟩ := nameIt g.rules.length
  obtain ⟨r, HRr⟩ := nameIt t.rule
  obtain ⟨tm, HRt⟩ := nameIt t.term
  obtain ⟨m, HMn⟩ := nameIt t.kids.length
  rw [HGT.out, HGN.out, HGS.out, HKn.out, HRr.out, HRt.out, HMn.out] at HW0
  rw [HRr.out] at y0
  rw [HRt.out] at y1
  rw [HMn.out] at y2
  rw [HRr.out, HRt.out, HMn.out] at HC
  rw [HGT.out, HGN.out, HGS.out, HKn.out, HRr.out, HRt.out, HMn.out]
  clear hr hk hx hb0
  go_enter Try.func40, Try.ntmps40
  go_upto_region 1 with fail
  rw [HW0.out]
  go_wp2_with fail
  refine HC.out.mono ?_
  rintro e w1 ⟨S', rfl, ⟨h1, h2⟩, h3, h4⟩
  have HB1 := Lib.hid h1
  obtain ⟨B, HBn⟩ := nameIt ((nodes t).all (nodeOk g))
  rw [HBn.out]
  clear h1 h2 h3 h4
  go_wp2_with fail
  go_ret
  exact ⟨by rw [← HBn.out]; rfl, HB0.out.trans (HB1.out.mono HB0.out.size)⟩

set_option maxHeartbeats 1000000 in
set_option maxRecDepth 100000 in
theorem treeCheckE (g : Gram) (ar : Option Addr) (cr : Nat) (t : Tree) (at' : Option Addr) (ct : Nat) (w : World) (hr : Rd AnyB w (.sl (g.rules.map Rule.d)) [.slice ar g.rules.length cr]) (hk : Rd AnyB w (.sl (t.kids.map Tree.d)) [.slice at' t.kids.length ct]) (hN : (nodes t).length ≤ 1099511627776) :
    Calls Try.prog 19 #[.agg #[.int .i64 g.terms, .int .i64 g.nons, .int .i64 g.start, .slice ar g.rules.length cr], .agg #[.int .i64 t.rule, .int .i64 t.term, .slice at' t.kids.length ct]] w fun e w' => e = .returned (.int .i64 (checkT g t)) ∧ Below w.heap.size w w' := by
  obtain ⟨w0, HW0⟩ := nameIt ((w.alloc (.cells #[.int .i64 g.terms, .int .i64 g.nons, .int .i64 g.start, .slice ar g.rules.length cr] 24)).alloc (.cells #[.int .i64 t.rule, .int .i64 t.term, .slice at' t.kids.length ct] 42))
  have hb0 : Below w.heap.size w w0 := by rw [← HW0.out]; exact ((Below.refl _ _).alloc (Nat.le_refl _) _).alloc (by simp) _
  have X1 : Hid (w0.heap[w.heap.size]? = some (.cells #[.int .i64 g.terms, .int .i64 g.nons, .int .i64 g.start, .slice ar g.rules.length cr] 24 (0, 0))) := by
    rw [← HW0.out]; exact bx_keep (bx_new _ _ _ rfl) ((Below.refl _ _).alloc (Nat.le_refl _) _)
  have X2 : Hid (w0.heap[w.heap.size + 1]? = some (.cells #[.int .i64 t.rule, .int .i64 t.term, .slice at' t.kids.length ct] 42 (0, 0))) := by
    rw [← HW0.out]; exact bx_new _ _ _ (by simp)
  have C1 := Lib.hid (checkE g ar cr w0 (hr.below hb0))
  have C2 := Lib.hid (fun W (hb : Below w0.heap.size w0 W) => sizeE t _ W ((hk.below hb0).below hb) (by omega))
  have C3 := Lib.hid (fun W (hb : Below w0.heap.size w0 W) => validE g ar cr t at' ct W ((hr.below hb0).below hb) ((hk.below hb0).below hb))
  have HB0 := Lib.hid hb0
  obtain ⟨E1, HE1⟩ := nameIt (checkG g)
  obtain ⟨M, HM⟩ := nameIt (nodes t).length
  obtain ⟨V, HV⟩ := nameIt (validT g t)
  obtain ⟨B, HBn⟩ := nameIt (checkT g t)
  have HBV : Hid (B = if E1 ≠ 0 then E1 else if 5000 < M then 2 else if V then 0 else 3) := by show _ = _; rw [← HBn.out]; unfold checkT; rw [HE1.out, HM.out, HV.out]
  obtain ⟨gt, HGT⟩ := nameIt g.terms
  obtain ⟨gn, HGN⟩ := nameIt g.nons
  obtain ⟨gs, HGS⟩ := nameIt g.start
  obtain ⟨n, HKn⟩ := nameIt g.rules.length
  obtain ⟨r, HRr⟩ := nameIt t.rule
  obtain ⟨tm, HRt⟩ := nameIt t.term
  obtain ⟨m, HMn⟩ := nameIt t.kids.length
  rw [HGT.out, HGN.out, HGS.out, HKn.out, HRr.out, HRt.out, HMn.out] at HW0
  rw [HGT.out, HGN.out, HGS.out, HKn.out] at X1
  rw [HRr.out, HRt.out, HMn.out] at X2
  rw [HGT.out, HGN.out, HGS.out, HKn.out, HE1.out] at C1
  rw [HRr.out, HRt.out, HMn.out, HM.out] at C2
  rw [HGT.out, HGN.out, HGS.out, HKn.out, HRr.out, HRt.out, HMn.out, HV.out] at C3
  rw [HGT.out, HGN.out, HGS.out, HKn.out, HRr.out, HRt.out, HMn.out, HBn.out]
  rw [HM.out] at hN
  obtain ⟨x0, x1, x2, x3, y0, y1, y2⟩ := cells7 (Below.refl w0.heap.size w0) X1.out X2.out
  clear hr hk hb0
  go_enter Try.func19, Try.ntmps19
  go_upto_region 1 with fail
  rw [HW0.out]
  go_wp2_with fail
  refine C1.out.mono ?_
  rintro e w1 ⟨rfl, hb1⟩
  have HB1 := Lib.hid hb1
  obtain ⟨x0, x1, x2, x3, y0, y1, y2⟩ := cells7 hb1 X1.out X2.out
  clear hb1
  by_cases h1 : E1 = 0
  · subst h1
    have hv := HBV.out
    rw [if_neg (by simp)] at hv
    have HV2 := Lib.hid hv
    clear hv
    go_wp2_with fail
    refine (C2.out _ HB1.out).mono ?_
    rintro e w2 ⟨rfl, hb2⟩
    have HB2 := Lib.hid (HB1.out.trans (hb2.mono HB1.out.size))
    clear hb2 x0 x1 x2 x3 y0 y1 y2
    obtain ⟨x0, x1, x2, x3, y0, y1, y2⟩ := cells7 HB2.out X1.out X2.out
    by_cases h2 : 5000 < M
    · have h2' : (5000 : Int) < (M : Int) := by omega
      obtain rfl : B = 2 := by rw [HV2.out, if_pos h2]
      go_wp2_with fail
      go_ret
      exact ⟨rfl, HB0.out.trans (HB2.out.mono HB0.out.size)⟩
    · have h2' : ¬ (5000 : Int) < (M : Int) := by omega
      have hv := HV2.out
      rw [if_neg h2] at hv
      have HV3 := Lib.hid hv
      clear hv
      go_wp2_with fail
      refine (C3.out _ HB2.out).mono ?_
      rintro e w3 ⟨rfl, hb3⟩
      have HB3 := Lib.hid (HB2.out.trans (hb3.mono HB2.out.size))
      clear hb3 x0 x1 x2 x3 y0 y1 y2
      cases V with
      | true =>
        obtain rfl : B = 0 := by rw [HV3.out]; rfl
        go_wp2_with fail
        go_ret
        exact ⟨rfl, HB0.out.trans (HB3.out.mono HB0.out.size)⟩
      | false =>
        obtain rfl : B = 3 := by rw [HV3.out]; rfl
        go_wp2_with fail
        go_ret
        exact ⟨rfl, HB0.out.trans (HB3.out.mono HB0.out.size)⟩
  · have hne : (E1 != 0) = true := by simpa using h1
    obtain rfl : B = E1 := by rw [HBV.out, if_pos h1]
    clear h1
    go_wp2_with fail
    go_ret
    exact ⟨rfl, HB0.out.trans (HB1.out.mono HB0.out.size)⟩
end Go.Proofs.Ytbnpemgmdnghgaa
namespace Go.Proofs.Ytbnpemgmdnghgaa
open Go.RowKit

end Go.Proofs.Ytbnpemgmdnghgaa
namespace Go.Proofs.Ytbnpemgmdnghgaa
open Go.RowKit

theorem symNe (a c : Bool) (b d : Int) (w : World) : (binOp .neq 65 (.agg #[.bool a, .int .i64 b]) (.agg #[.bool c, .int .i64 d])).run Try.prog w = .ok (.bool (!(a == c && b == d))) w := by
  have h1 : Try.prog.underlying 65 = some (.struct (Try.prog.fieldsOf 65)) := by kernel_rfl
  have h2 : Try.prog.stoodInHeld 65 = false := by kernel_rfl
  have h3 := Try.underlying65
  have h4 := Try.underlying4
  have h5 := Try.underlying3
  rw [run_neq_struct, run_equalIn_agg (d := 9999) _ _ _ _ h1 h2]
  simp only [Program.fieldsOf, h3]
  cases hac : (a == c) <;> by_cases hbd : b = d <;> simp [Op.eqFields, go_sem, h4, h5, hac, hbd]
end Go.Proofs.Ytbnpemgmdnghgaa
namespace Go.Proofs.Ytbnpemgmdnghgaa
open Go.RowKit
namespace Cs

/-- what rank.Of answers -/
def RkV (g : Gram) (t : Tree) (n i c : Int) : Prop :=
  (checkT g t ≠ 0 ∧ n = 0 ∧ i = 0 ∧ c = checkT g t) ∨ (checkT g t = 0 ∧ rootS g t ≠ ⟨false, g.start⟩ ∧ n = 0 ∧ i = 0 ∧ c = 3) ∨
  (checkT g t = 0 ∧ rootS g t = ⟨false, g.start⟩ ∧ ((errC g (wl t) ≠ 0 ∧ n = 0 ∧ i = 0 ∧ c = errC g (wl t)) ∨
    (errC g (wl t) = 0 ∧ ∃ (N : Nat) (S : Nat → Nat → Bool), OkC g N ∧ DoneC g (wl t) S ∧ ((c = 9 ∧ n = 0 ∧ i = 0 ∧ startC g S N (wl t) = -1) ∨ (c = 2 ∧ n = 0 ∧ i = 0 ∧ MaxC ≤ startC g S N (wl t)) ∨ (c = 0 ∧ n = (wl t : Int) ∧ i = idxC g S N (wl t) 5000 t)))))
def RkPost (g : Gram) (t : Tree) (w : World) (e : Ending) (w' : World) : Prop := Below w.heap.size w w' ∧ ∃ n i c : Int, e = .returned (.tuple #[.int .i64 n, .int .i64 i, .int .i64 c]) ∧ RkV g t n i c
/-- rank.count's answer, one form -/
def CntF (g : Gram) (vr : Value) (n : Int) (w : World) (p : Value) (c : Int) (w' : World) : Prop :=
  (errC g n ≠ 0 ∧ c = errC g n) ∨ (errC g n = 0 ∧ ∃ (N n' : Nat) (S : Nat → Nat → Bool), OkC g N ∧ n = (n' : Int) ∧ n' ≤ 24 ∧ DoneC g n' S ∧ ((c = 9 ∧ startC g S N n' = -1) ∨ (c = 2 ∧ MaxC ≤ startC g S N n') ∨ (c = 0 ∧ ∃ (d : Cid) (w1 : World), p = .pointer (some ⟨d.cb, 0, none⟩) ∧ Below w.heap.size w w1 ∧ CntR g vr N n' d S w1 w')))
theorem cntF_of {g : Gram} {vr : Value} {n : Int} {w w' : World} {e : Ending} (h : CntPost g vr n w e w') : Below w.heap.size w w' ∧ ∃ (p : Value) (k c : Int), e = .returned (.tuple #[p, .int .i64 k, .int .i64 c]) ∧ CntF g vr n w p c w' := by
  obtain ⟨hb, ⟨h1, rfl⟩ | ⟨h1, N, n', S, h2, h3, h4, h5, ⟨h6, rfl⟩ | ⟨h6, h7, rfl⟩ | ⟨h6, h7, d, w1, rfl, h8, h9⟩⟩⟩ := h
  · exact ⟨hb, _, _, _, rfl, .inl ⟨h1, rfl⟩⟩
  · exact ⟨hb, _, _, _, rfl, .inr ⟨h1, N, n', S, h2, h3, h4, h5, .inl ⟨rfl, h6⟩⟩⟩
  · exact ⟨hb, _, _, _, rfl, .inr ⟨h1, N, n', S, h2, h3, h4, h5, .inr (.inl ⟨rfl, h7⟩)⟩⟩
  · exact ⟨hb, _, _, _, rfl, .inr ⟨h1, N, n', S, h2, h3, h4, h5, .inr (.inr ⟨rfl, d, w1, rfl, h8, h9⟩)⟩⟩
theorem CntR.cbl {g : Gram} {vr : Value} {N n : Nat} {d : Cid} {S : Nat → Nat → Bool} {w1 W : World} (h : CntR g vr N n d S w1 W) : d.cb < W.heap.size := by
  obtain ⟨C, hc⟩ := h
  exact hc.ci.lt
/-- between the regions: the counter or an error -/
def OfMid (g : Gram) (vr : Value) (n : Int) (w0 : World) (p c : Value) (wx : World) : Prop := Below w0.heap.size w0 wx ∧ ∃ (ww : World) (cc : Int), c = .int .i64 cc ∧ Below w0.heap.size w0 ww ∧ CntF g vr n ww p cc wx
theorem okT_of {g : Gram} {t : Tree} (h : checkT g t = 0) : OkT g t ∧ (nodes t).length ≤ 5000 := by
  unfold checkT at h
  by_cases h1 : checkG g ≠ 0
  · rw [if_pos h1] at h; exact absurd h h1
  · rw [if_neg h1] at h
    by_cases h2 : 5000 < (nodes t).length
    · rw [if_pos h2] at h; cases h
    · rw [if_neg h2] at h
      cases hv : validT g t with
      | false => rw [hv] at h; cases h
      | true =>
        unfold validT at hv
        rw [List.all_eq_true] at hv
        exact ⟨hv, by omega⟩

set_option maxHeartbeats 8000000 in
set_option maxRecDepth 100000 in
theorem rankOfE (g : Gram) (ra : Option Addr) (rcap : Nat) (t : Tree) (at' : Option Addr) (ct : Nat) (w : World) (hr : Rd AnyB w (.sl (g.rules.map Rule.d)) [.slice ra g.rules.length rcap]) (hk : Rd AnyB w (.sl (t.kids.map Tree.d)) [.slice at' t.kids.length ct]) (hN : (nodes t).length ≤ 1099511627776) :
    Calls Try.prog 18 #[.agg #[.int .i64 g.terms, .int .i64 g.nons, .int .i64 g.start, .slice ra g.rules.length rcap], .agg #[.int .i64 t.rule, .int .i64 t.term, .slice at' t.kids.length ct]] w (RkPost g t w) := by
  obtain ⟨w0, HW0⟩ := nameIt ((w.alloc (.cells #[.int .i64 g.terms, .int .i64 g.nons, .int .i64 g.start, .slice ra g.rules.length rcap] 24)).alloc (.cells #[.int .i64 t.rule, .int .i64 t.term, .slice at' t.kids.length ct] 42))
  have hb0 : Below w.heap.size w w0 := by rw [← HW0.out]; exact ((Below.refl _ _).alloc (Nat.le_refl _) _).alloc (by simp) _
  have X1 : Hid (w0.heap[w.heap.size]? = some (.cells #[.int .i64 g.terms, .int .i64 g.nons, .int .i64 g.start, .slice ra g.rules.length rcap] 24 (0, 0))) := by
    rw [← HW0.out]; exact bx_keep (bx_new _ _ _ rfl) ((Below.refl _ _).alloc (Nat.le_refl _) _)
  have X2 : Hid (w0.heap[w.heap.size + 1]? = some (.cells #[.int .i64 t.rule, .int .i64 t.term, .slice at' t.kids.length ct] 42 (0, 0))) := by
    rw [← HW0.out]; exact bx_new _ _ _ (by simp)
  have HR := Lib.hid (hr.below hb0)
  have HK := Lib.hid (hk.below hb0)
  have HCK := Lib.hid (treeCheckE g ra rcap t at' ct w0 HR.out HK.out hN)
  have HRT : Hid (∀ W, Below w0.heap.size w0 W → Calls Try.prog 37 #[.agg #[.int .i64 g.terms, .int .i64 g.nons, .int .i64 g.start, .slice ra g.rules.length rcap], .agg #[.int .i64 t.rule, .int .i64 t.term, .slice at' t.kids.length ct]] W fun e w' => e = .returned (.agg #[.bool (rootS g t).term, .int .i64 (rootS g t).n]) ∧ Below W.heap.size W w') :=
    fun W hb => rootE g ra rcap t at' t.kids.length ct W (HR.out.below hb)
  have HWD : Hid (∀ W, Below w0.heap.size w0 W → Calls Try.prog 20 #[.agg #[.int .i64 t.rule, .int .i64 t.term, .slice at' t.kids.length ct]] W (IntsPost (leavesOf (nodes t)) W)) :=
    fun W hb => wordT t _ W (HK.out.below hb) (by omega)
  have HCN : Hid (∀ W, Below w0.heap.size w0 W → Calls Try.prog 36 #[.agg #[.int .i64 g.terms, .int .i64 g.nons, .int .i64 g.start, .slice ra g.rules.length rcap], .int .i64 ((wl t : Nat) : Int)] W (fun e w' => Below W.heap.size W w' ∧ ∃ (p : Value) (k c : Int), e = .returned (.tuple #[p, .int .i64 k, .int .i64 c]) ∧ CntF g (.slice ra g.rules.length rcap) (wl t : Int) W p c w')) :=
    fun W hb => (countE g ra rcap _ W (HR.out.below hb)).mono fun _ _ h => cntF_of h
  have HLW : Hid ((leavesOf (nodes t)).length = wl t) := rfl
  have HOF : Hid (checkT g t = 0 → ∀ (N : Nat) (d : Cid) (S : Nat → Nat → Bool) (w1 W : World) (xb : Nat), OkC g N → wl t ≤ 24 → Below w0.heap.size w0 w1 → CntR g (.slice ra g.rules.length rcap) N (wl t) d S w1 W → d.cb < xb →
      W.heap[xb]? = some (.cells #[.int .i64 g.terms, .int .i64 g.nons, .int .i64 g.start, .slice ra g.rules.length rcap, .pointer (some ⟨d.cb, 0, none⟩)] 85 (0, 0)) →
      Calls Try.prog 38 #[.pointer (some ⟨xb, 0, none⟩), .agg #[.int .i64 t.rule, .int .i64 t.term, .slice at' t.kids.length ct]] W (OfTPost g (.slice ra g.rules.length rcap) N (wl t) d S w1 5000 t W)) := by
    intro hck N d S w1 W xb hok h24 hb hc hxb hx
    obtain ⟨hv, h5⟩ := okT_of hck
    exact ofTE hok h24 (HR.out.below hb) hxb 5000 t h5 (by omega) hv (Nat.le_refl _) at' ct W (HK.out.below hb) hc hx
  obtain ⟨PST, HP⟩ := nameIt (RkPost g t w)
  rw [HP.out]
  have HFIN : Hid (∀ w', Below w0.heap.size w0 w' → ∀ n i c : Int, RkV g t n i c → PST (.returned (.tuple #[.int .i64 n, .int .i64 i, .int .i64 c])) w') := by
    intro w' h n i c hv
    rw [← HP.out]
    exact ⟨hb0.trans (h.mono hb0.size), n, i, c, rfl, hv⟩
  have HCL : Hid (∀ W', Below w0.heap.size w0 W' → W'.cell? ⟨w.heap.size, 0, none⟩ = some (.int .i64 g.terms) ∧ W'.cell? ⟨w.heap.size, 0 + 1, none⟩ = some (.int .i64 g.nons) ∧ W'.cell? ⟨w.heap.size, 0 + 2, none⟩ = some (.int .i64 g.start) ∧ W'.cell? ⟨w.heap.size, 0 + 3, none⟩ = some (.slice ra g.rules.length rcap) ∧ W'.cell? ⟨w.heap.size + 1, 0, none⟩ = some (.int .i64 t.rule) ∧ W'.cell? ⟨w.heap.size + 1, 0 + 1, none⟩ = some (.int .i64 t.term) ∧ W'.cell? ⟨w.heap.size + 1, 0 + 2, none⟩ = some (.slice at' t.kids.length ct)) :=
    fun W' h => cells7 h X1.out X2.out
  obtain ⟨CK, HCKN⟩ := nameIt (checkT g t)
  obtain ⟨RS, HRSN⟩ := nameIt (rootS g t)
  obtain ⟨rst, rsn⟩ := RS
  obtain ⟨L, HL⟩ := nameIt (wl t)
  have HV1 : Hid (CK ≠ 0 → RkV g t 0 0 CK) := by intro h; rw [← HCKN.out] at h ⊢; exact .inl ⟨h, rfl, rfl, rfl⟩
  have HV2 : Hid (CK = 0 → (rst == false && rsn == g.start) = false → RkV g t 0 0 3) := by
    intro h h'
    refine .inr (.inl ⟨by rw [HCKN.out]; exact h, ?_, rfl, rfl, rfl⟩)
    rw [HRSN.out]
    intro e
    cases e
    simp at h'
  have HV3 : Hid (CK = 0 → (rst == false && rsn == g.start) = true → ∀ n i c : Int, ((errC g L ≠ 0 ∧ n = 0 ∧ i = 0 ∧ c = errC g L) ∨
    (errC g L = 0 ∧ ∃ (N : Nat) (S : Nat → Nat → Bool), OkC g N ∧ DoneC g L S ∧ ((c = 9 ∧ n = 0 ∧ i = 0 ∧ startC g S N L = -1) ∨ (c = 2 ∧ n = 0 ∧ i = 0 ∧ MaxC ≤ startC g S N L) ∨ (c = 0 ∧ n = (L : Int) ∧ i = idxC g S N L 5000 t)))) → RkV g t n i c) := by
    intro h h' n i c hh
    refine .inr (.inr ⟨by rw [HCKN.out]; exact h, ?_, by rw [HL.out]; exact hh⟩)
    rw [HRSN.out]
    simp at h'
    obtain ⟨rfl, rfl⟩ := h'
    rfl
  rw [HCKN.out] at HCK HOF
  rw [HRSN.out] at HRT
  rw [HL.out] at HCN HLW HOF
  have hnb : (nodes t).length ≤ 1099511627776 := hN
  have HLL : Hid (L ≤ (nodes t).length) := by
    show L ≤ _
    rw [← HLW.out]; unfold leavesOf; exact List.length_filterMap_le _ _
  have hL := HLL.out
  have hLb : L ≤ 1099511627776 := by omega
  clear hL HLL hnb hN
  obtain ⟨gt, HGT⟩ := nameIt g.terms
  obtain ⟨gn, HGN⟩ := nameIt g.nons
  obtain ⟨gs, HGS⟩ := nameIt g.start
  obtain ⟨rl, HRL⟩ := nameIt g.rules.length
  obtain ⟨tr, HTR⟩ := nameIt t.rule
  obtain ⟨tm, HTM⟩ := nameIt t.term
  obtain ⟨tk, HTK⟩ := nameIt t.kids.length
  rw [HGT.out, HGN.out, HGS.out, HRL.out, HTR.out, HTM.out, HTK.out] at HW0 HCK HRT HCL
  rw [HTR.out, HTM.out, HTK.out] at HWD
  rw [HGT.out, HGN.out, HGS.out, HRL.out] at HCN
  simp only [HGT.out, HGN.out, HGS.out, HRL.out, HTR.out, HTM.out, HTK.out] at HOF
  rw [HGS.out] at HV2 HV3
  rw [HGT.out, HGN.out, HGS.out, HRL.out, HTR.out, HTM.out, HTK.out]
  clear hr hk HR HK hb0 HP X1 X2
  obtain ⟨x0, x1, x2, x3, y0, y1, y2⟩ := HCL.out w0 (Below.refl _ _)
  go_enter Try.func18, Try.ntmps18
  go_upto_region 1 with fail
  rw [HW0.out]
  go_wp2_with fail
  refine HCK.out.mono ?_
  rintro e w1 ⟨rfl, hb1⟩
  have HB1 := Lib.hid hb1
  clear hb1 x0 x1 x2 x3 y0 y1 y2
  by_cases hck : CK = 0
  · subst hck
    have HCNE := Lib.hid (gramN gs)
    have HNE := symNe rst false rsn gs
    obtain ⟨x0, x1, x2, x3, y0, y1, y2⟩ := HCL.out w1 HB1.out
    have k0 := aft_cell x0
    have k1 := aft_cell x1
    have k2 := aft_cell x2
    have k3 := aft_cell x3
    have k4 := aft_cell y0
    have k5 := aft_cell y1
    have k6 := aft_cell y2
    clear x0 x1 x2 x3 y0 y1 y2
    have HRT1 := Lib.hid (fun W (hb : Below w1.heap.size w1 W) => HRT.out W (HB1.out.trans (hb.mono HB1.out.size)))
    obtain ⟨eq, HEQ⟩ := nameIt (rst == false && rsn == gs)
    simp only [HEQ.out] at HNE
    rw [HEQ.out] at HV2 HV3
    go_upto_region 4 with fail
    refine wp_region_after (by kernel_rfl) (by kernel_rfl) ?_
    repeat (go_big_quiet_step (first | (with_reducible exact Calls.after (HRT1.out _ (Aft.bel _))) | (with_reducible exact Calls.after (HCNE.out _))))
    refine wpQuiet_nil ?_
    rintro w2 ⟨⟨_, hb2⟩, rfl⟩
    have HB2 := Lib.hid (HB1.out.trans (hb2.mono HB1.out.size))
    clear hb2 k0 k1 k2 k3 k4 k5 k6 HNE HCNE HRT1 HRT
    cases eq with
    | false =>
      have HF := Lib.hid (HFIN.out w2 HB2.out _ _ _ (HV2.out (by simp) rfl))
      go_wp2_with fail
      first | exact HF.out | (refine bodyPost_ret (results_tmp3 Try.results18 _ _ _) rfl ?_; exact HF.out)
    | true =>
      have HV4 := Lib.hid (HV3.out (by simp) rfl)
      obtain ⟨x0, x1, x2, x3, y0, y1, y2⟩ := HCL.out w2 HB2.out
      go_upto_region 6 with fail
      go_cut [8, 10] (fun x y wx => Hid (OfMid g (.slice ra rl rcap) (L : Int) w0 x y wx))
      case first =>
        go_region_held3 (fun w' => w'.cell? ⟨w.heap.size, 0, none⟩ = some (.int .i64 gt) ∧ w'.cell? ⟨w.heap.size, 0 + 1, none⟩ = some (.int .i64 gn) ∧ w'.cell? ⟨w.heap.size, 0 + 2, none⟩ = some (.int .i64 gs) ∧ w'.cell? ⟨w.heap.size, 0 + 3, none⟩ = some (.slice ra rl rcap) ∧ w'.cell? ⟨w.heap.size + 1, 0, none⟩ = some (.int .i64 tr) ∧ w'.cell? ⟨w.heap.size + 1, 0 + 1, none⟩ = some (.int .i64 tm) ∧ w'.cell? ⟨w.heap.size + 1, 0 + 2, none⟩ = some (.slice at' tk ct))
          (first | exact HCL.out _ HB2.out.drew | exact HCL.out _ HB4.out | exact HCL.out _ HB3.out | fail)
          (first
            | (go_at_call 20; (with_reducible refine (HWD.out _ HB2.out.drew).mono ?_); rintro e w3 ⟨v3, rfl, hs3, hb3⟩; have HB3 : Hid (Below w0.heap.size w0 w3) := HB2.out.drew.trans (hb3.mono HB2.out.size); obtain ⟨a3, c3, rfl⟩ := hs3.form; rw [ints_len, HLW.out]; clear hs3 hb3)
            | (go_at_call 36; (with_reducible refine (HCN.out _ HB3.out).mono ?_); rintro e w4 ⟨hb4, p4, q4, c4, rfl, hc4⟩; have HB4 : Hid (Below w0.heap.size w0 w4) := HB3.out.trans (hb4.mono HB3.out.size); have HC4 := Lib.hid hc4; have HB3' := Lib.hid HB3.out; clear hb4 hc4)
            | fail)
        go_wp2_with fail
        go_meet
        exact ⟨HB4.out, w3, c4, rfl, HB3.out, HC4.out⟩
      case rest =>
        clear x0 x1 x2 x3 y0 y1 y2
        obtain ⟨hb4, ww, cc, rfl, hbw, hcf⟩ := hcut.out
        obtain ⟨w4, rfl⟩ : ∃ ww : World, ww = wc := ⟨_, rfl⟩
        have HB4 := Lib.hid hb4
        have HBW := Lib.hid hbw
        have HCF := Lib.hid hcf
        clear hcut hb4 hbw hcf
        obtain ⟨x0, x1, x2, x3, y0, y1, y2⟩ := HCL.out w4 HB4.out
        by_cases hcc : cc = 0
        · subst hcc
          rcases HCF.out with ⟨h1, h2⟩ | ⟨he, N, n', S, hok, hnl, hn24, hdn, ⟨h2, _⟩ | ⟨h2, _⟩ | ⟨_, d, w1', rfl, hbw1, hcr⟩⟩
          · exact absurd h2.symm h1
          · cases h2
          · cases h2
          obtain rfl : L = n' := by omega
          have HB1' : Hid (Below w0.heap.size w0 w1') := HBW.out.trans (hbw1.mono HBW.out.size)
          have HCR := Lib.hid hcr
          obtain ⟨w5, HW5⟩ := nameIt (w4.alloc (.cells #[.int .i64 gt, .int .i64 gn, .int .i64 gs, .slice ra rl rcap, .pointer (some ⟨d.cb, 0, none⟩)] 85))
          have HB45 : Hid (Below w4.heap.size w4 w5) := by rw [← HW5.out]; exact (Below.refl _ _).alloc (Nat.le_refl _) _
          have X5 : Hid (w5.heap[w4.heap.size]? = some (.cells #[.int .i64 gt, .int .i64 gn, .int .i64 gs, .slice ra rl rcap, .pointer (some ⟨d.cb, 0, none⟩)] 85 (0, 0))) := by rw [← HW5.out]; exact bx_new _ _ _ rfl
          have HC5 := Lib.hid (hcr.keep HB45.out)
          have HB5 := Lib.hid (HB4.out.trans (HB45.out.mono HB4.out.size))
          have HOF1 := Lib.hid (HOF.out (by simp) N d S w1' w5 w4.heap.size hok hn24 HB1'.out HC5.out hcr.cbl X5.out)
          have HFE : Hid (∀ w', Below w1'.heap.size w1' w' → ∀ i : Int, i = idxC g S N L 5000 t → PST (.returned (.tuple #[.int .i64 (L : Int), .int .i64 i, .int .i64 0])) w') := by
            intro w' hb' i hi
            exact HFIN.out w' (HB1'.out.trans (hb'.mono HB1'.out.size)) (L : Int) i 0 (HV4.out (L : Int) i 0 (.inr ⟨he, N, S, hok, hdn, .inr (.inr ⟨rfl, rfl, hi⟩)⟩))
          obtain ⟨xb, HXB⟩ := nameIt w4.heap.size
          rw [HXB.out] at HOF1 X5
          clear hok hbw1 hcr HCF he hnl hdn
          obtain ⟨z0, z1, z2, z3, z4, z5, z6⟩ := HCL.out w5 HB5.out
          clear x0 x1 x2 x3 y0 y1 y2
          obtain ⟨x0, x1, x2, x3, y0, y1, y2⟩ := HCL.out w4 HB4.out
          have hs1 : w.heap.size < w4.heap.size := lt_of_cell x0
          have hs2 : w.heap.size + 1 < w4.heap.size := lt_of_cell y0
          go_upto_region 9 with fail
          go_wp2_with fail
          simp only [HW5.out, HXB.out]
          with_reducible refine HOF1.out.mono ?_
          rintro e w6 ⟨i, rfl, hidx, hf6, hc6⟩
          rw [HL.out]
          have HF := Lib.hid (HFE.out w6 hc6.bel i hidx)
          clear hidx
          clear hf6 hc6
          go_wp2_with fail
          first | exact HF.out | (refine bodyPost_ret (results_tmp3 Try.results18 _ _ _) rfl ?_; exact HF.out)
        · have hcc' : (cc != 0) = true := by simpa using hcc
          have HF := Lib.hid (HFIN.out w4 HB4.out 0 0 cc (HV4.out 0 0 cc (by
            rcases HCF.out with ⟨h1, h2⟩ | ⟨h1, N, n', S, hok, hnl, _, hdn, ⟨h2, h3⟩ | ⟨h2, h3⟩ | ⟨h2, _⟩⟩
            · exact .inl ⟨h1, rfl, rfl, h2⟩
            · obtain rfl : L = n' := by omega
              exact .inr ⟨h1, N, S, hok, hdn, .inl ⟨h2, rfl, rfl, h3⟩⟩
            · obtain rfl : L = n' := by omega
              exact .inr ⟨h1, N, S, hok, hdn, .inr (.inl ⟨h2, rfl, rfl, h3⟩)⟩
            · exact absurd h2 hcc)))
          go_wp2_with fail
          first | exact HF.out | (refine bodyPost_ret (results_tmp3 Try.results18 _ _ _) rfl ?_; exact HF.out)
  · have HF := Lib.hid (HFIN.out w1 HB1.out _ _ _ (HV1.out hck))
    have hck' : (CK != 0) = true := by simpa using hck
    go_wp2_with fail
    first | exact HF.out | (refine bodyPost_ret (results_tmp3 Try.results18 _ _ _) rfl ?_; exact HF.out)
end Cs
end Go.Proofs.Ytbnpemgmdnghgaa
namespace Go.Proofs.Ytbnpemgmdnghgaa
open Go.RowKit
namespace Cs

theorem okC4 {g : Gram} (h : checkG g = 0) : ∀ r ∈ g.rules, r.right.length ≤ 1000 := by
  unfold checkG at h
  by_cases hb : badHead g = true
  · rw [if_pos hb] at h; cases h
  · rw [if_neg hb] at h
    by_cases hl : 32 < g.rules.length
    · rw [if_pos hl] at h; cases h
    · rw [if_neg hl] at h
      intro r hr
      have := (faultsFrom_zero h r hr).2.2.1
      omega
theorem errC_check {g : Gram} {n : Int} (h : errC g n = 0) : checkG g = 0 := by
  unfold errC at h
  by_cases h1 : checkG g ≠ 0
  · rw [if_pos h1] at h; exact absurd h h1
  · simpa using h1
theorem treeAll {g : Gram} {ra : Option Addr} {rcap N n : Nat} {d : Cid} {S : Nat → Nat → Bool} {w1 : World} {xb : Nat} (hok : OkC g N) (hn : n ≤ 24) (hR : Rd AnyB w1 (.sl (g.rules.map Rule.d)) [.slice ra g.rules.length rcap]) (hxb : d.cb < xb) (h4 : ∀ r ∈ g.rules, r.right.length ≤ 1000) :
    ∀ f, TreeP g (.slice ra g.rules.length rcap) N n d S w1 xb f
  | 0 => treeN hok hn hR hxb h4 fun f0 h => by omega
  | f + 1 => treeN hok hn hR hxb h4 fun f0 h => by
    obtain rfl : f = f0 := by omega
    exact listN hok hn hR hxb (treeAll hok hn hR hxb h4 f)
/-- what is counted is what is listed -/
theorem start_val {g : Gram} {N n : Nat} {S : Nat → Nat → Bool} (hok : OkC g N) (h1 : startC g S N n ≠ -1) (h2 : startC g S N n < MaxC) :
    startC g S N n = ((SE g S N n ⟨false, g.start⟩ n).length : Int) ∧ ((SE g S N n ⟨false, g.start⟩ n).length : Int) < MaxC ∧ (0 < (SE g S N n ⟨false, g.start⟩ n).length → MK g.rules S N n g.start.toNat n = false) := by
  obtain ⟨A, hA, hAN⟩ := start_off g N hok
  have hE := ends_MM (rules := g.rules) (S := S) (N := N) (n := n) hok.r
  have hst : startC g S N n = symV S (valK g.rules S (MK g.rules S N n) MaxC (-1) (sizeK N n)) ⟨false, (A : Int)⟩ n := by
    show tC g S N n g.start.toNat n = _
    rw [hA]; rfl
  rw [hA, Int.toNat_natCast]
  have hh : hasK S ⟨false, (A : Int)⟩ n = S A n := rfl
  by_cases hS : S A n = false
  · have e1 : startC g S N n = 0 := by rw [hst]; unfold symV; rw [if_pos (hh.trans hS)]
    have e2 : SE g S N n ⟨false, (A : Int)⟩ n = [] := by unfold SE symE; rw [if_pos (hh.trans hS)]
    rw [e1, e2]
    exact ⟨rfl, by decide, fun h => by simp at h⟩
  · by_cases hM : MK g.rules S N n A n = true
    · refine absurd ?_ h1
      rw [hst]
      unfold symV
      rw [if_neg (by rw [hh]; exact hS)]
      simp only [Bool.false_eq_true, if_false, Int.toNat_natCast]
      rw [valK_eq (T := clK g.rules S N n) (ends_MK hok.r) hAN (Nat.le_refl _), if_neg hS, if_pos hM]
    · have hM' : MK g.rules S N n A n = false := by simpa using hM
      have hv := symV_EN (cap := MaxC) (many := -1) (by decide) (by decide) hE (f := sizeK N n + 2) (s := ⟨false, (A : Int)⟩) (k := n) (fun _ => ⟨by simpa using hAN, Nat.le_refl _, by simpa using hM', by have := reachN_le (clK g.rules S N n) (sizeK N n) (((A : Int).toNat) * (n + 1) + n); simp only [] at this ⊢; omega⟩)
      rw [hst] at h2 ⊢
      rw [hv] at h2 ⊢
      change min ((SE g S N n ⟨false, (A : Int)⟩ n).length : Int) MaxC < MaxC at h2
      change min ((SE g S N n ⟨false, (A : Int)⟩ n).length : Int) MaxC = ((SE g S N n ⟨false, (A : Int)⟩ n).length : Int) ∧ _
      exact ⟨by omega, by omega, fun _ => hM'⟩
end Cs
end Go.Proofs.Ytbnpemgmdnghgaa
namespace Go.Proofs.Ytbnpemgmdnghgaa
open Go.RowKit
namespace Cs

def RtV (B : Nat) (g : Gram) (n i : Int) (r tm : Int) (v : Value) (c : Int) (w' : World) : Prop :=
  (errC g n ≠ 0 ∧ c = errC g n ∧ r = 0 ∧ tm = 0 ∧ v = .slice none 0 0) ∨
     (errC g n = 0 ∧ ∃ (N n' : Nat) (S : Nat → Nat → Bool), OkC g N ∧ n = (n' : Int) ∧ n' ≤ 24 ∧ DoneC g n' S ∧
      ((startC g S N n' = -1 ∧ c = 9 ∧ r = 0 ∧ tm = 0 ∧ v = .slice none 0 0) ∨ (startC g S N n' ≠ -1 ∧ MaxC ≤ startC g S N n' ∧ c = 2 ∧ r = 0 ∧ tm = 0 ∧ v = .slice none 0 0) ∨
       (startC g S N n' ≠ -1 ∧ startC g S N n' < MaxC ∧ (((i < 0 ∨ startC g S N n' ≤ i) ∧ c = 5 ∧ r = 0 ∧ tm = 0 ∧ v = .slice none 0 0) ∨
        (0 ≤ i ∧ i < startC g S N n' ∧ c = 0 ∧ ∃ t : Tree, (SE g S N n' ⟨false, g.start⟩ n')[i.toNat]? = some t ∧ r = t.rule ∧ tm = t.term ∧ Rd (fun k => B ≤ k) w' (.sl (t.kids.map Tree.d)) [v])))))
def RtPost (g : Gram) (n i : Int) (w : World) (e : Ending) (w' : World) : Prop := Below w.heap.size w w' ∧ ∃ (r tm : Int) (v : Value) (c : Int), e = .returned (.tuple #[.agg #[.int .i64 r, .int .i64 tm, v], .int .i64 c]) ∧ RtV w.heap.size g n i r tm v c w'
set_option maxHeartbeats 8000000 in
set_option maxRecDepth 100000 in
theorem rankTreeE (g : Gram) (ra : Option Addr) (rcap : Nat) (nn ii : Int) (w : World) (hr : Rd AnyB w (.sl (g.rules.map Rule.d)) [.slice ra g.rules.length rcap]) :
    Calls Try.prog 26 #[.agg #[.int .i64 g.terms, .int .i64 g.nons, .int .i64 g.start, .slice ra g.rules.length rcap], .int .i64 nn, .int .i64 ii] w (RtPost g nn ii w) := by
  obtain ⟨w0, HW0⟩ := nameIt ((w.alloc (.cells #[.int .i64 g.terms, .int .i64 g.nons, .int .i64 g.start, .slice ra g.rules.length rcap] 24)).alloc (.cells #[.int .i64 0, .int .i64 0, .slice none 0 0] 42))
  have hb0 : Below w.heap.size w w0 := by rw [← HW0.out]; exact ((Below.refl _ _).alloc (Nat.le_refl _) _).alloc (by simp) _
  have X0 : Hid (w0.heap[w.heap.size]? = some (.cells #[.int .i64 g.terms, .int .i64 g.nons, .int .i64 g.start, .slice ra g.rules.length rcap] 24 (0, 0))) := by rw [← HW0.out]; exact bx_keep (bx_new _ _ _ rfl) ((Below.refl _ _).alloc (Nat.le_refl _) _)
  have R0 : Hid (w0.heap[w.heap.size + 1]? = some (.cells #[.int .i64 0, .int .i64 0, .slice none 0 0] 42 (0, 0))) := by rw [← HW0.out]; exact bx_new _ _ _ (by simp)
  have HCN := Lib.hid (countE g ra rcap nn w0 (hr.below hb0))
  have HRD := Lib.hid (hr.below hb0)
  obtain ⟨PST, HP⟩ := nameIt (RtPost g nn ii w)
  rw [HP.out]
  have HERR : Hid (∀ w' (c : Int), Below w0.heap.size w0 w' → (∀ W, RtV w.heap.size g nn ii 0 0 (.slice none 0 0) c W) → PST (.returned (.tuple #[.agg #[.int .i64 0, .int .i64 0, .slice none 0 0], .int .i64 c])) (((w'.setCell ⟨w.heap.size + 1, 0, none⟩ (.int .i64 0)).setCell ⟨w.heap.size + 1, 1, none⟩ (.int .i64 0)).setCell ⟨w.heap.size + 1, 2, none⟩ (.slice none 0 0))) := by
    intro w' c hb hv
    rw [← HP.out]
    exact ⟨below_box3 (hb0.trans (hb.mono hb0.size)) (by omega) _ _ _, 0, 0, _, c, rfl, hv _⟩
  have HGD : Hid (∀ (N n : Nat) (S : Nat → Nat → Bool) (d : Cid) (w1 : World) (i : Nat), errC g nn = 0 → nn = (n : Int) → ii = (i : Int) → OkC g N → n ≤ 24 → DoneC g n S → startC g S N n ≠ -1 → startC g S N n < MaxC → (i : Int) < startC g S N n → Below w0.heap.size w0 w1 →
      ∃ t : Tree, (∀ W xb, CntR g (.slice ra g.rules.length rcap) N n d S w1 W → W.heap[xb]? = some (.cells #[.int .i64 g.terms, .int .i64 g.nons, .int .i64 g.start, .slice ra g.rules.length rcap, .pointer (some ⟨d.cb, 0, none⟩)] 85 (0, 0)) → d.cb < xb →
        Calls Try.prog 51 #[.pointer (some ⟨xb, 0, none⟩), .agg #[.bool false, .int .i64 g.start], .int .i64 (n : Int), .int .i64 (i : Int)] W (TrPost g (.slice ra g.rules.length rcap) N n d S w1 t W)) ∧
       ∀ W' (x y : Int) (z v : Value), CntR g (.slice ra g.rules.length rcap) N n d S w1 W' → Rd (fun k => k ≠ w.heap.size + 1 ∧ w.heap.size ≤ k) W' (.sl (t.kids.map Tree.d)) [v] → x = t.rule → y = t.term → z = v → PST (.returned (.tuple #[.agg #[.int .i64 t.rule, .int .i64 t.term, v], .int .i64 0])) (((W'.setCell ⟨w.heap.size + 1, 0, none⟩ (.int .i64 x)).setCell ⟨w.heap.size + 1, 1, none⟩ (.int .i64 y)).setCell ⟨w.heap.size + 1, 2, none⟩ z)) := by
    intro N n S d w1 i he hnn hii hok hn hdn h1 h2 h3 hb1
    obtain ⟨e1, e2, e3⟩ := start_val hok h1 h2
    have hil : i < (SE g S N n ⟨false, g.start⟩ n).length := by omega
    have hM := e3 (by omega)
    refine ⟨(SE g S N n ⟨false, g.start⟩ n)[i], ?_, ?_⟩
    · intro W xb hc hx hxb
      refine treeAll hok hn (HRD.out.below hb1) hxb (okC4 (errC_check he)) (sizeK N n + 1) ⟨false, g.start⟩ (fun _ => ⟨hok.s0, by have := hok.s1; have := hok.s0; simp; omega⟩) n (Nat.le_refl _) (fun _ => ?_) i _ (List.getElem?_eq_getElem hil) (by unfold MaxC at e2; omega) W hc hx
      exact ⟨by have := hok.s1; have := hok.s0; simp; omega, Nat.le_refl _, hM, Nat.lt_succ_of_le (reachN_le _ _ _)⟩
    · rintro W' x y z v hc hv rfl rfl rfl
      rw [← HP.out]
      refine ⟨below_box3 (hb0.trans ((hb1.trans (hc.bel.mono hb1.size)).mono hb0.size)) (by omega) _ _ _, _, _, z, 0, rfl, .inr ⟨he, N, n, S, hok, hnn, hn, hdn, .inr (.inr ⟨h1, h2, .inr ⟨by omega, by omega, rfl, _, ?_, rfl, rfl, (hv.box3 (by simp) _ _ _).mono (fun k hk _ => hk.2)⟩⟩)⟩⟩
      rw [hii, Int.toNat_natCast]
      exact List.getElem?_eq_getElem hil
  have HV1 : Hid (errC g nn ≠ 0 → ∀ W, RtV w.heap.size g nn ii 0 0 (.slice none 0 0) (errC g nn) W) := fun h W => .inl ⟨h, rfl, rfl, rfl, rfl⟩
  have HV2 : Hid (∀ (N n : Nat) (S : Nat → Nat → Bool), errC g nn = 0 → OkC g N → nn = (n : Int) → n ≤ 24 → DoneC g n S → (startC g S N n = -1 → ∀ W, RtV w.heap.size g nn ii 0 0 (.slice none 0 0) 9 W) ∧ (startC g S N n ≠ -1 → MaxC ≤ startC g S N n → ∀ W, RtV w.heap.size g nn ii 0 0 (.slice none 0 0) 2 W) ∧ (startC g S N n ≠ -1 → startC g S N n < MaxC → (ii < 0 ∨ startC g S N n ≤ ii) → ∀ W, RtV w.heap.size g nn ii 0 0 (.slice none 0 0) 5 W)) :=
    fun N n S h1 h2 h3 h4 h5 => ⟨fun h W => .inr ⟨h1, N, n, S, h2, h3, h4, h5, .inl ⟨h, rfl, rfl, rfl, rfl⟩⟩, fun h h' W => .inr ⟨h1, N, n, S, h2, h3, h4, h5, .inr (.inl ⟨h, h', rfl, rfl, rfl, rfl⟩)⟩, fun h h' hi W => .inr ⟨h1, N, n, S, h2, h3, h4, h5, .inr (.inr ⟨h, h', .inl ⟨hi, rfl, rfl, rfl, rfl⟩⟩)⟩⟩
  obtain ⟨gt, HGT⟩ := nameIt g.terms
  obtain ⟨gn, HGN⟩ := nameIt g.nons
  obtain ⟨gs, HGS⟩ := nameIt g.start
  obtain ⟨rl, HRL⟩ := nameIt g.rules.length
  rw [HGT.out, HGN.out, HGS.out, HRL.out] at HW0 X0 HCN
  simp only [HGT.out, HGN.out, HGS.out, HRL.out] at HGD
  rw [HGT.out, HGN.out, HGS.out, HRL.out]
  have HGB0 : Hid (∀ W', Below w0.heap.size w0 W' → W'.cell? ⟨w.heap.size, 0, none⟩ = some (.int .i64 gt) ∧ W'.cell? ⟨w.heap.size, 0 + 1, none⟩ = some (.int .i64 gn) ∧ W'.cell? ⟨w.heap.size, 0 + 2, none⟩ = some (.int .i64 gs) ∧ W'.cell? ⟨w.heap.size, 0 + 3, none⟩ = some (.slice ra rl rcap)) := fun W' h => bx_cells4 (bx_keep X0.out h)
  have HRB0 : Hid (∀ W', Below w0.heap.size w0 W' → W'.heap[w.heap.size + 1]? = some (.cells #[.int .i64 0, .int .i64 0, .slice none 0 0] 42 (0, 0))) := fun W' h => bx_keep R0.out h
  obtain ⟨gb, HGBN⟩ := nameIt w.heap.size
  rw [HGBN.out] at HERR HGD HGB0 HRB0
  simp only [HGBN.out] at HV1 HV2
  obtain ⟨rb, HRBN⟩ := nameIt (gb + 1)
  rw [HRBN.out] at HERR HGD HRB0
  obtain ⟨x0, x1, x2, x3⟩ := HGB0.out w0 (Below.refl _ _)
  clear hr hb0 HP X0 R0 HRD
  go_enter Try.func26, Try.ntmps26
  go_upto_region 1 with fail
  rw [HW0.out, HGBN.out]
  rw [HRBN.out]
  go_wp2_with fail
  with_reducible refine HCN.out.mono ?_
  clear x0 x1 x2 x3
  rintro e w3 ⟨hb3, ⟨h1, rfl⟩ | ⟨h1, N, n', S, h2, h3, h4, h5, ⟨h6, rfl⟩ | ⟨h6, h7, rfl⟩ | ⟨h6, h7, d, w1, rfl, hb1, hc3⟩⟩⟩
  · obtain ⟨y0, y1, y2⟩ := bx_cells3 (HRB0.out w3 hb3)
    obtain ⟨f0, f1, f2⟩ := bx_free3 (HRB0.out w3 hb3)
    have HF := Lib.hid (HERR.out w3 _ hb3 (HV1.out h1))
    obtain ⟨c, HC⟩ := nameIt (errC g nn)
    rw [HC.out] at HF h1
    rw [HC.out]
    have hc' : (c != 0) = true := by simpa using h1
    clear h1 hb3 HERR HGD HV1 HV2
    go_wp2_with fail
    refine bodyPost_ret (v := .tuple #[.agg #[.int .i64 0, .int .i64 0, .slice none 0 0], .int .i64 c]) (by simp [results, Try.results26, go_sem, y0, y1, y2]) rfl ?_
    simpa using HF.out
  · obtain ⟨y0, y1, y2⟩ := bx_cells3 (HRB0.out w3 hb3)
    obtain ⟨f0, f1, f2⟩ := bx_free3 (HRB0.out w3 hb3)
    have HF := Lib.hid (HERR.out w3 _ hb3 ((HV2.out N n' S h1 h2 h3 h4 h5).1 h6))
    clear h1 h2 h3 h4 h5 h6 hb3 HERR HGD HV1 HV2
    go_wp2_with fail
    refine bodyPost_ret (v := .tuple #[.agg #[.int .i64 0, .int .i64 0, .slice none 0 0], .int .i64 9]) (by simp [results, Try.results26, go_sem, y0, y1, y2]) rfl ?_
    simpa using HF.out
  · obtain ⟨y0, y1, y2⟩ := bx_cells3 (HRB0.out w3 hb3)
    obtain ⟨f0, f1, f2⟩ := bx_free3 (HRB0.out w3 hb3)
    have HF := Lib.hid (HERR.out w3 _ hb3 ((HV2.out N n' S h1 h2 h3 h4 h5).2.1 h6 h7))
    clear h1 h2 h3 h4 h5 h6 h7 hb3 HERR HGD HV1 HV2
    go_wp2_with fail
    refine bodyPost_ret (v := .tuple #[.agg #[.int .i64 0, .int .i64 0, .slice none 0 0], .int .i64 2]) (by simp [results, Try.results26, go_sem, y0, y1, y2]) rfl ?_
    simpa using HF.out
  · by_cases hi : ii < 0 ∨ startC g S N n' ≤ ii
    · obtain ⟨y0, y1, y2⟩ := bx_cells3 (HRB0.out w3 hb3)
      obtain ⟨f0, f1, f2⟩ := bx_free3 (HRB0.out w3 hb3)
      have HF := Lib.hid (HERR.out w3 _ hb3 ((HV2.out N n' S h1 h2 h3 h4 h5).2.2 h6 h7 hi))
      obtain ⟨st, HSTN⟩ := nameIt (startC g S N n')
      rw [HSTN.out] at hi
      rw [HSTN.out]
      clear h1 h2 h3 h4 h5 h6 h7 hb3 HERR HGD HV1 HV2 hc3 hb1
      by_cases hi0 : ii < 0
      · have hd0 : decide (ii < 0) = true := by simpa using hi0
        clear hi hi0
        go_wp2_with fail
        refine bodyPost_ret (v := .tuple #[.agg #[.int .i64 0, .int .i64 0, .slice none 0 0], .int .i64 5]) (by simp [results, Try.results26, go_sem, y0, y1, y2]) rfl ?_
        simpa using HF.out
      · have hd0 : decide (ii < 0) = false := by simpa using hi0
        have hd1 : decide (st ≤ ii) = true := by simp; omega
        clear hi hi0
        go_wp2_with fail
        refine bodyPost_ret (v := .tuple #[.agg #[.int .i64 0, .int .i64 0, .slice none 0 0], .int .i64 5]) (by simp [results, Try.results26, go_sem, y0, y1, y2]) rfl ?_
        simpa using HF.out
    · obtain ⟨n, hn'⟩ : ∃ x : Nat, x = n' := ⟨_, rfl⟩
      subst hn'
      obtain ⟨i, rfl⟩ : ∃ i : Nat, ii = (i : Int) := ⟨ii.toNat, by omega⟩
      subst h3
      obtain ⟨t, HTR0, HOK0⟩ := HGD.out N n S d w1 i h1 rfl rfl h2 h4 h5 h6 h7 (by omega) hb1
      have HTR := Lib.hid HTR0
      have HOK := Lib.hid HOK0
      have HC3 := Lib.hid hc3
      have HB1 := Lib.hid hb1
      have HGB := HGB0
      have HRB : Hid (∀ W', CntR g (.slice ra rl rcap) N n d S w1 W' → W'.heap[rb]? = some (.cells #[.int .i64 0, .int .i64 0, .slice none 0 0] 42 (0, 0))) := fun W' h => HRB0.out W' (hb1.trans (h.bel.mono hb1.size))
      obtain ⟨st, HSTN⟩ := nameIt (startC g S N n)
      rw [HSTN.out] at hi
      rw [HSTN.out]
      have hd0 : decide ((i : Int) < 0) = false := by simp
      have hd1 : decide (st ≤ (i : Int)) = false := by simp; omega
      clear h1 h2 h4 h5 h6 h7 hb3 hb1 hc3 HERR HGD HV1 HV2 HTR0 HOK0 hi HRB0 HSTN
      go_upto_region 6 with fail
      have HD3 : Hid (CntR g (.slice ra rl rcap) N n d S w1 w3.drew) := HC3.out.keep (Below.refl _ _).drew
      have HS : Hid (∀ W', CntR g (.slice ra rl rcap) N n d S w1 W' → (fun w' => w'.cell? ⟨gb, 0, none⟩ = some (.int .i64 gt) ∧ w'.cell? ⟨gb, 0 + 1, none⟩ = some (.int .i64 gn) ∧ w'.cell? ⟨gb, 0 + 2, none⟩ = some (.int .i64 gs) ∧ w'.cell? ⟨gb, 0 + 3, none⟩ = some (.slice ra rl rcap)) W') := fun W' h => HGB.out W' (HB1.out.trans (h.bel.mono HB1.out.size))
      obtain ⟨wd, HWD⟩ := nameIt w3.drew
      rw [HWD.out] at HD3
      refine wp_region_U (S := (fun w' => w'.cell? ⟨gb, 0, none⟩ = some (.int .i64 gt) ∧ w'.cell? ⟨gb, 0 + 1, none⟩ = some (.int .i64 gn) ∧ w'.cell? ⟨gb, 0 + 2, none⟩ = some (.int .i64 gs) ∧ w'.cell? ⟨gb, 0 + 3, none⟩ = some (.slice ra rl rcap))) 10 (by kernel_rfl) (fun inv => ?_)
      rw [HWD.out]
      refine wpU_take (i := 0) (v := .agg #[.int .i64 gt, .int .i64 gn, .int .i64 gs, .slice ra rl rcap]) rfl inv (by kernel_rfl) (by kernel_rfl) (by decide) (by decide) (by kernel_rfl) (by kernel_rfl) (by kernel_rfl) (fun _ _ _ h => h) (Or.inl ⟨by rfl, fun w' hw' => ?_⟩) (HS.out _ HD3.out) (fun inv => ?_)
      · obtain ⟨h0, h1, h2, h3⟩ := hw'
        go_simp
      try simp only [Act.put, List.setIfInBounds_toArray, List.set_cons_zero, List.set_cons_succ]
      refine wpU_take (i := 1) (v := .pointer (some ⟨d.cb, 0, none⟩)) rfl inv (by kernel_rfl) (by kernel_rfl) (by decide) (by decide) (by kernel_rfl) (by kernel_rfl) (by kernel_rfl) (fun _ _ _ h => h) (Or.inl ⟨by rfl, fun w' hw' => ?_⟩) (HS.out _ HD3.out) (fun inv => ?_)
      · obtain ⟨h0, h1, h2, h3⟩ := hw'
        go_simp
      try simp only [Act.put, List.setIfInBounds_toArray, List.set_cons_zero, List.set_cons_succ]
      refine wpU_take (i := 2) (v := .agg #[.int .i64 gt, .int .i64 gn, .int .i64 gs, .slice ra rl rcap, .pointer (some ⟨d.cb, 0, none⟩)]) rfl inv (by kernel_rfl) (by kernel_rfl) (by decide) (by decide) (by kernel_rfl) (by kernel_rfl) (by kernel_rfl) (fun _ _ _ h => h) (Or.inl ⟨by rfl, fun w' hw' => ?_⟩) (HS.out _ HD3.out) (fun inv => ?_)
      · obtain ⟨h0, h1, h2, h3⟩ := hw'
        go_simp
      try simp only [Act.put, List.setIfInBounds_toArray, List.set_cons_zero, List.set_cons_succ]
      refine wpU_take (i := 4) (v := .pointer (some ⟨gb, 0 + 2, none⟩)) rfl inv (by kernel_rfl) (by kernel_rfl) (by decide) (by decide) (by kernel_rfl) (by kernel_rfl) (by kernel_rfl) (fun _ _ _ h => h) (Or.inl ⟨by rfl, fun w' hw' => ?_⟩) (HS.out _ HD3.out) (fun inv => ?_)
      · obtain ⟨h0, h1, h2, h3⟩ := hw'
        go_simp
      try simp only [Act.put, List.setIfInBounds_toArray, List.set_cons_zero, List.set_cons_succ]
      refine wpU_take (i := 5) (v := .int .i64 gs) rfl inv (by kernel_rfl) (by kernel_rfl) (by decide) (by decide) (by kernel_rfl) (by kernel_rfl) (by kernel_rfl) (fun _ _ _ h => h) (Or.inl ⟨by rfl, fun w' hw' => ?_⟩) (HS.out _ HD3.out) (fun inv => ?_)
      · obtain ⟨h0, h1, h2, h3⟩ := hw'
        go_simp
      try simp only [Act.put, List.setIfInBounds_toArray, List.set_cons_zero, List.set_cons_succ]
      refine wpU_take (i := 7) (v := .int .i64 (n : Int)) rfl inv (by kernel_rfl) (by kernel_rfl) (by decide) (by decide) (by kernel_rfl) (by kernel_rfl) (by kernel_rfl) (fun _ _ _ h => h) (Or.inl ⟨by rfl, fun w' hw' => ?_⟩) (HS.out _ HD3.out) (fun inv => ?_)
      · obtain ⟨h0, h1, h2, h3⟩ := hw'
        go_simp
      try simp only [Act.put, List.setIfInBounds_toArray, List.set_cons_zero, List.set_cons_succ]
      refine wpU_take (i := 8) (v := .int .i64 (i : Int)) rfl inv (by kernel_rfl) (by kernel_rfl) (by decide) (by decide) (by kernel_rfl) (by kernel_rfl) (by kernel_rfl) (fun _ _ _ h => h) (Or.inl ⟨by rfl, fun w' hw' => ?_⟩) (HS.out _ HD3.out) (fun inv => ?_)
      · obtain ⟨h0, h1, h2, h3⟩ := hw'
        go_simp
      try simp only [Act.put, List.setIfInBounds_toArray, List.set_cons_zero, List.set_cons_succ]
      refine wpU_two (i := 3) (j := 6) (by kernel_rfl) rfl rfl (fun K hK => ?_) (fun K hK => ?_)
      · replace inv := inv_setc (i := 3) inv (by kernel_rfl) (by decide)
        go_simp
        obtain ⟨w4, HWw4⟩ := nameIt (wd.alloc (.cells #[.int .i64 gt, .int .i64 gn, .int .i64 gs, .slice ra rl rcap, .pointer (some ⟨d.cb, 0, none⟩)] 85))
        rw [HWw4.out]
        have HBw4 : Hid (Below wd.heap.size wd w4) := by rw [← HWw4.out]; exact (Below.refl _ _).alloc (Nat.le_refl _) _
        have Xw4 : Hid (w4.heap[wd.heap.size]? = some (.cells #[.int .i64 gt, .int .i64 gn, .int .i64 gs, .slice ra rl rcap, .pointer (some ⟨d.cb, 0, none⟩)] 85 (0, 0))) := by rw [← HWw4.out]; exact bx_new _ _ _ rfl
        have HC4 := Lib.hid (HD3.out.keep HBw4.out)
        have hcbw4 := HD3.out.cbl'
        clear HWw4
        refine hK.out _ _ (fun _ => HS.out _ HC4.out) ?_
        clear hK K
        try simp only [Act.put, List.setIfInBounds_toArray, List.set_cons_zero, List.set_cons_succ]
        refine wpU_one (i := 6) (by kernel_rfl) rfl (fun K hK => ?_)
        replace inv := inv_setc (i := 6) inv (by kernel_rfl) (by decide)
        go_simp
        with_reducible refine (gramN _ _).mono ?_
        rintro e w5 ⟨rfl, hbw5⟩
        have HC5 := Lib.hid (HC4.out.keep hbw5)
        refine hK.out _ _ (fun _ => HS.out _ HC5.out) ?_
        clear hK K
        try simp only [Act.put, List.setIfInBounds_toArray, List.set_cons_zero, List.set_cons_succ]
        have hcbx : d.cb < wd.heap.size := hcbw4
        refine wpU_one (i := 9) (by kernel_rfl) rfl (fun K hK => ?_)
        replace inv := inv_setc (i := 9) inv (by kernel_rfl) (by decide)
        go_simp
        with_reducible refine (HTR.out w5 wd.heap.size HC5.out (bx_keep Xw4.out hbw5) hcbx).mono ?_
        rintro e w6 ⟨v6, rfl, hr6, hf6, hc6⟩
        have hrl := (Array.getElem?_eq_some_iff.1 (HRB.out w5 HC5.out)).1
        have HF6 : Hid (Rd (fun k => k ≠ rb ∧ gb ≤ k) w6 (.sl (t.kids.map Tree.d)) [v6]) := hr6.mono (fun k hk _ => ⟨fun e => by subst e; exact absurd hrl (Nat.not_lt.2 hk), by have := HRBN.out; have h9 : w5.heap.size ≤ k := hk; omega⟩)
        obtain ⟨a6, c6, rfl, -, -⟩ := hr6.form
        obtain ⟨n6, HN6⟩ := nameIt (t.kids.map Tree.d).length
        rw [HN6.out] at HF6
        rw [HN6.out]
        have HC6 := Lib.hid hc6
        clear hr6 hf6 hc6
        refine hK.out _ _ (fun _ => HS.out _ HC6.out) ?_
        clear hK K
        try simp only [Act.put, List.setIfInBounds_toArray, List.set_cons_zero, List.set_cons_succ]
        obtain ⟨tr, HTRN⟩ := nameIt t.rule
        obtain ⟨tm, HTMN⟩ := nameIt t.term
        have R6 := HRB.out w6 HC6.out
        obtain ⟨y0, y1, y2⟩ := bx_cells3 R6
        obtain ⟨f0, f1, f2⟩ := bx_free3 R6
        have HE := Lib.hid (HOK.out w6 tr tm (.slice a6 n6 c6) (.slice a6 n6 c6) HC6.out HF6.out HTRN.out.symm HTMN.out.symm rfl)
        rw [HTRN.out, HTMN.out] at HE
        rw [HTRN.out, HTMN.out]
        clear R6 HF6
        refine wpU_one (i := 10) (by kernel_rfl) rfl (fun K hK => ?_)
        go_simp
        refine hK.out _ _ (fun h => absurd (show true = false from h) (by decide)) ?_
        clear hK K
        try simp only [Act.put, List.setIfInBounds_toArray, List.set_cons_zero, List.set_cons_succ]
        refine wpU_one (i := 11) (by kernel_rfl) rfl (fun K hK => ?_)
        go_simp
        refine hK.out _ _ (fun h => absurd (show true = false from h) (by decide)) ?_
        clear hK K
        try simp only [Act.put, List.setIfInBounds_toArray, List.set_cons_zero, List.set_cons_succ]
        refine wpU_done (by kernel_rfl) ?_ _
        go_wp2_with fail
        refine bodyPost_ret (v := .tuple #[.agg #[.int .i64 tr, .int .i64 tm, .slice a6 n6 c6], .int .i64 0]) (by simp [results, Try.results26, go_sem, y0, y1, y2]) rfl ?_
        simpa using HE.out
      · replace inv := inv_setc (i := 6) inv (by kernel_rfl) (by decide)
        go_simp
        with_reducible refine (gramN _ _).mono ?_
        rintro e w4 ⟨rfl, hbw4⟩
        have HC4 := Lib.hid (HD3.out.keep hbw4)
        refine hK.out _ _ (fun _ => HS.out _ HC4.out) ?_
        clear hK K
        try simp only [Act.put, List.setIfInBounds_toArray, List.set_cons_zero, List.set_cons_succ]
        refine wpU_one (i := 3) (by kernel_rfl) rfl (fun K hK => ?_)
        replace inv := inv_setc (i := 3) inv (by kernel_rfl) (by decide)
        go_simp
        obtain ⟨w5, HWw5⟩ := nameIt (w4.alloc (.cells #[.int .i64 gt, .int .i64 gn, .int .i64 gs, .slice ra rl rcap, .pointer (some ⟨d.cb, 0, none⟩)] 85))
        rw [HWw5.out]
        have HBw5 : Hid (Below w4.heap.size w4 w5) := by rw [← HWw5.out]; exact (Below.refl _ _).alloc (Nat.le_refl _) _
        have Xw5 : Hid (w5.heap[w4.heap.size]? = some (.cells #[.int .i64 gt, .int .i64 gn, .int .i64 gs, .slice ra rl rcap, .pointer (some ⟨d.cb, 0, none⟩)] 85 (0, 0))) := by rw [← HWw5.out]; exact bx_new _ _ _ rfl
        have HC5 := Lib.hid (HC4.out.keep HBw5.out)
        have hcbw5 := HC4.out.cbl'
        clear HWw5
        refine hK.out _ _ (fun _ => HS.out _ HC5.out) ?_
        clear hK K
        try simp only [Act.put, List.setIfInBounds_toArray, List.set_cons_zero, List.set_cons_succ]
        have hcbx : d.cb < w4.heap.size := hcbw5
        refine wpU_one (i := 9) (by kernel_rfl) rfl (fun K hK => ?_)
        replace inv := inv_setc (i := 9) inv (by kernel_rfl) (by decide)
        go_simp
        with_reducible refine (HTR.out w5 w4.heap.size HC5.out Xw5.out hcbx).mono ?_
        rintro e w6 ⟨v6, rfl, hr6, hf6, hc6⟩
        have hrl := (Array.getElem?_eq_some_iff.1 (HRB.out w5 HC5.out)).1
        have HF6 : Hid (Rd (fun k => k ≠ rb ∧ gb ≤ k) w6 (.sl (t.kids.map Tree.d)) [v6]) := hr6.mono (fun k hk _ => ⟨fun e => by subst e; exact absurd hrl (Nat.not_lt.2 hk), by have := HRBN.out; have h9 : w5.heap.size ≤ k := hk; omega⟩)
        obtain ⟨a6, c6, rfl, -, -⟩ := hr6.form
        obtain ⟨n6, HN6⟩ := nameIt (t.kids.map Tree.d).length
        rw [HN6.out] at HF6
        rw [HN6.out]
        have HC6 := Lib.hid hc6
        clear hr6 hf6 hc6
        refine hK.out _ _ (fun _ => HS.out _ HC6.out) ?_
        clear hK K
        try simp only [Act.put, List.setIfInBounds_toArray, List.set_cons_zero, List.set_cons_succ]
        obtain ⟨tr, HTRN⟩ := nameIt t.rule
        obtain ⟨tm, HTMN⟩ := nameIt t.term
        have R6 := HRB.out w6 HC6.out
        obtain ⟨y0, y1, y2⟩ := bx_cells3 R6
        obtain ⟨f0, f1, f2⟩ := bx_free3 R6
        have HE := Lib.hid (HOK.out w6 tr tm (.slice a6 n6 c6) (.slice a6 n6 c6) HC6.out HF6.out HTRN.out.symm HTMN.out.symm rfl)
        rw [HTRN.out, HTMN.out] at HE
        rw [HTRN.out, HTMN.out]
        clear R6 HF6
        refine wpU_one (i := 10) (by kernel_rfl) rfl (fun K hK => ?_)
        go_simp
        refine hK.out _ _ (fun h => absurd (show true = false from h) (by decide)) ?_
        clear hK K
        try simp only [Act.put, List.setIfInBounds_toArray, List.set_cons_zero, List.set_cons_succ]
        refine wpU_one (i := 11) (by kernel_rfl) rfl (fun K hK => ?_)
        go_simp
        refine hK.out _ _ (fun h => absurd (show true = false from h) (by decide)) ?_
        clear hK K
        try simp only [Act.put, List.setIfInBounds_toArray, List.set_cons_zero, List.set_cons_succ]
        refine wpU_done (by kernel_rfl) ?_ _
        go_wp2_with fail
        refine bodyPost_ret (v := .tuple #[.agg #[.int .i64 tr, .int .i64 tm, .slice a6 n6 c6], .int .i64 0]) (by simp [results, Try.results26, go_sem, y0, y1, y2]) rfl ?_
        simpa using HE.out

end Cs
end Go.Proofs.Ytbnpemgmdnghgaa
namespace Go.Proofs.Ytbnpemgmdnghgaa
open Go.RowKit

/-- a block that is known whole is a row -/
theorem own_of_block {w : World} {g : Nat} {e : TypeId} {size n : Nat} {cur : Array Value} (h : w.heap[g]? = some (.cells cur e (0, 0))) (hn : cur.size = n * size) (hm : n ≤ maxLen) : w.ownsRow 0 e size (.slice (some ⟨g, 0, none⟩) n n) n cur.toList :=
  ⟨by simpa using hn, .inr ⟨_, n, cur, rfl, Nat.zero_le _, h, Nat.le_refl _, hm, hn, by rw [← hn]; exact List.take_of_length_le (by simp)⟩⟩
end Go.Proofs.Ytbnpemgmdnghgaa
namespace Go.Proofs.Ytbnpemgmdnghgaa
open Go.RowKit
namespace Cs

def GramPostC (g : Gram) (w : World) (e : Ending) (w' : World) : Prop := ∃ v, e = .returned (.agg #[.int .i64 g.terms, .int .i64 g.nons, .int .i64 g.start, v]) ∧ Rd AnyB w' (.sl (g.rules.map Rule.d)) [v] ∧ Below w.heap.size w w'
def plG : Gram := ⟨2, 1, 0, [⟨0, [⟨true, 0⟩]⟩, ⟨0, [⟨true, 1⟩, ⟨false, 0⟩]⟩]⟩
set_option maxHeartbeats 1000000 in
theorem plE (w : World) : Calls Try.prog 8 #[] w (GramPostC plG w) := by
  go_enter Try.func8, Try.ntmps8
  go_wp2_with fail
  refine bodyPost_ret (v := .agg #[.int .i64 2, .int .i64 1, .int .i64 0, .slice (some ⟨w.heap.size + 1 + 1 + 1, 0, none⟩) 2 2]) (by simp [results, Try.results8, go_sem]) rfl ?_
  refine ⟨_, rfl, ?_, ((((Below.refl _ _).alloc (Nat.le_refl _) _).alloc (by simp) _).alloc (by simp; omega) _).alloc (by simp; omega) _⟩
  refine rd_of_own (own_of_block (bx_new _ _ _ (by simp)) (n := 2) (size := 2) rfl (by simp [maxLen])) ?_ rfl (fun _ _ => trivial)
  refine ⟨[.int .i64 0, .slice (some ⟨w.heap.size + 1, 0, none⟩) 1 1], [.int .i64 0, .slice (some ⟨w.heap.size + 1 + 1, 0, none⟩) 2 2], rfl, ?_, RdAll.one ?_⟩
  · refine rd_rule (r := ⟨0, [⟨true, 0⟩]⟩) ?_
    exact rd_of_own (own_of_block (bx_keep (bx_keep (bx_new _ _ _ (by simp)) ((Below.refl _ _).alloc (Nat.le_refl _) _)) ((Below.refl _ _).alloc (Nat.le_refl _) _)) (n := 1) (size := 2) rfl (by simp [maxLen])) (RdAll.one (rd_sym ⟨true, 0⟩)) rfl (fun _ _ => trivial)
  · refine rd_rule (r := ⟨0, [⟨true, 1⟩, ⟨false, 0⟩]⟩) ?_
    refine rd_of_own (own_of_block (bx_keep (bx_new _ _ _ (by simp)) ((Below.refl _ _).alloc (Nat.le_refl _) _)) (n := 2) (size := 2) rfl (by simp [maxLen])) ?_ rfl (fun _ _ => trivial)
    exact ⟨[.bool true, .int .i64 1], [.bool false, .int .i64 0], rfl, rd_sym ⟨true, 1⟩, RdAll.one (rd_sym ⟨false, 0⟩)⟩
theorem plain_fix : (p3 4 plG.rules (itP 4 plG.rules 1 (fun _ _ => false))).2 = false := by decide +kernel
theorem plain_start : startC plG (itP 4 plG.rules 1 (fun _ _ => false)) 1 4 = 1 := by decide +kernel
theorem plain_err : errC plG 4 = 0 := by decide +kernel
def CountPost (g : Gram) (n : Int) (w : World) (e : Ending) (w' : World) : Prop :=
  Below w.heap.size w w' ∧ ((errC g n ≠ 0 ∧ e = .returned (.tuple #[.int .i64 0, .int .i64 (errC g n)])) ∨
    (errC g n = 0 ∧ ∃ (N n' : Nat) (S : Nat → Nat → Bool), OkC g N ∧ n = (n' : Int) ∧ n' ≤ 24 ∧ DoneC g n' S ∧
      ((startC g S N n' = -1 ∧ e = .returned (.tuple #[.int .i64 0, .int .i64 9])) ∨
       (startC g S N n' ≠ -1 ∧ MaxC ≤ startC g S N n' ∧ e = .returned (.tuple #[.int .i64 0, .int .i64 2])) ∨
       (startC g S N n' ≠ -1 ∧ startC g S N n' < MaxC ∧ e = .returned (.tuple #[.int .i64 (startC g S N n'), .int .i64 0])))))
set_option maxHeartbeats 4000000 in
set_option maxRecDepth 100000 in
theorem rankCountE (g : Gram) (ra : Option Addr) (rcap : Nat) (n : Int) (w : World) (hr : Rd AnyB w (.sl (g.rules.map Rule.d)) [.slice ra g.rules.length rcap]) :
    Calls Try.prog 17 #[.agg #[.int .i64 g.terms, .int .i64 g.nons, .int .i64 g.start, .slice ra g.rules.length rcap], .int .i64 n] w (CountPost g n w) := by
  obtain ⟨w0, HW0⟩ := nameIt (w.alloc (.cells #[.int .i64 g.terms, .int .i64 g.nons, .int .i64 g.start, .slice ra g.rules.length rcap] 24))
  have hb0 : Below w.heap.size w w0 := by rw [← HW0.out]; exact (Below.refl _ _).alloc (Nat.le_refl _) _
  have X0 : Hid (w0.heap[w.heap.size]? = some (.cells #[.int .i64 g.terms, .int .i64 g.nons, .int .i64 g.start, .slice ra g.rules.length rcap] 24 (0, 0))) := by rw [← HW0.out]; exact bx_new _ _ _ rfl
  have HCN := Lib.hid (countE g ra rcap n w0 (hr.below hb0))
  obtain ⟨PST, HP⟩ := nameIt (CountPost g n w)
  rw [HP.out]
  have HF : Hid (∀ w', Below w0.heap.size w0 w' → ∀ x y : Int, ((errC g n ≠ 0 ∧ x = 0 ∧ y = errC g n) ∨
    (errC g n = 0 ∧ ∃ (N n' : Nat) (S : Nat → Nat → Bool), OkC g N ∧ n = (n' : Int) ∧ n' ≤ 24 ∧ DoneC g n' S ∧
      ((startC g S N n' = -1 ∧ x = 0 ∧ y = 9) ∨ (startC g S N n' ≠ -1 ∧ MaxC ≤ startC g S N n' ∧ x = 0 ∧ y = 2) ∨ (startC g S N n' ≠ -1 ∧ startC g S N n' < MaxC ∧ x = startC g S N n' ∧ y = 0)))) → PST (.returned (.tuple #[.int .i64 x, .int .i64 y])) w') := by
    intro w' h x y hh
    rw [← HP.out]
    refine ⟨hb0.trans (h.mono hb0.size), ?_⟩
    rcases hh with ⟨h1, rfl, rfl⟩ | ⟨h1, N, n', S, h2, h3, h4, h5, ⟨h6, rfl, rfl⟩ | ⟨h6, h7, rfl, rfl⟩ | ⟨h6, h7, rfl, rfl⟩⟩
    · exact .inl ⟨h1, rfl⟩
    · exact .inr ⟨h1, N, n', S, h2, h3, h4, h5, .inl ⟨h6, rfl⟩⟩
    · exact .inr ⟨h1, N, n', S, h2, h3, h4, h5, .inr (.inl ⟨h6, h7, rfl⟩)⟩
    · exact .inr ⟨h1, N, n', S, h2, h3, h4, h5, .inr (.inr ⟨h6, h7, rfl⟩)⟩
  obtain ⟨gt, HGT⟩ := nameIt g.terms
  obtain ⟨gn, HGN⟩ := nameIt g.nons
  obtain ⟨gs, HGS⟩ := nameIt g.start
  obtain ⟨rl, HRL⟩ := nameIt g.rules.length
  rw [HGT.out, HGN.out, HGS.out, HRL.out] at HW0 X0 HCN
  rw [HGT.out, HGN.out, HGS.out, HRL.out]
  obtain ⟨x0, x1, x2, x3⟩ := bx_cells4 X0.out
  clear hb0 hr HP
  go_enter Try.func17, Try.ntmps17
  go_upto_region 1 with fail
  rw [HW0.out]
  go_wp2_with fail
  with_reducible refine HCN.out.mono ?_
  clear x0 x1 x2 x3
  rintro e w1 ⟨hb1, ⟨h1, rfl⟩ | ⟨h1, N, n', S, h2, h3, h4, h5, ⟨h6, rfl⟩ | ⟨h6, h7, rfl⟩ | ⟨h6, h7, d, w2, rfl, -, -⟩⟩⟩
  · have HE := Lib.hid (HF.out w1 hb1 _ _ (.inl ⟨h1, rfl, rfl⟩))
    obtain ⟨c, HC⟩ := nameIt (errC g n)
    rw [HC.out] at HE
    rw [HC.out]
    clear hb1 h1 HF
    go_wp2_with fail
    first | exact HE.out | (refine bodyPost_ret (results_tmp2 Try.results17 _ _ _) rfl ?_; exact HE.out)
  · have HE := Lib.hid (HF.out w1 hb1 _ _ (.inr ⟨h1, N, n', S, h2, h3, h4, h5, .inl ⟨h6, rfl, rfl⟩⟩))
    clear hb1 h1 h2 h3 h4 h5 h6 HF
    go_wp2_with fail
    first | exact HE.out | (refine bodyPost_ret (results_tmp2 Try.results17 _ _ _) rfl ?_; exact HE.out)
  · have HE := Lib.hid (HF.out w1 hb1 _ _ (.inr ⟨h1, N, n', S, h2, h3, h4, h5, .inr (.inl ⟨h6, h7, rfl, rfl⟩)⟩))
    clear hb1 h1 h2 h3 h4 h5 h6 h7 HF
    go_wp2_with fail
    first | exact HE.out | (refine bodyPost_ret (results_tmp2 Try.results17 _ _ _) rfl ?_; exact HE.out)
  · have HE := Lib.hid (HF.out w1 hb1 _ _ (.inr ⟨h1, N, n', S, h2, h3, h4, h5, .inr (.inr ⟨h6, h7, rfl, rfl⟩)⟩))
    obtain ⟨c, HC⟩ := nameIt (startC g S N n')
    rw [HC.out] at HE
    rw [HC.out]
    clear hb1 h1 h2 h3 h4 h5 h6 h7 HF
    go_wp2_with fail
    first | exact HE.out | (refine bodyPost_ret (results_tmp2 Try.results17 _ _ _) rfl ?_; exact HE.out)
/-- at the plain grammar -/
theorem countPlainE (ra : Option Addr) (rcap : Nat) (w : World) (hr : Rd AnyB w (.sl (plG.rules.map Rule.d)) [.slice ra plG.rules.length rcap]) :
    Calls Try.prog 17 #[.agg #[.int .i64 2, .int .i64 1, .int .i64 0, .slice ra 2 rcap], .int .i64 4] w (fun e w' => e = .returned (.tuple #[.int .i64 1, .int .i64 0]) ∧ Below w.heap.size w w') := by
  refine (rankCountE plG ra rcap 4 w hr).mono ?_
  rintro e w' ⟨hb, ⟨h1, _⟩ | ⟨h1, N, n', S, h2, h3, h4, h5, h6⟩⟩
  · exact absurd plain_err h1
  · obtain rfl : n' = 4 := by omega
    obtain rfl : N = 1 := by have := h2.nons; simp [plG] at this; omega
    obtain ⟨⟨q, hq⟩, hp⟩ := h5
    have hS := done_eq (p := 1) (N := 1) (fun r hr => (h2.l r hr).2) hq hp plain_fix
    rw [hS, plain_start] at h6
    rcases h6 with ⟨h6, _⟩ | ⟨_, h6, _⟩ | ⟨_, _, he⟩
    · cases h6
    · exact absurd h6 (by decide)
    · exact ⟨he, hb⟩
end Cs
end Go.Proofs.Ytbnpemgmdnghgaa
namespace Go.Proofs.Ytbnpemgmdnghgaa.Draw

/-- the number that a word of coins spells, the first coin highest -/
def val (l : List Bool) : Nat := l.foldl (fun x b => 2 * x + cond b 1 0) 0

def chunk (k : Nat) (l : List Bool) (i : Nat) : List Bool := (l.drop (i * k)).take k
def good (n k : Nat) (l : List Bool) (i : Nat) : Bool := decide ((i + 1) * k ≤ l.length) && decide (val (chunk k l i) < n)
end Go.Proofs.Ytbnpemgmdnghgaa.Draw
namespace Go.Proofs.Ytbnpemgmdnghgaa
open Go.RowKit

end Go.Proofs.Ytbnpemgmdnghgaa
namespace Go.Proofs.Ytbnpemgmdnghgaa
open Go.RowKit

end Go.Proofs.Ytbnpemgmdnghgaa
namespace Go.Proofs.Ytbnpemgmdnghgaa
open Go.RowKit
namespace Cs

end Cs
end Go.Proofs.Ytbnpemgmdnghgaa
namespace Go.Proofs.Ytbnpemgmdnghgaa
open Go.RowKit
namespace Cs

end Cs
end Go.Proofs.Ytbnpemgmdnghgaa
namespace Go.Proofs.Ytbnpemgmdnghgaa
open Go.RowKit
namespace Cs

def lsStep (most : Nat) (out : List (List Tree)) (a : Option (List Tree)) (b : Option (List (List Tree))) : Option (List (List Tree)) :=
  match a, b with
  | some a, some b => if most < (out ++ prodL a b).length then none else some (out ++ prodL a b)
  | _, _ => none
def lsL (H : Nat → Nat → Bool) (most : Nat) (o : Sym → Nat → Option (List Tree)) : List Sym → Nat → Option (List (List Tree))
  | [], k => if k = 0 then some [[]] else none
  | s :: l, k => (List.range (k + 1)).foldl (fun acc j => acc.bind fun out => if (hasK H s j && canK H l (k - j)) = true then lsStep most out (o s j) (lsL H most o l (k - j)) else some out) (some [])
def lsR (H : Nat → Nat → Bool) (most : Nat) (o : Sym → Nat → Option (List Tree)) (A : Int) (k : Nat) : List Rule → Nat → List Tree → Option (List Tree)
  | [], _, out => some out
  | r :: rs, j, out => if (decide (r.left = A) && canK H r.right k) = true then
      (match lsL H most o r.right k with
       | none => none
       | some b => if most < (out ++ b.map fun ks => Tree.node (j : Int) 0 ks).length then none else lsR H most o A k rs (j + 1) (out ++ b.map fun ks => Tree.node (j : Int) 0 ks))
    else lsR H most o A k rs (j + 1) out
def lsT (H : Nat → Nat → Bool) (most : Nat) (rules : List Rule) : Nat → Sym → Nat → Option (List Tree)
  | 0, s, k => if s.term then some (if k = 1 then [.node (-1) s.n []] else []) else none
  | d + 1, s, k => if s.term then some (if k = 1 then [.node (-1) s.n []] else []) else lsR H most (lsT H most rules d) s.n k rules 0 []
theorem lsStep_some {most : Nat} {out R : List (List Tree)} {a : Option (List Tree)} {b : Option (List (List Tree))} (h : lsStep most out a b = some R) : ∃ x y, a = some x ∧ b = some y ∧ R = out ++ prodL x y ∧ R.length ≤ most := by
  cases a with
  | none => simp [lsStep] at h
  | some x =>
    cases b with
    | none => simp [lsStep] at h
    | some y =>
      unfold lsStep at h
      simp only at h
      by_cases hm : most < (out ++ prodL x y).length
      · rw [if_pos hm] at h; cases h
      · rw [if_neg hm] at h
        cases h
        exact ⟨x, y, rfl, rfl, rfl, by omega⟩
/-- the first lengths -/
def lsF (H : Nat → Nat → Bool) (most : Nat) (o : Sym → Nat → Option (List Tree)) (s : Sym) (l : List Sym) (k m : Nat) : Option (List (List Tree)) := (List.range m).foldl (fun acc j => acc.bind fun out => if (hasK H s j && canK H l (k - j)) = true then lsStep most out (o s j) (lsL H most o l (k - j)) else some out) (some [])
theorem lsF_zero {H : Nat → Nat → Bool} {most : Nat} {o : Sym → Nat → Option (List Tree)} {s : Sym} {l : List Sym} {k : Nat} : lsF H most o s l k 0 = some [] := rfl
theorem lsF_next {H : Nat → Nat → Bool} {most : Nat} {o : Sym → Nat → Option (List Tree)} {s : Sym} {l : List Sym} {k m : Nat} : lsF H most o s l k (m + 1) = (lsF H most o s l k m).bind fun out => if (hasK H s m && canK H l (k - m)) = true then lsStep most out (o s m) (lsL H most o l (k - m)) else some out := by
  unfold lsF; rw [List.range_succ, List.foldl_append]; rfl
theorem lsL_F {H : Nat → Nat → Bool} {most : Nat} {o : Sym → Nat → Option (List Tree)} {s : Sym} {l : List Sym} {k : Nat} : lsL H most o (s :: l) k = lsF H most o s l k (k + 1) := by rw [lsL]; rfl
theorem lsF_none {H : Nat → Nat → Bool} {most : Nat} {o : Sym → Nat → Option (List Tree)} {s : Sym} {l : List Sym} {k m m' : Nat} (h : lsF H most o s l k m = none) (hm : m ≤ m') : lsF H most o s l k m' = none := by
  induction m' with
  | zero => obtain rfl : m = 0 := by omega
            exact h
  | succ m' ih =>
    by_cases e : m = m' + 1
    · subst e; exact h
    · rw [lsF_next, ih (by omega)]; rfl
theorem enL_zero {H : Nat → Nat → Bool} {e : Sym → Nat → List Tree} : ∀ (l : List Sym) (k : Nat), canK H l k = false → enL H e l k = []
  | [], k, h => by
    unfold canK at h
    unfold enL
    rw [if_neg (by simpa using h)]
  | s :: l, k, h => by
    rw [enL]
    rw [List.flatMap_eq_nil_iff]
    intro i hi
    rw [if_neg]
    intro c
    rw [Bool.and_eq_true] at c
    have : canK H (s :: l) k = true := canK_cons.2 ⟨i, by have := List.mem_range.1 hi; omega, c.1, c.2⟩
    rw [this] at h; cases h
theorem lsL_enO {H : Nat → Nat → Bool} {most : Nat} {o : Sym → Nat → Option (List Tree)} {e : Sym → Nat → List Tree} : ∀ (l : List Sym), (∀ s ∈ l, ∀ j L, hasK H s j = true → o s j = some L → L = e s j) → ∀ (k : Nat) (R : List (List Tree)), lsL H most o l k = some R → R = enL H e l k
  | [], _, k, R, h => by
    unfold lsL at h
    unfold enL
    by_cases hk : k = 0
    · rw [if_pos hk] at h ⊢; cases h; rfl
    · rw [if_neg hk] at h; cases h
  | s :: l, ho, k, R, h => by
    rw [lsL_F] at h
    rw [enL_pre]
    have key : ∀ m R, lsF H most o s l k m = some R → R = pre H e s l k m := by
      intro m
      induction m with
      | zero => intro R h; rw [lsF_zero] at h; cases h; rfl
      | succ m ih =>
        intro R h
        rw [lsF_next] at h
        cases h0 : lsF H most o s l k m with
        | none => rw [h0] at h; cases h
        | some out =>
          rw [h0] at h
          simp only [Option.bind_some] at h
          rw [pre_next, ← ih out h0]
          unfold blk
          by_cases c : (hasK H s m && canK H l (k - m)) = true
          · rw [if_pos c] at h ⊢
            obtain ⟨x, y, hx, hy, rfl, _⟩ := lsStep_some h
            rw [Bool.and_eq_true] at c
            rw [ho s List.mem_cons_self m x c.1 hx, lsL_enO l (fun s' hs' => ho s' (List.mem_cons_of_mem _ hs')) (k - m) y hy]
          · rw [if_neg c] at h ⊢
            cases h
            simp
    exact key _ _ h
theorem lsR_enO {H : Nat → Nat → Bool} {most : Nat} (rules : List Rule) (hn : ∀ r ∈ rules, ∀ s ∈ r.right, s.term = false → 0 ≤ s.n) {d : Nat} (ih : ∀ (s : Sym) (k : Nat) (L : List Tree), (s.term = false → 0 ≤ s.n) → hasK H s k = true → lsT H most rules d s k = some L → L = symE H (enF rules H d) s k) {A : Int} {k : Nat} : ∀ (rs : List Rule), (∀ r ∈ rs, r ∈ rules) → ∀ (j : Nat) (out L : List Tree), lsR H most (lsT H most rules d) A k rs j out = some L → L = out ++ enR H (symE H (enF rules H d)) A k rs j
  | [], _, j, out, L, h => by unfold lsR at h; cases h; simp [enR]
  | r :: rs, hrs, j, out, L, h => by
    rw [lsR] at h
    rw [enR]
    by_cases c : (decide (r.left = A) && canK H r.right k) = true
    · rw [if_pos c] at h
      rw [Bool.and_eq_true, decide_eq_true_eq] at c
      rw [if_pos c.1]
      cases hb : lsL H most (lsT H most rules d) r.right k with
      | none => rw [hb] at h; cases h
      | some b =>
        rw [hb] at h
        simp only at h
        by_cases hm : most < (out ++ b.map fun ks => Tree.node (j : Int) 0 ks).length
        · rw [if_pos hm] at h; cases h
        · rw [if_neg hm] at h
          rw [lsR_enO rules hn ih rs (fun r' h' => hrs r' (List.mem_cons_of_mem _ h')) (j + 1) _ L h, lsL_enO r.right (fun s hs j' L' h1 h2 => ih s j' L' (hn r (hrs r List.mem_cons_self) s hs) h1 h2) _ _ hb, List.append_assoc]
    · rw [if_neg c] at h
      have hz : (if r.left = A then (enL H (symE H (enF rules H d)) r.right k).map fun ks => Tree.node (j : Int) 0 ks else []) = [] := by
        by_cases hl : r.left = A
        · rw [if_pos hl]
          have hc : canK H r.right k = false := by
            cases hc : canK H r.right k with
            | false => rfl
            | true => rw [hc] at c; simp [hl] at c
          rw [enL_zero _ _ hc]; rfl
        · rw [if_neg hl]
      rw [hz, List.nil_append]
      exact lsR_enO rules hn ih rs (fun r' h' => hrs r' (List.mem_cons_of_mem _ h')) (j + 1) out L h
theorem lsT_en {H : Nat → Nat → Bool} {most : Nat} {rules : List Rule} (hn : ∀ r ∈ rules, ∀ s ∈ r.right, s.term = false → 0 ≤ s.n) : ∀ (d : Nat) (s : Sym) (k : Nat) (L : List Tree), (s.term = false → 0 ≤ s.n) → hasK H s k = true → lsT H most rules d s k = some L → L = symE H (enF rules H d) s k := by
  intro d
  have hterm : ∀ (d : Nat) (s : Sym) (k : Nat) (L : List Tree), s.term = true → hasK H s k = true → lsT H most rules d s k = some L → L = symE H (enF rules H d) s k := by
    intro d s k L ht hh h
    have hk : k = 1 := by unfold hasK at hh; rw [ht] at hh; simpa using hh
    have h1 : lsT H most rules d s k = some (if k = 1 then [.node (-1) s.n []] else []) := by cases d <;> (unfold lsT; rw [ht]; rfl)
    rw [h1, if_pos hk] at h
    cases h
    unfold symE
    rw [if_neg (by rw [hh]; decide), ht]
    rfl
  induction d with
  | zero =>
    intro s k L hs hh h
    cases ht : s.term with
    | true => exact hterm 0 s k L ht hh h
    | false => unfold lsT at h; rw [ht] at h; cases h
  | succ d ih =>
    intro s k L hs hh h
    cases ht : s.term with
    | true => exact hterm (d + 1) s k L ht hh h
    | false =>
      rw [lsT, ht] at h
      simp only [Bool.false_eq_true, if_false] at h
      have hS : H s.n.toNat k = true := by unfold hasK at hh; rw [ht] at hh; simpa using hh
      have hl := lsR_enO rules hn ih rules (fun r hr => hr) 0 [] L h
      rw [hl, List.nil_append]
      have he : symE H (enF rules H (d + 1)) s k = enF rules H (d + 1) s.n.toNat k := by
        unfold symE
        rw [if_neg (by rw [hh]; decide), ht]
        rfl
      rw [he, enF, if_neg (by rw [hS]; decide), Int.toNat_of_nonneg (hs ht)]
theorem lsL_mono {H : Nat → Nat → Bool} {most : Nat} {o o' : Sym → Nat → Option (List Tree)} (ho : ∀ s j L, o s j = some L → o' s j = some L) : ∀ (l : List Sym) (k : Nat) (R : List (List Tree)), lsL H most o l k = some R → lsL H most o' l k = some R
  | [], k, R, h => h
  | s :: l, k, R, h => by
    rw [lsL_F] at h ⊢
    have key : ∀ m R, lsF H most o s l k m = some R → lsF H most o' s l k m = some R := by
      intro m
      induction m with
      | zero => intro R h; exact h
      | succ m ih =>
        intro R h
        rw [lsF_next] at h ⊢
        cases h0 : lsF H most o s l k m with
        | none => rw [h0] at h; cases h
        | some out =>
          rw [h0] at h
          rw [ih out h0]
          simp only [Option.bind_some] at h ⊢
          by_cases c : (hasK H s m && canK H l (k - m)) = true
          · rw [if_pos c] at h ⊢
            obtain ⟨x, y, hx, hy, rfl, hm⟩ := lsStep_some h
            rw [ho s m x hx, lsL_mono ho l (k - m) y hy]
            unfold lsStep
            simp only
            rw [if_neg (by omega)]
          · rw [if_neg c] at h ⊢
            exact h
    exact key _ _ h
theorem lsR_mono {H : Nat → Nat → Bool} {most : Nat} {o o' : Sym → Nat → Option (List Tree)} (ho : ∀ s j L, o s j = some L → o' s j = some L) {A : Int} {k : Nat} : ∀ (rs : List Rule) (j : Nat) (out L : List Tree), lsR H most o A k rs j out = some L → lsR H most o' A k rs j out = some L
  | [], j, out, L, h => h
  | r :: rs, j, out, L, h => by
    rw [lsR] at h ⊢
    by_cases c : (decide (r.left = A) && canK H r.right k) = true
    · rw [if_pos c] at h ⊢
      cases hb : lsL H most o r.right k with
      | none => rw [hb] at h; cases h
      | some b =>
        rw [hb] at h
        rw [lsL_mono ho _ _ _ hb]
        simp only at h ⊢
        by_cases hm : most < (out ++ b.map fun ks => Tree.node (j : Int) 0 ks).length
        · rw [if_pos hm] at h; cases h
        · rw [if_neg hm] at h ⊢
          exact lsR_mono ho rs (j + 1) _ L h
    · rw [if_neg c] at h ⊢
      exact lsR_mono ho rs (j + 1) out L h
theorem lsT_mono {H : Nat → Nat → Bool} {most : Nat} {rules : List Rule} : ∀ (d : Nat) (s : Sym) (k : Nat) (L : List Tree), lsT H most rules d s k = some L → lsT H most rules (d + 1) s k = some L
  | 0, s, k, L, h => by
    unfold lsT at h
    cases ht : s.term with
    | true => rw [ht] at h; unfold lsT; rw [ht]; exact h
    | false => rw [ht] at h; cases h
  | d + 1, s, k, L, h => by
    rw [lsT] at h ⊢
    cases ht : s.term with
    | true => rw [ht] at h; exact h
    | false =>
      rw [ht] at h
      simp only [Bool.false_eq_true, if_false] at h ⊢
      exact lsR_mono (fun s j L h => lsT_mono d s j L h) _ _ _ _ h
theorem lsT_le {H : Nat → Nat → Bool} {most : Nat} {rules : List Rule} {d d' : Nat} (hd : d ≤ d') {s : Sym} {k : Nat} {L : List Tree} (h : lsT H most rules d s k = some L) : lsT H most rules d' s k = some L := by
  induction d' with
  | zero => obtain rfl : d = 0 := by omega
            exact h
  | succ d' ih =>
    by_cases e : d = d' + 1
    · subst e; exact h
    · exact lsT_mono _ _ _ _ (ih (by omega))
theorem lsR_len {H : Nat → Nat → Bool} {most : Nat} {o : Sym → Nat → Option (List Tree)} {A : Int} {k : Nat} : ∀ (rs : List Rule) (j : Nat) (out L : List Tree), out.length ≤ most → lsR H most o A k rs j out = some L → L.length ≤ most
  | [], j, out, L, h0, h => by unfold lsR at h; cases h; exact h0
  | r :: rs, j, out, L, h0, h => by
    rw [lsR] at h
    by_cases c : (decide (r.left = A) && canK H r.right k) = true
    · rw [if_pos c] at h
      cases hb : lsL H most o r.right k with
      | none => rw [hb] at h; cases h
      | some b =>
        rw [hb] at h
        simp only at h
        by_cases hm : most < (out ++ b.map fun ks => Tree.node (j : Int) 0 ks).length
        · rw [if_pos hm] at h; cases h
        · rw [if_neg hm] at h
          exact lsR_len rs (j + 1) _ L (by omega) h
    · rw [if_neg c] at h
      exact lsR_len rs (j + 1) out L h0 h
theorem lsT_len {H : Nat → Nat → Bool} {most : Nat} {rules : List Rule} (hm : 1 ≤ most) : ∀ (d : Nat) (s : Sym) (k : Nat) (L : List Tree), lsT H most rules d s k = some L → L.length ≤ most := by
  intro d s k L h
  have ht : s.term = true → lsT H most rules d s k = some (if k = 1 then [.node (-1) s.n []] else []) := fun h2 => by cases d <;> (unfold lsT; rw [h2]; rfl)
  cases hs : s.term with
  | true =>
    rw [ht hs] at h
    cases h
    split <;> simp <;> omega
  | false =>
    cases d with
    | zero => unfold lsT at h; rw [hs] at h; cases h
    | succ d =>
      unfold lsT at h
      rw [hs] at h
      exact lsR_len _ _ _ _ (by simp) h
theorem lsF_len {H : Nat → Nat → Bool} {most : Nat} {o : Sym → Nat → Option (List Tree)} {s : Sym} {l : List Sym} {k : Nat} : ∀ m R, lsF H most o s l k m = some R → R.length ≤ most := by
  intro m
  induction m with
  | zero => intro R h; rw [lsF_zero] at h; cases h; simp
  | succ m ih =>
    intro R h
    rw [lsF_next] at h
    cases h0 : lsF H most o s l k m with
    | none => rw [h0] at h; cases h
    | some out =>
      rw [h0] at h
      simp only [Option.bind_some] at h
      by_cases c : (hasK H s m && canK H l (k - m)) = true
      · rw [if_pos c] at h
        obtain ⟨x, y, hx, hy, rfl, hm⟩ := lsStep_some h
        exact hm
      · rw [if_neg c] at h
        cases h
        exact ih _ h0
theorem lsL_len {H : Nat → Nat → Bool} {most : Nat} {o : Sym → Nat → Option (List Tree)} (hm : 1 ≤ most) : ∀ (l : List Sym) (k : Nat) (R : List (List Tree)), lsL H most o l k = some R → R.length ≤ most
  | [], k, R, h => by
    unfold lsL at h
    by_cases hk : k = 0
    · rw [if_pos hk] at h; cases h; simp; omega
    · rw [if_neg hk] at h; cases h
  | s :: l, k, R, h => by rw [lsL_F] at h; exact lsF_len _ _ h
end Cs
end Go.Proofs.Ytbnpemgmdnghgaa
namespace Go.Proofs.Ytbnpemgmdnghgaa
open Go.RowKit

/-- block b is a map that has the keys of which S holds, all of them true -/
def SetM (P : Program) (k e : TypeId) (b c : Nat) (S : Lit → Bool) (w : World) : Prop :=
  ∃ D : DataW Unit, w.ownsMap P k (plainElem P e) b c D ∧ ∀ (key : Value) (l : Lit), keyOf P k key = some l → D.atKey l (.lit (.bool false)) = .lit (.bool (S l))
section
variable {P : Program} {k e t : TypeId} {b c : Nat} {S : Lit → Bool} {w w' : World}
theorem SetM.kept {row : Option Nat} (h : SetM P k e b c S w) (hg : w.grownBy w' row) (hne : some b ≠ row) : SetM P k e b c S w' := by
  obtain ⟨D, h1, h2⟩ := h
  exact ⟨D, h1.kept hg hne, h2⟩
theorem SetM.keep (h : SetM P k e b c S w) (hb : Below w.heap.size w w') : SetM P k e b c S w' := h.kept (grown_below hb none) (by simp)
theorem SetM.lt (h : SetM P k e b c S w) : b < w.heap.size := by obtain ⟨D, h1, h2⟩ := h; exact h1.lt
theorem SetM.start (P : Program) (k e : TypeId) (w : World) {b : Nat} (hb : b = w.heap.size) {S : Lit → Bool} (hS : ∀ l, S l = false) : SetM P k e b 0 S (w.alloc (.map #[] 0)) := by
  subst hb
  exact ⟨.map [], World.ownsMap_made w _ _ _, fun _ l _ => by simp [DataW.atKey, hS l]⟩
theorem plainElem_bool_inv (he : P.underlying e = some .bool) {v : Value} {z : DataW Unit × List MemPlace} (h : plainElem P e v = some z) : ∃ x, v = .bool x ∧ z = (.lit (.bool x), []) := by
  unfold plainElem at h
  rw [he] at h
  split at h
  · rename_i x _
    cases h
    exact ⟨_, rfl, rfl⟩
  · rename_i h1; cases h1
  · rename_i h1; cases h1
  · cases h
/-- m[k] -/
theorem SetM.look (h : SetM P k e b c S w) (hK : Maps.Keyed P k) (ht : P.underlying t = some (.map k e)) (he : P.underlying e = some .bool) (hz : (zeroValue e).run P w = .ok (.bool false) w) {key : Value} {l : Lit} (hkey : keyOf P k key = some l) :
    (Instr.lookup t (.map (some b)) key false).run P w = .ok (.bool (S l)) w := by
  obtain ⟨D, h1, h2⟩ := h
  obtain ⟨v, ps, hrun, hv⟩ := h1.lookup hK ht hz (plainElem_bool he false) hkey
  rw [h2 key l hkey] at hv
  obtain ⟨x, rfl, hx⟩ := plainElem_bool_inv he hv
  simp at hx
  rw [hrun, ← hx.1]
/-- m[k] = true -/
theorem SetM.add (h : SetM P k e b c S w) (hK : Maps.Keyed P k) (ht : P.underlying t = some (.map k e)) (he : P.underlying e = some .bool) (hc : c < maxLen) {key : Value} {l : Lit} (hkey : keyOf P k key = some l) {S' : Lit → Bool} (hS : S' l = true) (hO : ∀ l', l' ≠ l → S' l' = S l') :
    ∃ w', (Instr.mapUpdate t (.map (some b)) key (.bool true)).run P w = .ok () w' ∧ SetM P k e b (c + 1) S' w' ∧ w.grownBy w' (some b) := by
  obtain ⟨D, h1, h2⟩ := h
  obtain ⟨w', hrun, ho, ht'⟩ := h1.store hK ht hc hkey (plainElem_bool he true)
  refine ⟨w', hrun, ⟨_, ho, fun key' l' hk' => ?_⟩, ht'.grown⟩
  by_cases el : l' = l
  · subst el
    rw [Go.Maps.atKey_put_same h1.isMap (hK.key hkey), hS]
  · rw [Go.Maps.atKey_put_other el, h2 key' l' hk', hO l' el]
end
end Go.Proofs.Ytbnpemgmdnghgaa
