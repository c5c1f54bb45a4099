/- The contract of tree.valid. -/
import Derived.Test.YtjehmleckcmilaaValidWalk
namespace Go.Proofs.Ytjehmleckcmilaa
open Go.RowKit

theorem cells8 {W w' : World} (hb : Below W.heap.size W w') {b1 b2 b3 o3 : Nat} {T1 T2 : TypeId} {a0 a1 a2 a3 c0 c1 c2 d : Value} (h1 : W.heap[b1]? = some (.cells #[a0, a1, a2, a3] T1 (0, 0))) (h2 : W.heap[b2]? = some (.cells #[c0, c1, c2] T2 (0, 0))) (h3 : W.cell? ⟨b3, o3, none⟩ = some d) :
    w'.cell? ⟨b1, 0, none⟩ = some a0 ∧ w'.cell? ⟨b1, 0 + 1, none⟩ = some a1 ∧ w'.cell? ⟨b1, 0 + 2, none⟩ = some a2 ∧ w'.cell? ⟨b1, 0 + 3, none⟩ = some a3 ∧ w'.cell? ⟨b2, 0, none⟩ = some c0 ∧ w'.cell? ⟨b2, 0 + 1, none⟩ = some c1 ∧ w'.cell? ⟨b2, 0 + 2, none⟩ = some c2 ∧ w'.cell? ⟨b3, o3, none⟩ = some d := by
  obtain ⟨x1, x2, x3, x4, y1, y2, y3⟩ := cells7 hb h1 h2
  exact ⟨x1, x2, x3, x4, y1, y2, y3, (hb.cell (p := ⟨b3, o3, none⟩) (lt_of_cell h3)).trans h3⟩

set_option maxHeartbeats 4000000 in
set_option maxRecDepth 100000 in
theorem nodeOkE (g : Gram) (b : Nat) (ar : Option Addr) (cr : Nat) (t : Tree) (ak : Option Addr) (ck : Nat) (w : World) (hx : w.heap[b]? = some (.cells #[.int .i64 g.terms, .int .i64 g.nons, .int .i64 g.start, .slice ar g.rules.length cr] 77 (0, 0)))
    (hr : Rd AnyB w (.sl (g.rules.map Rule.d)) [.slice ar g.rules.length cr]) (hk : Rd AnyB w (.sl (t.kids.map Tree.d)) [.slice ak t.kids.length ck]) :
    Calls Try.prog 179 #[.agg #[.int .i64 t.rule, .int .i64 t.term, .slice ak t.kids.length ck], .pointer (some ⟨b, 0, none⟩)] w fun e w' => e = .returned (.bool (nodeOk g t)) ∧ Below w.heap.size w w' := by
  have hbs := hr.bounds.2
  have hbk := hk.bounds.2
  unfold maxLen at hbs hbk
  obtain ⟨hc1, hc2⟩ := hbs
  obtain ⟨hc3, hc4⟩ := hbk
  obtain ⟨w0, HW0⟩ := nameIt (w.alloc (.cells #[.int .i64 t.rule, .int .i64 t.term, .slice ak t.kids.length ck] 43))
  have hb0 : Below w.heap.size w w0 := by rw [← HW0.out]; exact (Below.refl _ _).alloc (Nat.le_refl _) _
  have X1 := Lib.hid (bx_keep hx hb0)
  have X2 : Hid (w0.heap[w.heap.size]? = some (.cells #[.int .i64 t.rule, .int .i64 t.term, .slice ak t.kids.length ck] 43 (0, 0))) := by
    rw [← HW0.out]; exact bx_new _ _ _ rfl
  have HX1 := X1
  have HR := Lib.hid (hr.below hb0)
  have HKD := Lib.hid (hk.below hb0)
  have HB0 := Lib.hid hb0
  have PA : Hid (∀ W, Below w0.heap.size w0 W → PairAt 181 #[.pointer (some ⟨b, 0, none⟩)] (kidOk g) W) := by
    intro W hb W' k v s hb' hv
    obtain ⟨a, n, c, rfl⟩ := treeBox hv
    have hbb := hb.trans (hb'.mono hb.size)
    exact kidOkE g b ar cr k a n c s W' (bx_keep HX1.out hbb) (HR.out.below hbb)
  obtain ⟨B, HBn⟩ := nameIt (nodeOk g t)
  have HBV : Hid (nodeOk g t = B) := HBn
  obtain ⟨gt, HGT⟩ := nameIt g.terms
  obtain ⟨gn, HGN⟩ := nameIt g.nons
  obtain ⟨gs, HGS⟩ := nameIt g.start
  obtain ⟨R, HRn⟩ := nameIt g.rules
  obtain ⟨r, HRr⟩ := nameIt t.rule
  obtain ⟨tm, HRt⟩ := nameIt t.term
  obtain ⟨K, HKn⟩ := nameIt t.kids
  rw [HGT.out, HGN.out, HGS.out, HRn.out] at X1
  rw [HRr.out, HRt.out, HKn.out] at X2 HW0
  rw [HKn.out] at HKD hc3
  rw [HRn.out] at HR hc1
  unfold nodeOk at HBV
  rw [HRr.out, HRt.out, HKn.out, HGT.out, HRn.out] at HBV
  rw [HRr.out, HRt.out, HKn.out, HBn.out]
  obtain ⟨x0, x1, x2, x3, y0, y1, y2⟩ := cells7 (Below.refl w0.heap.size w0) X1.out X2.out
  clear hx hr hk hb0
  go_enter Try.func179, Try.ntmps179
  go_upto_region 1 with fail
  rw [HW0.out]
  by_cases h0 : r = -1
  · have hv := HBV.out
    rw [if_pos h0] at hv
    have hrb : (r == -1) = true := by simpa using h0
    clear h0
    by_cases h1 : 0 ≤ tm
    · have b1 : decide (0 ≤ tm) = true := by simpa using h1
      by_cases h2 : tm < gt
      · have b2 : decide (tm < gt) = true := by simpa using h2
        have HE : Hid (B = ((K.length : Int) == 0)) := by show _ = _; rw [← hv, b1, b2, Bool.eq_iff_iff]; simp
        clear hv
        go_wp2_with fail
        go_ret
        exact ⟨by rw [HE.out]; rfl, HB0.out⟩
      · have b2 : decide (tm < gt) = false := by simpa using h2
        obtain rfl : B = false := by rw [← hv, b2]; simp
        clear hv
        go_wp2_with fail
        go_ret
        exact ⟨rfl, HB0.out⟩
    · have b1 : decide (0 ≤ tm) = false := by simpa using h1
      obtain rfl : B = false := by rw [← hv, b1]; simp
      clear hv
      go_wp2_with fail
      go_ret
      exact ⟨rfl, HB0.out⟩
  · have hv := HBV.out
    rw [if_neg h0] at hv
    have hrb : (r == -1) = false := by simpa using h0
    clear h0
    by_cases h1 : r < 0
    · have b1 : decide (r < 0) = true := by simpa using h1
      obtain rfl : B = false := by rw [← hv, if_pos h1]
      clear hv
      go_wp2_with fail
      go_ret
      exact ⟨rfl, HB0.out⟩
    · rw [if_neg h1] at hv
      obtain ⟨j, rfl⟩ := Int.eq_ofNat_of_zero_le (show 0 ≤ r by omega)
      have b1 : decide ((j : Int) < 0) = false := by simp
      by_cases h2 : j < R.length
      · have b2 : decide (R.length ≤ j) = false := by simp; omega
        have b2' : decide ((R.length : Int) ≤ (j : Int)) = false := by simp; omega
        have h2' : (j : Int) < (R.length : Int) := by omega
        have h2'' : (0 : Int) ≤ (j : Int) := by omega
        rw [show R[(j : Int).toNat]? = some R[j] by simp [h2]] at hv
        by_cases h3 : tm = 0
        · subst h3
          obtain ⟨br, orr, vr, hae, -, hbl, -, e1, hkr⟩ := HR.out.rule_at h2
          obtain ⟨av, cv, rfl, -, -⟩ := hkr.form
          rw [List.length_map] at e1 hkr
          obtain ⟨L, HLn⟩ := nameIt (R[j]'h2).right
          rw [HLn.out] at e1 hkr
          have hv' : (decide ((0 : Int) = 0) && kidsOk g K (R[j]'h2).right) = B := hv
          rw [HLn.out] at hv'
          have HE : Hid (eqAll (kidOk g) K L = B) := by show _ = _; rw [← hv']; simp [kidsOk, eqAll]
          clear hv'
          have CE := Lib.hid (fun W (hb : Below w0.heap.size w0 W) => equalFuncTS 181 #[.pointer (some ⟨b, 0, none⟩)] (kidOk g) ak av ck cv K L W (fun _ _ => by kernel_rfl) (PA.out W hb) (HKD.out.below hb) (hkr.below hb))
          rw [HE.out] at CE
          have E1 := Lib.hid e1
          subst hae
          clear hv hkr
          go_upto_region 5 with fail
          go_region_held3 (fun w' => w'.cell? ⟨b, 0, none⟩ = some (.int .i64 gt) ∧ w'.cell? ⟨b, 0 + 1, none⟩ = some (.int .i64 gn) ∧ w'.cell? ⟨b, 0 + 2, none⟩ = some (.int .i64 gs) ∧ w'.cell? ⟨b, 0 + 3, none⟩ = some (.slice (some ⟨br, orr, none⟩) R.length cr) ∧ w'.cell? ⟨w.heap.size, 0, none⟩ = some (.int .i64 j) ∧ w'.cell? ⟨w.heap.size, 0 + 1, none⟩ = some (.int .i64 0) ∧ w'.cell? ⟨w.heap.size, 0 + 2, none⟩ = some (.slice ak K.length ck) ∧ w'.cell? ⟨br, orr + j * 2 + 1, none⟩ = some (.slice av L.length cv))
            (first | exact cells8 (Below.refl _ _).drew X1.out X2.out E1.out | exact cells8 HB1.out X1.out X2.out E1.out | fail)
            (first
              | (go_at_call 180; (with_reducible refine (CE.out _ (Below.refl _ _).drew).mono ?_); rintro e w1 ⟨rfl, hb1⟩; have HB1 : Hid (Below w0.heap.size w0 w1) := (Below.refl _ _).drew.trans hb1; clear hb1)
              | fail)
          go_wp2_with fail
          go_ret
          exact ⟨rfl, HB0.out.trans (HB1.out.mono HB0.out.size)⟩
        · have b3 : (tm != 0) = true := by simpa using h3
          obtain rfl : B = false := by rw [← hv]; simp [h3]
          clear hv h3
          go_wp2_with fail
          go_ret
          exact ⟨rfl, HB0.out⟩
      · have b2 : decide (R.length ≤ j) = true := by simp; omega
        have b2' : decide ((R.length : Int) ≤ (j : Int)) = true := by simp; omega
        obtain rfl : B = false := by rw [← hv, show R[(j : Int).toNat]? = none by simp; omega]
        clear hv
        go_wp2_with fail
        go_ret
        exact ⟨rfl, HB0.out⟩

theorem validF (g : Gram) (b : Nat) (ar : Option Addr) (cr : Nat) (w0 : World) (N : Nat) (hx : w0.heap[b]? = some (.cells #[.int .i64 g.terms, .int .i64 g.nons, .int .i64 g.start, .slice ar g.rules.length cr] 77 (0, 0)))
    (hr : Rd AnyB w0 (.sl (g.rules.map Rule.d)) [.slice ar g.rules.length cr]) : NodeFn 179 #[.pointer (some ⟨b, 0, none⟩)] w0 (nodeOk g) N (ValidI w0) where
  below := fun h => h.1
  own := fun h k hk => absurd hk (h.2 k)
  keep := fun h hb => ⟨h.1.trans (hb.mono h.1.size), h.2⟩
  call := by
    intro s S W t v h hv _
    obtain ⟨a, c, rfl, -, -⟩ := hv.form
    rw [List.length_map] at hv ⊢
    refine (nodeOkE g b ar cr t a c W (bx_keep hx h.1) (hr.below h.1) (hv.below h.1)).mono ?_
    rintro e W' ⟨rfl, hb⟩
    exact ⟨S, rfl, ⟨h.1.trans (hb.mono h.1.size), h.2⟩, Below.keeps hb, fun k hk => .inl hk⟩

set_option maxHeartbeats 1000000 in
set_option maxRecDepth 100000 in
theorem validE (g : Gram) (ar : Option Addr) (cr : Nat) (t : Tree) (at' : Option Addr) (ct : Nat) (w : World) (hr : Rd AnyB w (.sl (g.rules.map Rule.d)) [.slice ar g.rules.length cr]) (hk : Rd AnyB w (.sl (t.kids.map Tree.d)) [.slice at' t.kids.length ct]) :
    Calls Try.prog 109 #[.agg #[.int .i64 g.terms, .int .i64 g.nons, .int .i64 g.start, .slice ar g.rules.length cr], .agg #[.int .i64 t.rule, .int .i64 t.term, .slice at' t.kids.length ct]] w fun e w' => e = .returned (.bool (validT g t)) ∧ Below w.heap.size w w' := by
  obtain ⟨w0, HW0⟩ := nameIt ((w.alloc (.cells #[.int .i64 g.terms, .int .i64 g.nons, .int .i64 g.start, .slice ar g.rules.length cr] 77)).alloc (.cells #[.int .i64 t.rule, .int .i64 t.term, .slice at' t.kids.length ct] 43))
  have hb0 : Below w.heap.size w w0 := by rw [← HW0.out]; exact ((Below.refl _ _).alloc (Nat.le_refl _) _).alloc (by simp) _
  have hx : w0.heap[w.heap.size]? = some (.cells #[.int .i64 g.terms, .int .i64 g.nons, .int .i64 g.start, .slice ar g.rules.length cr] 77 (0, 0)) := by
    rw [← HW0.out]; exact bx_keep (bx_new _ _ _ rfl) ((Below.refl _ _).alloc (Nat.le_refl _) _)
  have X2 : Hid (w0.heap[w.heap.size + 1]? = some (.cells #[.int .i64 t.rule, .int .i64 t.term, .slice at' t.kids.length ct] 43 (0, 0))) := by
    rw [← HW0.out]; exact bx_new _ _ _ (by simp)
  have HC := Lib.hid (walkE 179 #[.pointer (some ⟨w.heap.size, 0, none⟩)] w0 (nodeOk g) (nodes t).length (ValidI w0) (fun _ _ => by kernel_rfl) (validF g w.heap.size ar cr w0 _ hx (hr.below hb0)) (nodes t).length t _ [] (fun _ => False) w0 (Nat.le_refl _) ⟨Below.refl _ _, fun _ h => h⟩ (hk.below hb0) (by simp))
  have HB0 := Lib.hid hb0
  obtain ⟨y0, y1, y2⟩ := bx_cells3 X2.out
  obtain ⟨gt, HGT⟩ := nameIt g.terms
  obtain ⟨gn, HGN⟩ := nameIt g.nons
  obtain ⟨gs, HGS⟩ := nameIt g.start
  obtain ⟨n, HKn⟩ := nameIt g.rules.length
  obtain ⟨r, HRr⟩ := nameIt t.rule
  obtain ⟨tm, HRt⟩ := nameIt t.term
  obtain ⟨m, HMn⟩ := nameIt t.kids.length
  rw [HGT.out, HGN.out, HGS.out, HKn.out, HRr.out, HRt.out, HMn.out] at HW0
  rw [HRr.out] at y0
  rw [HRt.out] at y1
  rw [HMn.out] at y2
  rw [HRr.out, HRt.out, HMn.out] at HC
  rw [HGT.out, HGN.out, HGS.out, HKn.out, HRr.out, HRt.out, HMn.out]
  clear hr hk hx hb0
  go_enter Try.func109, Try.ntmps109
  go_upto_region 1 with fail
  rw [HW0.out]
  go_wp2_with fail
  refine HC.out.mono ?_
  rintro e w1 ⟨S', rfl, ⟨h1, h2⟩, h3, h4⟩
  have HB1 := Lib.hid h1
  obtain ⟨B, HBn⟩ := nameIt ((nodes t).all (nodeOk g))
  rw [HBn.out]
  clear h1 h2 h3 h4
  go_wp2_with fail
  go_ret
  exact ⟨by rw [← HBn.out]; rfl, HB0.out.trans (HB1.out.mono HB0.out.size)⟩

set_option maxHeartbeats 1000000 in
set_option maxRecDepth 100000 in
theorem treeCheckE (g : Gram) (ar : Option Addr) (cr : Nat) (t : Tree) (at' : Option Addr) (ct : Nat) (w : World) (hr : Rd AnyB w (.sl (g.rules.map Rule.d)) [.slice ar g.rules.length cr]) (hk : Rd AnyB w (.sl (t.kids.map Tree.d)) [.slice at' t.kids.length ct]) (hN : (nodes t).length ≤ 1099511627776) :
    Calls Try.prog 46 #[.agg #[.int .i64 g.terms, .int .i64 g.nons, .int .i64 g.start, .slice ar g.rules.length cr], .agg #[.int .i64 t.rule, .int .i64 t.term, .slice at' t.kids.length ct]] w fun e w' => e = .returned (.int .i64 (checkT g t)) ∧ Below w.heap.size w w' := by
  obtain ⟨w0, HW0⟩ := nameIt ((w.alloc (.cells #[.int .i64 g.terms, .int .i64 g.nons, .int .i64 g.start, .slice ar g.rules.length cr] 77)).alloc (.cells #[.int .i64 t.rule, .int .i64 t.term, .slice at' t.kids.length ct] 43))
  have hb0 : Below w.heap.size w w0 := by rw [← HW0.out]; exact ((Below.refl _ _).alloc (Nat.le_refl _) _).alloc (by simp) _
  have X1 : Hid (w0.heap[w.heap.size]? = some (.cells #[.int .i64 g.terms, .int .i64 g.nons, .int .i64 g.start, .slice ar g.rules.length cr] 77 (0, 0))) := by
    rw [← HW0.out]; exact bx_keep (bx_new _ _ _ rfl) ((Below.refl _ _).alloc (Nat.le_refl _) _)
  have X2 : Hid (w0.heap[w.heap.size + 1]? = some (.cells #[.int .i64 t.rule, .int .i64 t.term, .slice at' t.kids.length ct] 43 (0, 0))) := by
    rw [← HW0.out]; exact bx_new _ _ _ (by simp)
  have C1 := Lib.hid (checkE g ar cr w0 (hr.below hb0))
  have C2 := Lib.hid (fun W (hb : Below w0.heap.size w0 W) => sizeE t _ W ((hk.below hb0).below hb) (by omega))
  have C3 := Lib.hid (fun W (hb : Below w0.heap.size w0 W) => validE g ar cr t at' ct W ((hr.below hb0).below hb) ((hk.below hb0).below hb))
  have HB0 := Lib.hid hb0
  obtain ⟨E1, HE1⟩ := nameIt (checkG g)
  obtain ⟨M, HM⟩ := nameIt (nodes t).length
  obtain ⟨V, HV⟩ := nameIt (validT g t)
  obtain ⟨B, HBn⟩ := nameIt (checkT g t)
  have HBV : Hid (B = if E1 ≠ 0 then E1 else if 5000 < M then 2 else if V then 0 else 3) := by show _ = _; rw [← HBn.out]; unfold checkT; rw [HE1.out, HM.out, HV.out]
  obtain ⟨gt, HGT⟩ := nameIt g.terms
  obtain ⟨gn, HGN⟩ := nameIt g.nons
  obtain ⟨gs, HGS⟩ := nameIt g.start
  obtain ⟨n, HKn⟩ := nameIt g.rules.length
  obtain ⟨r, HRr⟩ := nameIt t.rule
  obtain ⟨tm, HRt⟩ := nameIt t.term
  obtain ⟨m, HMn⟩ := nameIt t.kids.length
  rw [HGT.out, HGN.out, HGS.out, HKn.out, HRr.out, HRt.out, HMn.out] at HW0
  rw [HGT.out, HGN.out, HGS.out, HKn.out] at X1
  rw [HRr.out, HRt.out, HMn.out] at X2
  rw [HGT.out, HGN.out, HGS.out, HKn.out, HE1.out] at C1
  rw [HRr.out, HRt.out, HMn.out, HM.out] at C2
  rw [HGT.out, HGN.out, HGS.out, HKn.out, HRr.out, HRt.out, HMn.out, HV.out] at C3
  rw [HGT.out, HGN.out, HGS.out, HKn.out, HRr.out, HRt.out, HMn.out, HBn.out]
  rw [HM.out] at hN
  obtain ⟨x0, x1, x2, x3, y0, y1, y2⟩ := cells7 (Below.refl w0.heap.size w0) X1.out X2.out
  clear hr hk hb0
  go_enter Try.func46, Try.ntmps46
  go_upto_region 1 with fail
  rw [HW0.out]
  go_wp2_with fail
  refine C1.out.mono ?_
  rintro e w1 ⟨rfl, hb1⟩
  have HB1 := Lib.hid hb1
  obtain ⟨x0, x1, x2, x3, y0, y1, y2⟩ := cells7 hb1 X1.out X2.out
  clear hb1
  by_cases h1 : E1 = 0
  · subst h1
    have hv := HBV.out
    rw [if_neg (by simp)] at hv
    have HV2 := Lib.hid hv
    clear hv
    go_wp2_with fail
    refine (C2.out _ HB1.out).mono ?_
    rintro e w2 ⟨rfl, hb2⟩
    have HB2 := Lib.hid (HB1.out.trans (hb2.mono HB1.out.size))
    clear hb2 x0 x1 x2 x3 y0 y1 y2
    obtain ⟨x0, x1, x2, x3, y0, y1, y2⟩ := cells7 HB2.out X1.out X2.out
    by_cases h2 : 5000 < M
    · have h2' : (5000 : Int) < (M : Int) := by omega
      obtain rfl : B = 2 := by rw [HV2.out, if_pos h2]
      go_wp2_with fail
      go_ret
      exact ⟨rfl, HB0.out.trans (HB2.out.mono HB0.out.size)⟩
    · have h2' : ¬ (5000 : Int) < (M : Int) := by omega
      have hv := HV2.out
      rw [if_neg h2] at hv
      have HV3 := Lib.hid hv
      clear hv
      go_wp2_with fail
      refine (C3.out _ HB2.out).mono ?_
      rintro e w3 ⟨rfl, hb3⟩
      have HB3 := Lib.hid (HB2.out.trans (hb3.mono HB2.out.size))
      clear hb3 x0 x1 x2 x3 y0 y1 y2
      cases V with
      | true =>
        obtain rfl : B = 0 := by rw [HV3.out]; rfl
        go_wp2_with fail
        go_ret
        exact ⟨rfl, HB0.out.trans (HB3.out.mono HB0.out.size)⟩
      | false =>
        obtain rfl : B = 3 := by rw [HV3.out]; rfl
        go_wp2_with fail
        go_ret
        exact ⟨rfl, HB0.out.trans (HB3.out.mono HB0.out.size)⟩
  · have hne : (E1 != 0) = true := by simpa using h1
    obtain rfl : B = E1 := by rw [HBV.out, if_pos h1]
    clear h1
    go_wp2_with fail
    go_ret
    exact ⟨rfl, HB0.out.trans (HB1.out.mono HB0.out.size)⟩
end Go.Proofs.Ytjehmleckcmilaa
