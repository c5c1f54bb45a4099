/- The contracts of gram.Root and of the functions of tree.valid. -/
import Derived.Test.YtjehmleckcmilaaCheckE
import Derived.Test.YtjehmleckcmilaaTreeOk
import Derived.Test.YtjehmleckcmilaaTreeSize
import Derived.Deep.QuietTactic
import Derived.BigQuiet
import Derived.Laws.StructEq
namespace Go.Proofs.Ytjehmleckcmilaa
open Go.RowKit

set_option maxHeartbeats 1000000 in
set_option maxRecDepth 100000 in
theorem rootE (g : Gram) (ar : Option Addr) (cr : Nat) (t : Tree) (at' : Option Addr) (nt ct : Nat) (w : World) (hr : Rd AnyB w (.sl (g.rules.map Rule.d)) [.slice ar g.rules.length cr]) :
    Calls Try.prog 117 #[.agg #[.int .i64 g.terms, .int .i64 g.nons, .int .i64 g.start, .slice ar g.rules.length cr], .agg #[.int .i64 t.rule, .int .i64 t.term, .slice at' nt ct]] w fun e w' =>
      e = .returned (.agg #[.bool (rootS g t).term, .int .i64 (rootS g t).n]) ∧ Below w.heap.size w w' := by
  have hbs := hr.bounds.2
  unfold maxLen at hbs
  obtain ⟨hc1, hc2⟩ := hbs
  obtain ⟨gt, HGT⟩ := nameIt g.terms
  obtain ⟨gn, HGN⟩ := nameIt g.nons
  obtain ⟨gs, HGS⟩ := nameIt g.start
  obtain ⟨K, HK⟩ := nameIt g.rules
  obtain ⟨r, HRr⟩ := nameIt t.rule
  obtain ⟨tm, HRt⟩ := nameIt t.term
  obtain ⟨S, HS⟩ := nameIt (rootS g t)
  have HSV : Hid (S = if r < 0 then ⟨true, tm⟩ else match K[r.toNat]? with | some x => ⟨false, x.left⟩ | none => ⟨true, tm⟩) := by
    show _ = _; rw [← HS.out]; unfold rootS; rw [HRr.out, HRt.out, HK.out]; rfl
  have HR := Lib.hid hr
  rw [HK.out] at HR hc1
  rw [HGT.out, HGN.out, HGS.out, HK.out, HRr.out, HRt.out, HS.out]
  have hB : Below w.heap.size w (((w.alloc (.cells #[.int .i64 gt, .int .i64 gn, .int .i64 gs, .slice ar K.length cr] 77)).alloc (.cells #[.int .i64 r, .int .i64 tm, .slice at' nt ct] 43)).alloc (.cells #[.bool S.term, .int .i64 S.n] 88)) := (((Below.refl _ _).alloc (Nat.le_refl _) _).alloc (by simp) _).alloc (by simp; omega) _
  have HB := Lib.hid hB
  clear hr hB
  by_cases h0 : r < 0
  · obtain rfl : S = ⟨true, tm⟩ := by rw [HSV.out, if_pos h0]
    have b0 : decide (r < 0) = true := by simpa using h0
    clear h0
    go_enter Try.func117, Try.ntmps117
    go_wp2_with fail
    exact bodyPost_ret (v := .agg #[.bool true, .int .i64 tm]) (by simp [results, Try.results117, go_sem]) rfl ⟨rfl, HB.out⟩
  · obtain ⟨j, rfl⟩ := Int.eq_ofNat_of_zero_le (show 0 ≤ r by omega)
    have b0 : decide ((j : Int) < 0) = false := by simp
    by_cases h1 : j < K.length
    · have b1 : decide ((K.length : Int) ≤ (j : Int)) = false := by simp; omega
      have b1' : decide (K.length ≤ j) = false := by simp; omega
      have h1' : (j : Int) < (K.length : Int) := by omega
      obtain ⟨b, off, vr, hae, -, hbl, c0, -, -⟩ := HR.out.rule_at h1
      have hS : S = ⟨false, K[j].left⟩ := by rw [HSV.out, if_neg h0]; simp [h1]
      obtain ⟨lf, HLF⟩ := nameIt (K[j]'h1).left
      rw [HLF.out] at c0 hS
      subst hS
      subst hae
      clear h0
      have hbl1 : b < w.heap.size + 1 := by omega
      have hbl2 : b < w.heap.size + 1 + 1 := by omega
      have hn0 : ¬ b = w.heap.size := by omega
      have hn1 : ¬ b = w.heap.size + 1 := by omega
      have hn2 : ¬ b = w.heap.size + 1 + 1 := by omega
      go_enter Try.func117, Try.ntmps117
      go_wp2_with fail
      exact bodyPost_ret (v := .agg #[.bool false, .int .i64 lf]) (by simp [results, Try.results117, go_sem]) rfl ⟨rfl, HB.out⟩
    · have b1 : decide ((K.length : Int) ≤ (j : Int)) = true := by simp; omega
      have b1' : decide (K.length ≤ j) = true := by simp; omega
      obtain rfl : S = ⟨true, tm⟩ := by rw [HSV.out, if_neg h0]; simp [show K.length ≤ j by omega]
      clear h0
      go_enter Try.func117, Try.ntmps117
      go_wp2_with fail
      exact bodyPost_ret (v := .agg #[.bool true, .int .i64 tm]) (by simp [results, Try.results117, go_sem]) rfl ⟨rfl, HB.out⟩

theorem symEq (a c : Bool) (b d : Int) (w : World) : (binOp .eql 88 (.agg #[.bool a, .int .i64 b]) (.agg #[.bool c, .int .i64 d])).run Try.prog w = .ok (.bool (a == c && b == d)) w := by
  have h1 : Try.prog.underlying 88 = some (.struct (Try.prog.fieldsOf 88)) := by kernel_rfl
  have h2 : Try.prog.stoodInHeld 88 = false := by kernel_rfl
  have h3 := Try.underlying88
  have h4 := Try.underlying4
  have h5 := Try.underlying3
  rw [run_eql_struct, run_equalIn_agg (d := 9999) _ _ _ _ h1 h2]
  simp only [Program.fieldsOf, h3]
  cases hac : (a == c) <;> by_cases hbd : b = d <;> simp [Op.eqFields, go_sem, h4, h5, hac, hbd]

/-- the boxes of a grammar, a tree and a symbol -/
theorem cells9 {W w' : World} (hb : Below W.heap.size W w') {b1 b2 b3 : Nat} {T1 T2 T3 : TypeId} {a0 a1 a2 a3 c0 c1 c2 d0 d1 : Value} (h1 : W.heap[b1]? = some (.cells #[a0, a1, a2, a3] T1 (0, 0))) (h2 : W.heap[b2]? = some (.cells #[c0, c1, c2] T2 (0, 0))) (h3 : W.heap[b3]? = some (.cells #[d0, d1] T3 (0, 0))) :
    w'.cell? ⟨b1, 0, none⟩ = some a0 ∧ w'.cell? ⟨b1, 0 + 1, none⟩ = some a1 ∧ w'.cell? ⟨b1, 0 + 2, none⟩ = some a2 ∧ w'.cell? ⟨b1, 0 + 3, none⟩ = some a3 ∧ w'.cell? ⟨b2, 0, none⟩ = some c0 ∧ w'.cell? ⟨b2, 0 + 1, none⟩ = some c1 ∧ w'.cell? ⟨b2, 0 + 2, none⟩ = some c2 ∧ w'.cell? ⟨b3, 0, none⟩ = some d0 ∧ w'.cell? ⟨b3, 0 + 1, none⟩ = some d1 := by
  obtain ⟨x1, x2, x3, x4⟩ := bx_cells4 (bx_keep h1 hb)
  obtain ⟨y1, y2, y3⟩ := bx_cells3 (bx_keep h2 hb)
  obtain ⟨z1, z2⟩ := bx_cells2 (bx_keep h3 hb)
  exact ⟨x1, x2, x3, x4, y1, y2, y3, z1, z2⟩

set_option maxHeartbeats 2000000 in
set_option maxRecDepth 100000 in
theorem kidOkE (g : Gram) (b : Nat) (ar : Option Addr) (cr : Nat) (k : Tree) (ak : Option Addr) (nk ck : Nat) (s : Sym) (w : World) (hx : w.heap[b]? = some (.cells #[.int .i64 g.terms, .int .i64 g.nons, .int .i64 g.start, .slice ar g.rules.length cr] 77 (0, 0)))
    (hr : Rd AnyB w (.sl (g.rules.map Rule.d)) [.slice ar g.rules.length cr]) :
    Calls Try.prog 181 #[.agg #[.int .i64 k.rule, .int .i64 k.term, .slice ak nk ck], .agg #[.bool s.term, .int .i64 s.n], .pointer (some ⟨b, 0, none⟩)] w fun e w' => e = .returned (.bool (kidOk g k s)) ∧ Below w.heap.size w w' := by
  have hbs := hr.bounds.2
  unfold maxLen at hbs
  obtain ⟨hc1, hc2⟩ := hbs
  obtain ⟨w0, HW0⟩ := nameIt ((w.alloc (.cells #[.int .i64 k.rule, .int .i64 k.term, .slice ak nk ck] 43)).alloc (.cells #[.bool s.term, .int .i64 s.n] 88))
  have hb0 : Below w.heap.size w w0 := by rw [← HW0.out]; exact ((Below.refl _ _).alloc (Nat.le_refl _) _).alloc (by simp) _
  have X1 := Lib.hid (bx_keep hx hb0)
  have X3 : Hid (w0.heap[w.heap.size]? = some (.cells #[.int .i64 k.rule, .int .i64 k.term, .slice ak nk ck] 43 (0, 0))) := by
    rw [← HW0.out]; exact bx_keep (bx_new _ _ _ rfl) ((Below.refl _ _).alloc (Nat.le_refl _) _)
  have X4 : Hid (w0.heap[w.heap.size + 1]? = some (.cells #[.bool s.term, .int .i64 s.n] 88 (0, 0))) := by
    rw [← HW0.out]; exact bx_new _ _ _ (by simp)
  have CR := Lib.hid (fun W (hb : Below w0.heap.size w0 W) => rootE g ar cr k ak nk ck W ((hr.below hb0).below hb))
  have HB0 := Lib.hid hb0
  obtain ⟨B, HBn⟩ := nameIt (kidOk g k s)
  have HBV : Hid (B = (decide (-1 ≤ k.rule) && (decide (k.rule < g.rules.length) && decide (rootS g k = s)))) := by show _ = _; rw [← HBn.out]; rfl
  obtain ⟨gt, HGT⟩ := nameIt g.terms
  obtain ⟨gn, HGN⟩ := nameIt g.nons
  obtain ⟨gs, HGS⟩ := nameIt g.start
  obtain ⟨n, HKn⟩ := nameIt g.rules.length
  obtain ⟨r, HRr⟩ := nameIt k.rule
  obtain ⟨tm, HRt⟩ := nameIt k.term
  obtain ⟨S, HS⟩ := nameIt (rootS g k)
  obtain ⟨s0, HS0⟩ := nameIt s.term
  obtain ⟨s1, HS1⟩ := nameIt s.n
  rw [HGT.out, HGN.out, HGS.out, HKn.out] at X1
  rw [HRr.out, HRt.out] at X3 HW0
  rw [HS0.out, HS1.out] at X4 HW0
  rw [HGT.out, HGN.out, HGS.out, HKn.out, HRr.out, HRt.out, HS.out] at CR
  rw [HRr.out, HKn.out, HS.out] at HBV
  rw [HKn.out] at hc1
  rw [HRr.out, HRt.out, HS0.out, HS1.out, HBn.out]
  have hk0 := cells9 (Below.refl w0.heap.size w0) X1.out X3.out X4.out
  obtain ⟨x0, x1, x2, x3, y0, y1, y2, z0, z1⟩ := hk0
  clear hx hr hb0
  go_enter Try.func181, Try.ntmps181
  go_wp2_with fail
  rw [HW0.out]
  by_cases h0 : -1 ≤ r
  · have b0 : decide (-1 ≤ r) = true := by simpa using h0
    by_cases h1 : r < n
    · have b1 : decide (r < (n : Int)) = true := by simpa using h1
      have HBV2 : Hid (B = decide (S = s)) := by show _ = _; rw [HBV.out, b0, b1]; rfl
      obtain ⟨S0, HSS0⟩ := nameIt S.term
      obtain ⟨S1, HSS1⟩ := nameIt S.n
      rw [HSS0.out, HSS1.out] at CR
      have HBV3 : Hid (B = (S0 == s0 && S1 == s1)) := by
        show _ = _
        rw [HBV2.out, ← HSS0.out, ← HSS1.out, ← HS0.out, ← HS1.out, Bool.eq_iff_iff]
        cases S; cases s; simp
      have heq := symEq S0 s0 S1 s1
      have heg : Try.prog.eqGuardType Try.prog.depth 88 = false := by kernel_rfl
      clear h0 h1
      go_region_held3 (fun w' => w'.cell? ⟨b, 0, none⟩ = some (.int .i64 gt) ∧ w'.cell? ⟨b, 0 + 1, none⟩ = some (.int .i64 gn) ∧ w'.cell? ⟨b, 0 + 2, none⟩ = some (.int .i64 gs) ∧ w'.cell? ⟨b, 0 + 3, none⟩ = some (.slice ar n cr) ∧ w'.cell? ⟨w.heap.size, 0, none⟩ = some (.int .i64 r) ∧ w'.cell? ⟨w.heap.size, 0 + 1, none⟩ = some (.int .i64 tm) ∧ w'.cell? ⟨w.heap.size, 0 + 2, none⟩ = some (.slice ak nk ck) ∧ w'.cell? ⟨w.heap.size + 1, 0, none⟩ = some (.bool s0) ∧ w'.cell? ⟨w.heap.size + 1, 0 + 1, none⟩ = some (.int .i64 s1))
        (first | exact cells9 (Below.refl _ _).drew X1.out X3.out X4.out | exact cells9 HB1.out X1.out X3.out X4.out | fail)
        (first
          | (go_at_call 117; (with_reducible refine (CR.out _ (Below.refl _ _).drew).mono ?_); rintro e w1 ⟨rfl, hb1⟩; have HB1 : Hid (Below w0.heap.size w0 w1) := (Below.refl _ _).drew.trans hb1; clear hb1)
          | fail)
      go_wp2_with fail
      go_ret
      exact ⟨by rw [HBV3.out]; rfl, HB0.out.trans (HB1.out.mono HB0.out.size)⟩
    · have b1 : decide (r < (n : Int)) = false := by simpa using h1
      obtain rfl : B = false := by rw [HBV.out, b1]; simp
      clear h0 h1
      go_quiet (fail)
      go_wp2_with fail
      go_ret
      exact ⟨rfl, HB0.out.trans ((below_drewN _ _).mono HB0.out.size)⟩
  · have b0 : decide (-1 ≤ r) = false := by simpa using h0
    obtain rfl : B = false := by rw [HBV.out, b0]; simp
    clear h0
    go_quiet (fail)
    go_wp2_with fail
    go_ret
    exact ⟨rfl, HB0.out.trans ((below_drewN _ _).mono HB0.out.size)⟩
end Go.Proofs.Ytjehmleckcmilaa
