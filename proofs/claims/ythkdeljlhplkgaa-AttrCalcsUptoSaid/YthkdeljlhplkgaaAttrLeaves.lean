/- The contracts of leaves and faulty; what the law's own systems are. -/
import Derived.Test.YthkdeljlhplkgaaAttrSf
import Derived.Test.YthkdeljlhplkgaaListH
namespace Go.Proofs.Ythkdeljlhplkgaa
open Go.RowKit
namespace At

def oneX : Expr := .node 0 1 ⟨0, 0⟩ []
def addX : Expr := .node 2 0 ⟨0, 0⟩ [.node 1 0 ⟨1, 0⟩ [], oneX]
def leavesS : Sys := ⟨[⟨0, false⟩], [⟨0, ⟨0, 0⟩, addX⟩, ⟨1, ⟨0, 0⟩, oneX⟩]⟩
def bareS : Sys := ⟨[⟨0, false⟩], []⟩
def SysPost (s : Sys) (w : World) (e : Ending) (w' : World) : Prop := ∃ u u', e = .returned (.agg #[u, u']) ∧ Rd AnyB w' (.sl (s.attrs.map Attr.d)) [u] ∧ Rd AnyB w' (.sl (s.eqs.map Eqn.d)) [u'] ∧ Below w.heap.size w w'

theorem list_ok : checkG listG = 0 := by decide
theorem leaves_attrs : attrsErr listG leavesS.attrs = 0 := by decide
theorem leaves_eqs : eqsFrom listG leavesS 0 leavesS.eqs = 0 := by decide
theorem leaves_ok : checkS listG leavesS = 0 := by
  rw [checkS_sys list_ok]
  refine sysErr_z leaves_attrs (by decide) leaves_eqs ?_
  rintro ⟨i, k, a, h1, h2, h3, h4⟩
  have h5 : i < 2 := h1
  have h6 : a < 1 := h3
  obtain rfl : a = 0 := by omega
  have : i = 0 ∨ i = 1 := by omega
  rcases this with rfl | rfl
  · have h7 : k < 3 := h2
    have : k = 0 ∨ k = 1 ∨ k = 2 := by omega
    rcases this with rfl | rfl | rfl
    · exact absurd (show lacksAt leavesS 0 ⟨0, [⟨false, 0⟩, ⟨true, 0⟩]⟩ 0 0 = true from h4) (by decide)
    · exact absurd (show lacksAt leavesS 0 ⟨0, [⟨false, 0⟩, ⟨true, 0⟩]⟩ 1 0 = true from h4) (by decide)
    · exact absurd (show lacksAt leavesS 0 ⟨0, [⟨false, 0⟩, ⟨true, 0⟩]⟩ 2 0 = true from h4) (by decide)
  · have h7 : k < 2 := h2
    have : k = 0 ∨ k = 1 := by omega
    rcases this with rfl | rfl
    · exact absurd (show lacksAt leavesS 1 ⟨0, [⟨true, 0⟩]⟩ 0 0 = true from h4) (by decide)
    · exact absurd (show lacksAt leavesS 1 ⟨0, [⟨true, 0⟩]⟩ 1 0 = true from h4) (by decide)
theorem bare_five : checkS listG bareS = 5 := by
  rw [checkS_sys list_ok]
  refine sysErr_n (by decide) (by decide) (by decide) ⟨0, 0, 0, by decide, by decide, by decide, by decide⟩

set_option maxHeartbeats 2000000 in
set_option maxRecDepth 100000 in
theorem faultyE (g : Gram) (s : Sys) (ar aa ae : Option Addr) (cr ca ce : Nat) (w : World) (hsz : ∀ q ∈ s.eqs, q.is'.size ≤ 1048576) (hR : Rd AnyB w (.sl (g.rules.map Rule.d)) [.slice ar g.rules.length cr]) (hA : Rd AnyB w (.sl (s.attrs.map Attr.d)) [.slice aa s.attrs.length ca]) (hE : Rd AnyB w (.sl (s.eqs.map Eqn.d)) [.slice ae s.eqs.length ce]) :
    Calls Try.prog 7 #[.agg #[.int .i64 g.terms, .int .i64 g.nons, .int .i64 g.start, .slice ar g.rules.length cr], .agg #[.slice aa s.attrs.length ca, .slice ae s.eqs.length ce]] w (fun e w' => e = .returned (.int .i64 (checkS g s)) ∧ Below w.heap.size w w') := by
  obtain ⟨w0, HW0⟩ := nameIt ((w.alloc (.cells #[.int .i64 g.terms, .int .i64 g.nons, .int .i64 g.start, .slice ar g.rules.length cr] 24)).alloc (.cells #[.slice aa s.attrs.length ca, .slice ae s.eqs.length ce] 28))
  have HB0 : Hid (Below w.heap.size w w0) := by rw [← HW0.out]; exact ((Below.refl _ _).alloc (Nat.le_refl _) _).alloc (by simp) _
  have X1 : Hid (w0.heap[w.heap.size]? = some (.cells #[.int .i64 g.terms, .int .i64 g.nons, .int .i64 g.start, .slice ar g.rules.length cr] 24 (0, 0))) := by
    rw [← HW0.out]; exact bx_keep (bx_new _ _ _ rfl) ((Below.refl _ _).alloc (Nat.le_refl _) _)
  have X2 : Hid (w0.heap[w.heap.size + 1]? = some (.cells #[.slice aa s.attrs.length ca, .slice ae s.eqs.length ce] 28 (0, 0))) := by
    rw [← HW0.out]; exact bx_new _ _ _ (by simp)
  have HCE := Lib.hid (checkE g ar cr w0 (hR.below HB0.out))
  have HSF := Lib.hid (fun (h : checkG g = 0) (W : World) (hb : Below w.heap.size w W) => sysFaultE g s h ar aa ae cr ca ce W hsz (hR.below hb) (hA.below hb) (hE.below hb))
  have HSG := Lib.hid (@checkS_g g s)
  have HSS := Lib.hid (@checkS_sys g s)
  obtain ⟨cs, HCS⟩ := nameIt (checkS g s)
  obtain ⟨cg, HCG⟩ := nameIt (checkG g)
  obtain ⟨ss, HSSS⟩ := nameIt (sysErr g s)
  obtain ⟨tm, HTM⟩ := nameIt g.terms
  obtain ⟨no, HNO⟩ := nameIt g.nons
  obtain ⟨st, HST⟩ := nameIt g.start
  obtain ⟨m, HM⟩ := nameIt g.rules.length
  obtain ⟨al, HAL⟩ := nameIt s.attrs.length
  obtain ⟨n, HN⟩ := nameIt s.eqs.length
  rw [HCS.out, HCG.out] at HSG
  rw [HCS.out, HCG.out, HSSS.out] at HSS
  rw [HTM.out, HNO.out, HST.out, HM.out, HCG.out] at HCE
  simp only [HTM.out, HNO.out, HST.out, HM.out, HAL.out, HN.out, HCG.out, HSSS.out] at HSF
  rw [HTM.out, HNO.out, HST.out, HM.out, HAL.out, HN.out] at HW0
  rw [HTM.out, HNO.out, HST.out, HM.out] at X1
  rw [HAL.out, HN.out] at X2
  rw [HTM.out, HNO.out, HST.out, HM.out, HAL.out, HN.out, HCS.out]
  obtain ⟨x0, x1, x2, x3⟩ := bx_cells4 X1.out
  clear hR hA hE hsz
  go_enter Try.func7, Try.ntmps7
  go_upto_region 1 with fail
  rw [HW0.out]
  go_wp2_with fail
  refine HCE.out.mono ?_
  rintro e w1 ⟨rfl, hb1⟩
  have HB1 : Hid (Below w.heap.size w w1) := HB0.out.trans (hb1.mono HB0.out.size)
  have Y1 := Lib.hid (bx_keep X1.out hb1)
  have Y2 := Lib.hid (bx_keep X2.out hb1)
  clear x0 x1 x2 x3 hb1
  by_cases hz : cg = 0
  · have HC := Lib.hid (HSF.out hz w1 HB1.out)
    have HE := Lib.hid (HSS.out hz)
    subst hz
    obtain ⟨x0, x1, x2, x3⟩ := bx_cells4 Y1.out
    obtain ⟨y0, y1⟩ := bx_cells2 Y2.out
    go_upto_region 4 with fail
    go_wp2_with fail
    refine HC.out.mono ?_
    rintro e w2 ⟨rfl, hb2⟩
    have HB2 := Lib.hid hb2
    clear hb2
    go_wp2_with fail
    go_ret
    exact ⟨by rw [HE.out]; rfl, HB1.out.trans (HB2.out.mono HB1.out.size)⟩
  · have hzb : (cg != 0) = true := by simpa using hz
    have HE := Lib.hid (HSG.out hz)
    clear hz
    go_wp2_with fail
    go_ret
    exact ⟨by rw [HE.out]; rfl, HB1.out⟩
end At
end Go.Proofs.Ythkdeljlhplkgaa
