/- The contract of attr.defines. -/
import Derived.Test.YtiapfogckbkkpaaAttrThere
import Derived.Test.YtiapfogckbkkpaaRegA
namespace Go.Proofs.Ytiapfogckbkkpaa
open Go.RowKit
namespace At

theorem there_range {al : List Attr} {r : Rule} {x : Ref} (h : there al r x = true) : 0 ≤ x.attr ∧ x.attr < al.length ∧ 0 ≤ x.at' ∧ x.at' ≤ r.right.length := by
  unfold there at h
  simp only [Bool.and_eq_true, decide_eq_true_eq] at h
  exact h.1
theorem defs_no {al : List Attr} {r : Rule} {x : Ref} (h : there al r x = false) : defs al r x = false := by unfold defs; rw [h]; rfl
theorem defs_at {al : List Attr} {r : Rule} {x : Ref} {j : Nat} (h : there al r x = true) (hj : j < al.length) (hx : x.attr = (j : Int)) : defs al r x = (al[j].inh == decide (0 < x.at')) := by
  unfold defs inhAt
  rw [h, hx]
  simp [hj]

set_option maxHeartbeats 2000000 in
set_option maxRecDepth 100000 in
theorem definesE (al : List Attr) (r : Rule) (x : Ref) (aa ae ar : Option Addr) (ca ne ce cr : Nat) (w : World) (hA : Rd AnyB w (.sl (al.map Attr.d)) [.slice aa al.length ca]) (hR : Rd AnyB w (.sl (r.right.map Sym.d)) [.slice ar r.right.length cr]) :
    Calls Try.prog 13 #[.agg #[.slice aa al.length ca, .slice ae ne ce], .agg #[.int .i64 r.left, .slice ar r.right.length cr], .agg #[.int .i64 x.at', .int .i64 x.attr]] w (fun e w' => e = .returned (.bool (defs al r x)) ∧ Below w.heap.size w w') := by
  have ha1 := hA.bounds.2
  have hr1 := hR.bounds.2
  unfold maxLen at ha1 hr1
  obtain ⟨ha1, ha2⟩ := ha1
  obtain ⟨hr1, hr2⟩ := hr1
  obtain ⟨w0, HW0⟩ := nameIt (((w.alloc (.cells #[.slice aa al.length ca, .slice ae ne ce] 28)).alloc (.cells #[.int .i64 r.left, .slice ar r.right.length cr] 52)).alloc (.cells #[.int .i64 x.at', .int .i64 x.attr] 30))
  have HB0 : Hid (Below w.heap.size w w0) := by rw [← HW0.out]; exact (((Below.refl _ _).alloc (Nat.le_refl _) _).alloc (by simp) _).alloc (by simp; omega) _
  have X1 : Hid (w0.heap[w.heap.size]? = some (.cells #[.slice aa al.length ca, .slice ae ne ce] 28 (0, 0))) := by
    rw [← HW0.out]; exact bx_keep (bx_keep (bx_new _ _ _ rfl) ((Below.refl _ _).alloc (Nat.le_refl _) _)) ((Below.refl _ _).alloc (Nat.le_refl _) _)
  have X2 : Hid (w0.heap[w.heap.size + 1]? = some (.cells #[.int .i64 r.left, .slice ar r.right.length cr] 52 (0, 0))) := by
    rw [← HW0.out]; exact bx_keep (bx_new _ _ _ (by simp)) ((Below.refl _ _).alloc (Nat.le_refl _) _)
  have X3 : Hid (w0.heap[w.heap.size + 1 + 1]? = some (.cells #[.int .i64 x.at', .int .i64 x.attr] 30 (0, 0))) := by
    rw [← HW0.out]; exact bx_new _ _ _ (by simp)
  have HA := Lib.hid (hA.below HB0.out)
  have HTE := Lib.hid (fun W (hb : Below w0.heap.size w0 W) => thereE al r x aa ae ar ca ne ce cr W (HA.out.below hb) ((hR.below HB0.out).below hb))
  have HNO := Lib.hid (@defs_no al r x)
  have HRG := Lib.hid (@there_range al r x)
  have HAT := Lib.hid (fun (h : there al r x = true) (j : Nat) (hj : j < al.length) => @defs_at al r x j h hj)
  obtain ⟨lf, HLF⟩ := nameIt r.left
  obtain ⟨R, HRR⟩ := nameIt r.right
  obtain ⟨xa, HXA⟩ := nameIt x.at'
  obtain ⟨xi, HXI⟩ := nameIt x.attr
  obtain ⟨th, HTH⟩ := nameIt (there al r x)
  obtain ⟨df, HDF⟩ := nameIt (defs al r x)
  rw [HLF.out, HRR.out, HXA.out, HXI.out] at HW0
  rw [HLF.out, HRR.out] at X2
  rw [HXA.out, HXI.out] at X3
  rw [HTH.out, HDF.out] at HNO
  rw [HXI.out, HXA.out, HRR.out, HTH.out] at HRG
  rw [HXI.out, HXA.out, HTH.out, HDF.out] at HAT
  rw [HLF.out, HRR.out, HXA.out, HXI.out, HTH.out] at HTE
  rw [HLF.out, HRR.out, HXA.out, HXI.out, HDF.out]
  obtain ⟨x0, x1⟩ := bx_cells2 X1.out
  obtain ⟨y0, y1⟩ := bx_cells2 X2.out
  obtain ⟨z0, z1⟩ := bx_cells2 X3.out
  clear hA hR hr1
  go_enter Try.func13, Try.ntmps13
  go_upto_region 1 with fail
  rw [HW0.out]
  have k0 := aft_cell x0
  have k1 := aft_cell x1
  have k2 := aft_cell y0
  have k3 := aft_cell y1
  have k4 := aft_cell z0
  have k5 := aft_cell z1
  clear x0 x1 y0 y1 z0 z1
  cases th with
  | false =>
    obtain rfl : df = false := HNO.out rfl
    refine wp_region_after (by kernel_rfl) (by kernel_rfl) ?_
    repeat (go_big_quiet_step (exact Calls.after (HTE.out _ (Aft.bel _))))
    refine wpQuiet_nil ?_
    rintro _ ⟨⟨w7, hb7⟩, rfl⟩
    have HB7 := Lib.hid hb7
    clear hb7 k0 k1 k2 k3 k4 k5
    go_wp2_with fail
    go_ret
    exact ⟨rfl, HB0.out.trans (HB7.out.mono HB0.out.size)⟩
  | true =>
    obtain ⟨r1, r2, r3, r4⟩ := HRG.out rfl
    obtain ⟨j, hj⟩ : ∃ j : Nat, xi = (j : Int) := ⟨xi.toNat, by omega⟩
    subst hj
    have h2 : j < al.length := by omega
    obtain ⟨b, off, hae, -, hbl, c0, c1⟩ := Rd.attr_at HA.out h2
    have HE := Lib.hid (HAT.out rfl j h2 rfl)
    obtain ⟨inh, HINH⟩ := nameIt (al[j]'h2).inh
    rw [HINH.out] at c1 HE
    have hj0 : (0 : Int) ≤ (j : Int) := by omega
    have hj1 : (j : Int) < (al.length : Int) := by omega
    obtain ⟨pz, HPZ⟩ := nameIt (decide (0 < xa))
    have hpz : decide (0 < xa) = pz := HPZ.out
    subst hae
    have k6 := aft_cell c1
    clear r4 c0 c1
    refine wp_region_after (by kernel_rfl) (by kernel_rfl) ?_
    repeat (go_big_quiet_step (exact Calls.after (HTE.out _ (Aft.bel _))))
    refine wpQuiet_nil ?_
    rintro _ ⟨⟨w7, hb7⟩, rfl⟩
    have HB7 := Lib.hid hb7
    clear hb7 k0 k1 k2 k3 k4 k5 k6
    go_wp2_with fail
    go_ret
    refine ⟨?_, HB0.out.trans (HB7.out.mono HB0.out.size)⟩
    rw [HE.out, HPZ.out]
    rfl
end At
end Go.Proofs.Ytiapfogckbkkpaa
