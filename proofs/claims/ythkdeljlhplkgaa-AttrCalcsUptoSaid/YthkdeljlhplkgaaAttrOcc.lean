/- The contracts of the reference's occurs and wellFormed. -/
import Derived.Test.YthkdeljlhplkgaaAttrAt
import Derived.Test.YthkdeljlhplkgaaAttrValid
import Derived.Test.YthkdeljlhplkgaaRegA
namespace Go.Proofs.Ythkdeljlhplkgaa
open Go.RowKit
namespace At

theorem occ_sym (s : Sym) (z : Int) (h : 0 ≤ z) : decide (some s = some ⟨false, z⟩) = ((if s.term then -1 else s.n) == z) := by
  obtain ⟨t, n⟩ := s
  rw [Bool.eq_iff_iff, decide_eq_true_iff, beq_iff_eq, Option.some.injEq]
  cases t with
  | true => simp; omega
  | false => simp
theorem there_occ {al : List Attr} {r : Rule} {x : Ref} {i : Nat} (hi : i < al.length) (hx : x.attr = (i : Int)) (hn : 0 ≤ al[i].non) : there al r x = (atR r x.at' == al[i].non) := by
  by_cases h : x.at' < 0 ∨ (r.right.length : Int) < x.at'
  · rw [there_no (by omega), atR_out h]
    symm
    rw [beq_eq_false_iff_ne]
    omega
  · obtain ⟨k, hk⟩ : ∃ k : Nat, x.at' = (k : Int) := ⟨x.at'.toNat, by omega⟩
    rw [there_at hi hx (by omega) (by omega), hk]
    have hl : k < (atL r).length := by unfold atL; simp; omega
    rw [atR_in hl]
    cases k with
    | zero =>
      rw [if_pos (by simp)]
      simp only [atL, List.getElem_cons_zero]
      rw [Bool.eq_iff_iff]
      simp
      exact eq_comm
    | succ k =>
      have hk2 : k < r.right.length := by omega
      rw [if_neg (by omega), show (((k + 1 : Nat) : Int) - 1).toNat = k by omega, List.getElem?_eq_getElem hk2]
      simp only [atL, List.getElem_cons_succ]
      exact occ_sym _ _ hn
theorem occ_no {al : List Attr} {r : Rule} {x : Ref} (h : x.attr < 0 ∨ (al.length : Int) ≤ x.attr) : there al r x = false := there_no (by omega)

set_option maxHeartbeats 4000000 in
set_option maxRecDepth 100000 in
theorem occursE (g : Gram) (j : Nat) (hj : j < g.rules.length) (hr4 : g.rules[j].right.length ≤ 4) (al : List Attr) (hnn : ∀ a ∈ al, 0 ≤ a.non) (x : Ref) (ar aa ae : Option Addr) (cr ca ne ce : Nat) (w : World) (hR : Rd AnyB w (.sl (g.rules.map Rule.d)) [.slice ar g.rules.length cr]) (hA : Rd AnyB w (.sl (al.map Attr.d)) [.slice aa al.length ca]) :
    Calls Try.prog 33 #[.agg #[.int .i64 g.terms, .int .i64 g.nons, .int .i64 g.start, .slice ar g.rules.length cr], .agg #[.slice aa al.length ca, .slice ae ne ce], .int .i64 (j : Int), .agg #[.int .i64 x.at', .int .i64 x.attr]] w (fun e w' => e = .returned (.bool (there al g.rules[j] x)) ∧ Below w.heap.size w w') := by
  have ha1 := hA.bounds.2
  unfold maxLen at ha1
  obtain ⟨ha1, ha2⟩ := ha1
  obtain ⟨w0, HW0⟩ := nameIt (((w.alloc (.cells #[.int .i64 g.terms, .int .i64 g.nons, .int .i64 g.start, .slice ar g.rules.length cr] 24)).alloc (.cells #[.slice aa al.length ca, .slice ae ne ce] 28)).alloc (.cells #[.int .i64 x.at', .int .i64 x.attr] 30))
  have HB0 : Hid (Below w.heap.size w w0) := by rw [← HW0.out]; exact (((Below.refl _ _).alloc (Nat.le_refl _) _).alloc (by simp) _).alloc (by simp; omega) _
  have X1 : Hid (w0.heap[w.heap.size]? = some (.cells #[.int .i64 g.terms, .int .i64 g.nons, .int .i64 g.start, .slice ar g.rules.length cr] 24 (0, 0))) := by
    rw [← HW0.out]; exact bx_keep (bx_keep (bx_new _ _ _ rfl) ((Below.refl _ _).alloc (Nat.le_refl _) _)) ((Below.refl _ _).alloc (Nat.le_refl _) _)
  have X2 : Hid (w0.heap[w.heap.size + 1]? = some (.cells #[.slice aa al.length ca, .slice ae ne ce] 28 (0, 0))) := by
    rw [← HW0.out]; exact bx_keep (bx_new _ _ _ (by simp)) ((Below.refl _ _).alloc (Nat.le_refl _) _)
  have X3 : Hid (w0.heap[w.heap.size + 1 + 1]? = some (.cells #[.int .i64 x.at', .int .i64 x.attr] 30 (0, 0))) := by
    rw [← HW0.out]; exact bx_new _ _ _ (by simp)
  have HA := Lib.hid (hA.below HB0.out)
  have HAT := Lib.hid (fun W (hb : Below w0.heap.size w0 W) => atE g j hj hr4 x.at' ar cr W ((hR.below HB0.out).below hb))
  have HNO := Lib.hid (@occ_no al g.rules[j] x)
  have HTO := Lib.hid (fun (i : Nat) (hi : i < al.length) (hx : x.attr = (i : Int)) => there_occ (r := g.rules[j]) hi hx (hnn _ (List.getElem_mem hi)))
  obtain ⟨th, HTH⟩ := nameIt (there al g.rules[j] x)
  obtain ⟨xa, HXA⟩ := nameIt x.at'
  obtain ⟨xi, HXI⟩ := nameIt x.attr
  obtain ⟨at0, HAT0⟩ := nameIt (atR g.rules[j] xa)
  obtain ⟨tm, HTM⟩ := nameIt g.terms
  obtain ⟨no, HNON⟩ := nameIt g.nons
  obtain ⟨st, HST⟩ := nameIt g.start
  obtain ⟨m, HM⟩ := nameIt g.rules.length
  obtain ⟨n, HN⟩ := nameIt al.length
  have HN' := Lib.hid HN.out
  simp only [HXA.out, HTM.out, HNON.out, HST.out, HM.out, HAT0.out] at HAT
  rw [HTH.out, HXI.out, HN.out] at HNO
  simp only [HTH.out, HXI.out, HXA.out, HAT0.out] at HTO
  rw [HTM.out, HNON.out, HST.out, HM.out, HN.out, HXA.out, HXI.out] at HW0
  rw [HTM.out, HNON.out, HST.out, HM.out] at X1
  rw [HN.out] at X2 HA ha1
  rw [HXA.out, HXI.out] at X3
  rw [HTH.out, HTM.out, HNON.out, HST.out, HM.out, HN.out, HXA.out, HXI.out]
  obtain ⟨x0, x1, x2, x3⟩ := bx_cells4 X1.out
  obtain ⟨y0, y1⟩ := bx_cells2 X2.out
  obtain ⟨z0, z1⟩ := bx_cells2 X3.out
  have k0 := aft_cell x0
  have k1 := aft_cell x1
  have k2 := aft_cell x2
  have k3 := aft_cell x3
  have k4 := aft_cell y0
  have k5 := aft_cell z0
  have k6 := aft_cell z1
  clear hR hA x0 x1 x2 x3 y0 y1 z0 z1 hr4
  go_enter Try.func33, Try.ntmps33
  go_upto_region 1 with fail
  rw [HW0.out]
  by_cases h1 : xi < 0
  · have h1' : decide (0 ≤ xi) = false := by simp; omega
    obtain rfl : th = false := HNO.out (.inl h1)
    clear h1
    refine wp_region_after (by kernel_rfl) (by kernel_rfl) ?_
    repeat (go_big_quiet_step (exact Calls.after (HAT.out _ (Aft.bel _))))
    refine wpQuiet_nil ?_
    rintro _ ⟨⟨w7, hb7⟩, rfl⟩
    have HB7 := Lib.hid hb7
    clear hb7 k0 k1 k2 k3 k4 k5 k6
    go_wp2_with fail
    go_ret
    exact ⟨rfl, HB0.out.trans (HB7.out.mono HB0.out.size)⟩
  · have h1' : decide (0 ≤ xi) = true := by simp; omega
    obtain ⟨i, hi⟩ : ∃ i : Nat, xi = (i : Int) := ⟨xi.toNat, by omega⟩
    subst hi
    by_cases h2 : i < n
    · have h2' : decide ((i : Int) < (n : Int)) = true := by simpa using h2
      have hiA : i < al.length := by rw [HN.out]; exact h2
      obtain ⟨b, off, hae, -, hbl, c0, c1⟩ := Rd.attr_at HA.out hiA
      have HE := Lib.hid (HTO.out i hiA rfl)
      obtain ⟨non, HNN⟩ := nameIt (al[i]'hiA).non
      rw [HNN.out] at c0 HE
      subst hae
      have k7 := aft_cell c0
      have h3 : (i : Int) < (n : Int) := by omega
      have h4 : (0 : Int) ≤ (i : Int) := by omega
      clear h1 c0 c1
      refine wp_region_after (by kernel_rfl) (by kernel_rfl) ?_
      repeat (go_big_quiet_step (exact Calls.after (HAT.out _ (Aft.bel _))))
      refine wpQuiet_nil ?_
      rintro _ ⟨⟨w7, hb7⟩, rfl⟩
      have HB7 := Lib.hid hb7
      clear hb7 k0 k1 k2 k3 k4 k5 k6 k7
      go_wp2_with fail
      go_ret
      refine ⟨?_, HB0.out.trans (HB7.out.mono HB0.out.size)⟩
      rw [HE.out]
      rfl
    · have h2' : decide ((i : Int) < (n : Int)) = false := by simp; omega
      obtain rfl : th = false := HNO.out (.inr (by omega))
      clear h1
      refine wp_region_after (by kernel_rfl) (by kernel_rfl) ?_
      repeat (go_big_quiet_step (exact Calls.after (HAT.out _ (Aft.bel _))))
      refine wpQuiet_nil ?_
      rintro _ ⟨⟨w7, hb7⟩, rfl⟩
      have HB7 := Lib.hid hb7
      clear hb7 k0 k1 k2 k3 k4 k5 k6
      go_wp2_with fail
      go_ret
      exact ⟨rfl, HB0.out.trans (HB7.out.mono HB0.out.size)⟩
end At
end Go.Proofs.Ythkdeljlhplkgaa
