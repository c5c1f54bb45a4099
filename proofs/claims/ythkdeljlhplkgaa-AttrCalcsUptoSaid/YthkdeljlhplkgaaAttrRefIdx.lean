/- The contracts of slices.Index, Contains and Equal of occurrences. -/
import Derived.Test.YthkdeljlhplkgaaAttrRefs
import Derived.BigQuiet
namespace Go.Proofs.Ythkdeljlhplkgaa
open Go.RowKit
namespace At

theorem Ref.d_cells (l : List Ref) : ∀ d ∈ l.map Ref.d, d.cells = 2 := by
  intro d hd
  simp at hd
  obtain ⟨t, _, rfl⟩ := hd
  simp [Ref.d, D.cells, D.cellsAll]
theorem Rd.ref_at {S : Nat → Prop} {w : World} {l : List Ref} {a : Option Addr} {n cap i : Nat} (h : Rd S w (.sl (l.map Ref.d)) [.slice a n cap]) (hi : i < l.length) :
    ∃ b off, a = some ⟨b, off, none⟩ ∧ S b ∧ b < w.heap.size ∧ w.cell? ⟨b, off + i * 2, none⟩ = some (.int .i64 l[i].at') ∧ w.cell? ⟨b, off + i * 2 + 1, none⟩ = some (.int .i64 l[i].attr) := by
  obtain ⟨b, off, cs, ha, hS, hlt, hr, hl, hc⟩ := h.at (Ref.d_cells l) (by decide) (i := i) (by simpa using hi)
  simp at hr
  have h2 := Rd.ref hr
  subst h2
  exact ⟨b, off, ha, hS, hlt, by simpa using hc 0 (by simp), by simpa [Nat.add_assoc] using hc 1 (by simp)⟩
theorem rdAll_refs {S : Nat → Prop} {w : World} : ∀ l : List Ref, RdAll S w (l.map Ref.d) (refC l)
  | [] => by simp [RdAll, refC]
  | x :: l => ⟨[.int .i64 x.at', .int .i64 x.attr], refC l, by simp [refC], rd_ref x, rdAll_refs l⟩
theorem Ref.ext' {x y : Ref} : x = y ↔ x.at' = y.at' ∧ x.attr = y.attr := by
  cases x with | mk u v => cases y with | mk u' v' => simp
def idxR (l : List Ref) (x : Ref) : Int := if x ∈ l then (l.findIdx (fun y => decide (x = y)) : Int) else -1
theorem idxR_ge (l : List Ref) (x : Ref) : decide (0 ≤ idxR l x) = decide (x ∈ l) := by
  unfold idxR
  by_cases h : x ∈ l
  · rw [if_pos h]; simp [h]
  · rw [if_neg h]; simp [h]
theorem idxR_hit {l : List Ref} {x : Ref} {i : Nat} (hi : i < l.length) (h : l[i] = x) (hn : ∀ j (h : j < l.length), j < i → l[j] ≠ x) : idxR l x = i := by
  unfold idxR
  rw [if_pos (by rw [← h]; exact List.getElem_mem hi)]
  have : l.findIdx (fun y => decide (x = y)) = i := by
    rw [List.findIdx_eq hi]
    exact ⟨by simp [h], fun j hj => by simpa using fun e => hn j (by omega) hj e.symm⟩
  rw [this]
theorem idxR_none {l : List Ref} {x : Ref} (hn : ∀ j (h : j < l.length), l[j] ≠ x) : idxR l x = -1 := by
  unfold idxR
  rw [if_neg]
  intro h
  obtain ⟨j, hj, e⟩ := List.getElem_of_mem h
  exact hn j hj e

set_option maxHeartbeats 2000000 in
set_option maxRecDepth 100000 in
theorem indexRef (l : List Ref) (x : Ref) (a : Option Addr) (cap : Nat) (w : World) (hl : Rd AnyB w (.sl (l.map Ref.d)) [.slice a l.length cap]) :
    Calls Try.prog 37 #[.slice a l.length cap, .agg #[.int .i64 x.at', .int .i64 x.attr]] w fun e w' => e = .returned (.int .i64 (idxR l x)) ∧ Below w.heap.size w w' := by
  have HL := Lib.hid hl
  have hc := hl.bounds.2
  unfold maxLen at hc
  obtain ⟨hc1, hc2⟩ := hc
  obtain ⟨w0, HW0⟩ := nameIt (w.alloc (.cells #[.int .i64 x.at', .int .i64 x.attr] 30))
  have HB0 : Hid (Below w.heap.size w w0) := by rw [← HW0.out]; exact (Below.refl _ _).alloc (Nat.le_refl _) _
  have X0 : Hid (w0.heap[w.heap.size]? = some (.cells #[.int .i64 x.at', .int .i64 x.attr] 30 (0, 0))) := by rw [← HW0.out]; exact bx_new _ _ _ rfl
  have HXE : Hid (∀ y : Ref, y = x ↔ y.at' = x.at' ∧ y.attr = x.attr) := fun y => Ref.ext'
  obtain ⟨xa, HXA⟩ := nameIt x.at'
  obtain ⟨xi, HXI⟩ := nameIt x.attr
  simp only [HXA.out, HXI.out] at HXE
  rw [HXA.out, HXI.out] at HW0 X0 ⊢
  have HB00 := Lib.hid (Below.refl w0.heap.size w0)
  have HN0 : Hid (∀ j (h : j < l.length), j < 0 → l[j] ≠ x) := fun j _ h => by omega
  clear hl
  go_enter Try.func37, Try.ntmps37
  go_upto_region 1 with fail
  rw [HW0.out]
  go_wp2_with fail
  go_loopg [8] l.length (fun gg v8 wr => ∃ i : Nat, i ≤ l.length ∧ l.length - i ≤ gg ∧ v8 = .int .i64 i ∧ Hid (Below w0.heap.size w0 wr) ∧ Hid (∀ j (h : j < l.length), j < i → l[j] ≠ x))
  case atStart => exact ⟨0, by omega, by omega, rfl, HB00, HN0⟩
  case round =>
    clear HB00 HN0
    obtain ⟨i, hi, hg, rfl, HB, HN⟩ := hrel
    by_cases hlt : i < l.length
    · have hlt' : (i : Int) < (l.length : Int) := by omega
      have hi0 : (0 : Int) ≤ (i : Int) := by omega
      obtain ⟨b, off, hae, -, -, c0, c1⟩ := Rd.ref_at (HL.out.below (HB0.out.trans (HB.out.mono HB0.out.size))) hlt
      have HXI2 := Lib.hid (HXE.out l[i])
      have HHIT := Lib.hid (fun (h : l[i] = x) => idxR_hit hlt h HN.out)
      have HNX := Lib.hid (fun (h : l[i] ≠ x) => show ∀ j (h : j < l.length), j < i + 1 → l[j] ≠ x from fun j h1 h2 => by
        by_cases e : j = i
        · subst e; exact h
        · exact HN.out j h1 (by omega))
      obtain ⟨y, HY⟩ := nameIt (l[i]'hlt)
      rw [HY.out] at c0 c1 HXI2
      simp only [HY.out] at HHIT HNX
      obtain ⟨ya, HYA⟩ := nameIt y.at'
      obtain ⟨yi, HYI⟩ := nameIt y.attr
      rw [HYA.out] at c0
      rw [HYI.out] at c1
      rw [HYA.out, HYI.out] at HXI2
      obtain ⟨x0, x1⟩ := bx_cells2 (bx_keep X0.out HB.out)
      subst hae
      by_cases g1 : ya = xa
      · by_cases g2 : yi = xi
        · have HE := Lib.hid (HHIT.out (HXI2.out.2 ⟨g1, g2⟩))
          subst g1 g2
          go_upto_region 4 with fail
          go_quiet (fail)
          go_wp2_with fail
          go_ret
          exact ⟨by rw [HE.out]; rfl, HB0.out.trans ((HB.out.trans ((below_drewN _ _).mono HB.out.size)).mono HB0.out.size)⟩
        · have g2' : (xi == yi) = false := by rw [beq_eq_false_iff_ne]; exact fun h => g2 h.symm
          have HE := Lib.hid (HNX.out (fun h => g2 (HXI2.out.1 h).2))
          subst g1
          clear g2
          go_upto_region 4 with fail
          go_quiet (fail)
          go_wp2_with fail
          go_roundg (l.length - (i + 1))
          case measure => omega
          case rel => exact ⟨i + 1, by omega, by omega, by go_num, HB.out.trans ((below_drewN _ _).mono HB.out.size), HE⟩
      · have g1' : (xa == ya) = false := by rw [beq_eq_false_iff_ne]; exact fun h => g1 h.symm
        have HE := Lib.hid (HNX.out (fun h => g1 (HXI2.out.1 h).1))
        clear g1
        go_upto_region 4 with fail
        go_quiet (fail)
        go_wp2_with fail
        go_roundg (l.length - (i + 1))
        case measure => omega
        case rel => exact ⟨i + 1, by omega, by omega, by go_num, HB.out.trans ((below_drewN _ _).mono HB.out.size), HE⟩
    · have hlt' : ¬ (i : Int) < (l.length : Int) := by omega
      have HE : Hid (idxR l x = -1) := idxR_none fun j hj => HN.out j hj (by omega)
      go_wp2_with fail
      go_ret
      exact ⟨by rw [HE.out]; rfl, HB0.out.trans (HB.out.mono HB0.out.size)⟩

set_option maxHeartbeats 1000000 in
theorem containsRef (l : List Ref) (x : Ref) (a : Option Addr) (cap : Nat) (w : World) (hl : Rd AnyB w (.sl (l.map Ref.d)) [.slice a l.length cap]) :
    Calls Try.prog 22 #[.slice a l.length cap, .agg #[.int .i64 x.at', .int .i64 x.attr]] w fun e w' => e = .returned (.bool (decide (x ∈ l))) ∧ Below w.heap.size w w' := by
  obtain ⟨w0, HW0⟩ := nameIt (w.alloc (.cells #[.int .i64 x.at', .int .i64 x.attr] 30))
  have HB0 : Hid (Below w.heap.size w w0) := by rw [← HW0.out]; exact (Below.refl _ _).alloc (Nat.le_refl _) _
  have X0 : Hid (w0.heap[w.heap.size]? = some (.cells #[.int .i64 x.at', .int .i64 x.attr] 30 (0, 0))) := by rw [← HW0.out]; exact bx_new _ _ _ rfl
  have HC := Lib.hid (indexRef l x a cap w0 (hl.below HB0.out))
  have HGE := Lib.hid (idxR_ge l x)
  obtain ⟨xa, HXA⟩ := nameIt x.at'
  obtain ⟨xi, HXI⟩ := nameIt x.attr
  obtain ⟨rs, HRS⟩ := nameIt (decide (x ∈ l))
  rw [HRS.out] at HGE
  rw [HXA.out, HXI.out] at HW0 X0 HC ⊢
  rw [HRS.out]
  obtain ⟨x0, x1⟩ := bx_cells2 X0.out
  clear hl
  go_enter Try.func22, Try.ntmps22
  go_upto_region 1 with fail
  rw [HW0.out]
  go_wp2_with fail
  refine HC.out.mono ?_
  rintro e w1 ⟨rfl, hb⟩
  have HB := Lib.hid hb
  clear hb
  go_wp2_with fail
  go_ret
  exact ⟨by rw [← HGE.out]; rfl, HB0.out.trans (HB.out.mono HB0.out.size)⟩

set_option maxHeartbeats 2000000 in
set_option maxRecDepth 100000 in
/-- two rows that read the same -/
theorem equalRefs (l : List Ref) (a a' : Option Addr) (cap cap' : Nat) (w : World) (hl : Rd AnyB w (.sl (l.map Ref.d)) [.slice a l.length cap]) (hl' : Rd AnyB w (.sl (l.map Ref.d)) [.slice a' l.length cap']) :
    Calls Try.prog 10 #[.slice a l.length cap, .slice a' l.length cap'] w fun e w' => e = .returned (.bool true) ∧ Below w.heap.size w w' := by
  have HL := Lib.hid hl
  have HL' := Lib.hid hl'
  have hc := hl.bounds.2
  unfold maxLen at hc
  obtain ⟨hc1, hc2⟩ := hc
  have HB00 := Lib.hid (Below.refl w.heap.size w)
  clear hl hl'
  go_enter Try.func10, Try.ntmps10
  go_wp2_with fail
  go_loopg [13] l.length (fun gg v13 wr => ∃ i : Nat, i ≤ l.length ∧ l.length - i ≤ gg ∧ v13 = .int .i64 i ∧ Hid (Below w.heap.size w wr))
  case atStart => exact ⟨0, by omega, by omega, rfl, HB00⟩
  case round =>
    clear HB00
    obtain ⟨i, hi, hg, rfl, HB⟩ := hrel
    by_cases hlt : i < l.length
    · have hlt' : (i : Int) < (l.length : Int) := by omega
      have hi0 : (0 : Int) ≤ (i : Int) := by omega
      obtain ⟨b, off, hae, -, -, c0, c1⟩ := Rd.ref_at (HL.out.below HB.out) hlt
      obtain ⟨b', off', hae', -, -, d0, d1⟩ := Rd.ref_at (HL'.out.below HB.out) hlt
      obtain ⟨ya, HYA⟩ := nameIt (l[i]'hlt).at'
      obtain ⟨yi, HYI⟩ := nameIt (l[i]'hlt).attr
      rw [HYA.out] at c0 d0
      rw [HYI.out] at c1 d1
      subst hae hae'
      go_upto_region 6 with fail
      go_quiet (fail)
      go_wp2_with fail
      go_roundg (l.length - (i + 1))
      case measure => omega
      case rel => exact ⟨i + 1, by omega, by omega, by go_num, HB.out.trans ((below_drewN _ _).mono HB.out.size)⟩
    · have hlt' : ¬ (i : Int) < (l.length : Int) := by omega
      go_wp2_with fail
      go_ret
      exact ⟨rfl, HB.out⟩
end At
end Go.Proofs.Ythkdeljlhplkgaa
