/- The contract of parlref4.Change. -/
import Derived.Test.YtfbacnifankfkaaBetweenWalk
namespace Go.Proofs.Ytfbacnifankfkaa
open Go.RowKit

set_option maxHeartbeats 2000000 in
set_option maxRecDepth 100000 in
theorem changeR (a : Option Addr) (cap : Nat) (x : List Int) (b : Option Addr) (cb : Nat) (y : List Int) (w : World) (hx : Sl w (.slice a x.length cap) (ints x)) (hy : Sl w (.slice b y.length cb) (ints y)) (b0 : x.length * 8 ≤ 140737488351232) (b1 : y.length * 8 ≤ 140737488351232) :
    Calls Try.prog 59 #[.slice a x.length cap, .slice b y.length cb] w (BtwPost x y w) := by
  have HX := Lib.hid hx
  have HY := Lib.hid hy
  have hcb := hy.len.2.1
  have hcb2 := hy.len.2.2
  unfold maxLen at hcb2
  obtain ⟨w0, HW0⟩ : ∃ w0, Hid (w0 = w.alloc (.cells #[.int .i64 0, .int .i64 0, .slice none 0 0] 48)) := ⟨_, rfl⟩
  have HB0 : Hid (Below w.heap.size w w0) := by rw [HW0.out]; exact (Below.refl _ _).alloc (Nat.le_refl _) _
  have HR : Hid (w0.heap[w.heap.size]? = some (.cells #[.int .i64 0, .int .i64 0, .slice none 0 0] 48 (0, 0))) := by rw [HW0.out]; exact heap_alloc_new _ _
  have HS0 : Hid (w.heap.size + 1 = w0.heap.size) := by rw [HW0.out]; show _ = _; simp
  clear hx hy
  go_enter Try.func59, Try.ntmps59
  go_wp2
  rw [← HW0.out]
  clear HW0
  go_loopw [5] (fun t wr => ∃ n : Nat, n ≤ x.length ∧ n ≤ y.length ∧ t = .int .i64 n ∧ Hid (∀ j, j < n → x.getD j 0 = y.getD j 0) ∧ Hid (Below w0.heap.size w0 wr)) (fun t _ => x.length - (intOf t).toNat)
  case atStart => exact ⟨0, by omega, by omega, rfl, fun j hj => by omega, Below.refl _ _⟩
  case round =>
    obtain ⟨n, hn1, hn2, rfl, HE, HB⟩ := hrel
    have HBW := Lib.hid (HB0.out.trans (HB.out.mono HB0.out.size))
    obtain ⟨B, HBD⟩ : ∃ B : Bool, Hid (B = decide (n < x.length ∧ n < y.length ∧ x.getD n 0 = y.getD n 0)) := ⟨_, rfl⟩
    go_upto_region 2 with fail
    go_cut [24] (fun t wx => t = .bool B ∧ Hid (Below w0.heap.size w0 wx))
    case first =>
      by_cases g : n < x.length ∧ n < y.length
      · obtain ⟨g1, g2⟩ := g
        obtain ⟨ba, oa, rfl, hca⟩ := (HX.out.keep HBW.out).at g1
        obtain ⟨bb, ob, rfl, hcbb⟩ := (HY.out.keep HBW.out).at g2
        have c1 := hca n (by rw [ints_len]; exact g1)
        have c2 := hcbb n (by rw [ints_len]; exact g2)
        rw [ints_getD g1] at c1
        rw [ints_getD g2] at c2
        have HB2 : Hid (B = (x.getD n 0 == y.getD n 0)) := by show _ = _; rw [HBD.out, Bool.eq_iff_iff]; simp [g1, g2]
        generalize x.getD n 0 = z at *
        generalize y.getD n 0 = z' at *
        have i1 : (n : Int) < (x.length : Int) := by omega
        have i2 : (n : Int) < (y.length : Int) := by omega
        clear hca hcbb HBD
        rcases Nat.lt_or_ge y.length x.length with hxy | hxy
        all_goals
          have j1 : (n : Int) < min (x.length : Int) (y.length : Int) := by omega
          go_quiet (fail)
          go_wp2_with fail
          go_meet
          exact ⟨by rw [HB2.out], HB.out.trans ((below_drewN wr _).mono HB.out.size)⟩
      · have HB2 : Hid (B = false) := by show _ = _; rw [HBD.out]; simp only [decide_eq_false_iff_not]; exact fun h => g ⟨h.1, h.2.1⟩
        clear HBD
        rcases Nat.lt_or_ge y.length x.length with hxy | hxy
        all_goals
          first | (have i2 : decide ((n : Int) < (y.length : Int)) = false := (by simp; omega)) | skip
          first | (have i3 : decide (n < y.length) = false := (by simp; omega)) | skip
          first | (have i4 : decide ((n : Int) < (x.length : Int)) = false := (by simp; omega)) | skip
          first | (have i5 : decide (n < x.length) = false := (by simp; omega)) | skip
          go_quiet (fail)
          go_wp2_with fail
          go_meet
          exact ⟨by rw [HB2.out], HB.out.trans ((below_drewN wr _).mono HB.out.size)⟩
    case rest =>
      obtain ⟨rfl, HB'⟩ := hcut
      cases B with
      | true =>
        have hgo := of_decide_eq_true HBD.out.symm
        obtain ⟨g1, g2, g3⟩ := hgo
        have HE2 : Hid (∀ j, j < n + 1 → x.getD j 0 = y.getD j 0) := fun j hj => by
          rcases Nat.lt_or_ge j n with h | h
          · exact HE.out j h
          · obtain rfl : j = n := by omega
            exact g3
        clear g3 HBD
        go_wp2
        exact ⟨⟨n + 1, by omega, by omega, by go_num, HE2, HB'⟩, by simp [intOf]; omega⟩
      | false =>
        have hgo := of_decide_eq_false HBD.out.symm
        have HL : Hid (Btw.lcp x y = n) := Btw.lcp_of hn1 hn2 HE.out (by
          rcases Nat.lt_or_ge n x.length with h | h
          · rcases Nat.lt_or_ge n y.length with h' | h'
            · exact .inr (.inr fun e => hgo ⟨h, h', e⟩)
            · exact .inr (.inl (by omega))
          · exact .inl (by omega))
        clear HE HB HBW hgo HBD
        go_wp2
        go_loopw [6] (fun t wr => ∃ k : Nat, n + k ≤ x.length ∧ n + k ≤ y.length ∧ t = .int .i64 k ∧ Hid (∀ j, j < k → x.getD (x.length - 1 - j) 0 = y.getD (y.length - 1 - j) 0) ∧ Hid (Below w0.heap.size w0 wr)) (fun t _ => x.length - (intOf t).toNat)
        case atStart => exact ⟨0, by omega, by omega, rfl, fun j hj => by omega, HB'⟩
        case round =>
          clear HB'
          obtain ⟨k, hk1, hk2, rfl, HE, HB⟩ := hrel
          have HBW := Lib.hid (HB0.out.trans (HB.out.mono HB0.out.size))
          obtain ⟨B, HBD⟩ : ∃ B : Bool, Hid (B = decide (n + k < x.length ∧ n + k < y.length ∧ x.getD (x.length - 1 - k) 0 = y.getD (y.length - 1 - k) 0)) := ⟨_, rfl⟩
          have s1 : IntKind.i64.wrap ((n : Int) + (k : Int)) = (n : Int) + (k : Int) := IntWalk.i64_in _ (by omega)
          have s3 : IntKind.i64.wrap ((x.length : Int) - (k : Int)) = (x.length : Int) - (k : Int) := IntWalk.i64_in _ (by omega)
          have s4 : IntKind.i64.wrap ((y.length : Int) - (k : Int)) = (y.length : Int) - (k : Int) := IntWalk.i64_in _ (by omega)
          have s5 : IntKind.i64.wrap ((x.length : Int) - (k : Int) - 1) = (x.length : Int) - (k : Int) - 1 := IntWalk.i64_in _ (by omega)
          have s6 : IntKind.i64.wrap ((y.length : Int) - (k : Int) - 1) = (y.length : Int) - (k : Int) - 1 := IntWalk.i64_in _ (by omega)
          have s2 := s1
          go_upto_region 5 with fail
          go_cut [54] (fun t wx => t = .bool B ∧ Hid (Below w0.heap.size w0 wx))
          case first =>
            by_cases g : n + k < x.length ∧ n + k < y.length
            · obtain ⟨g1, g2⟩ := g
              obtain ⟨ba, oa, rfl, hca⟩ := (HX.out.keep HBW.out).at (k := x.length - 1 - k) (by omega)
              obtain ⟨bb, ob, rfl, hcbb⟩ := (HY.out.keep HBW.out).at (k := y.length - 1 - k) (by omega)
              have c1 := hca (x.length - 1 - k) (by rw [ints_len]; omega)
              have c2 := hcbb (y.length - 1 - k) (by rw [ints_len]; omega)
              rw [ints_getD (by omega)] at c1
              rw [ints_getD (by omega)] at c2
              have HB2 : Hid (B = (x.getD (x.length - 1 - k) 0 == y.getD (y.length - 1 - k) 0)) := by show _ = _; rw [HBD.out, Bool.eq_iff_iff]; simp [g1, g2]
              generalize x.getD (x.length - 1 - k) 0 = z at *
              generalize y.getD (y.length - 1 - k) 0 = z' at *
              rw [show x.length - 1 - k = x.length - k - 1 by omega] at c1
              rw [show y.length - 1 - k = y.length - k - 1 by omega] at c2
              have i1 : (n : Int) + (k : Int) < (x.length : Int) := by omega
              have i2 : (n : Int) + (k : Int) < (y.length : Int) := by omega
              have i3 : 0 ≤ (x.length : Int) - (k : Int) - 1 := by omega
              have i4 : 0 ≤ (y.length : Int) - (k : Int) - 1 := by omega
              have i5 : (x.length : Int) - (k : Int) - 1 < (x.length : Int) := by omega
              have i6 : (y.length : Int) - (k : Int) - 1 < (y.length : Int) := by omega
              have i7 : ((x.length : Int) - (k : Int) - 1).toNat = x.length - k - 1 := by omega
              have i8 : ((y.length : Int) - (k : Int) - 1).toNat = y.length - k - 1 := by omega
              clear hca hcbb HBD
              rcases Nat.lt_or_ge y.length x.length with hxy | hxy
              all_goals
                go_quiet (fail)
                go_wp2_with fail
                go_meet
                exact ⟨by rw [HB2.out], HB.out.trans ((below_drewN wr _).mono HB.out.size)⟩
            · have HB2 : Hid (B = false) := by show _ = _; rw [HBD.out]; simp only [decide_eq_false_iff_not]; exact fun h => g ⟨h.1, h.2.1⟩
              clear HBD
              rcases Nat.lt_or_ge y.length x.length with hxy | hxy
              all_goals
                first | (have i2 : decide ((n : Int) + (k : Int) < (y.length : Int)) = false := (by simp; omega)) | skip
                first | (have i4 : decide ((n : Int) + (k : Int) < (x.length : Int)) = false := (by simp; omega)) | skip
                go_quiet (fail)
                go_wp2_with fail
                go_meet
                exact ⟨by rw [HB2.out], HB.out.trans ((below_drewN wr _).mono HB.out.size)⟩
          case rest =>
            clear s1 s2 s3 s4 s5 s6
            obtain ⟨rfl, HB'⟩ := hcut
            cases B with
            | true =>
              have hgo := of_decide_eq_true HBD.out.symm
              obtain ⟨g1, g2, g3⟩ := hgo
              have HE2 : Hid (∀ j, j < k + 1 → x.getD (x.length - 1 - j) 0 = y.getD (y.length - 1 - j) 0) := fun j hj => by
                rcases Nat.lt_or_ge j k with h | h
                · exact HE.out j h
                · obtain rfl : j = k := by omega
                  exact g3
              clear g3 HBD
              go_wp2
              exact ⟨⟨k + 1, by omega, by omega, by go_num, HE2, HB'⟩, by simp [intOf]; omega⟩
            | false =>
              have hgo := of_decide_eq_false HBD.out.symm
              have HK : Hid (Btw.suf x y n = k) := Btw.suf_of hk1 hk2 HE.out (by
                rcases Nat.lt_or_ge (n + k) x.length with h | h
                · rcases Nat.lt_or_ge (n + k) y.length with h' | h'
                  · exact .inr (.inr fun e => hgo ⟨h, h', e⟩)
                  · exact .inr (.inl (by omega))
                · exact .inl (by omega))
              clear HE HB HBW hgo HBD
              have HBW := Lib.hid (HB0.out.trans (HB'.out.mono HB0.out.size))
              have HRC := Lib.hid (bx_keep HR.out HB'.out)
              have HSZ : Hid (w.heap.size < wc.heap.size) := by have h1 := HS0.out; have h2 := HB'.out.size; show _ < _; omega
              have HP : Hid (BtwPost x y = EdOne n ((x.length : Int) - (k : Int)) ((y.drop n).take (y.length - k - n))) := by show _ = _; rw [BtwPost, HL.out, HK.out]
              obtain ⟨vs, HVS, HSL⟩ : ∃ vs, Hid (vs = Value.slice (if cb = n then b else b.map fun x => x.add n) (y.length - k - n) (cb - n)) ∧ Hid (∀ w', Below w.heap.size w w' → Sl w' vs (ints ((y.drop n).take (y.length - k - n)))) := by
                refine ⟨_, rfl, fun w' hb => ?_⟩
                have e : ints ((y.drop n).take (y.length - k - n)) = ((ints y).drop n).take (y.length - k - n) := by simp [ints]
                rw [e]
                exact (HY.out.keep hb).part (by omega) (by omega)
              have hlen : ((y.drop n).take (y.length - k - n)).length * 8 ≤ 140737488355328 := by simp; omega
              obtain ⟨Z, HZ⟩ : ∃ Z, Hid ((y.drop n).take (y.length - k - n) = Z) := ⟨_, rfl⟩
              rw [HZ.out] at hlen HSL HP
              have i1 : 0 ≤ (y.length : Int) - (k : Int) := by omega
              have i2 : (y.length : Int) - (k : Int) ≤ (cb : Int) := by omega
              have i3 : (n : Int) ≤ (y.length : Int) - (k : Int) := by omega
              by_cases hct : cb = n
              all_goals
                first | (rw [if_pos hct] at HVS; have hct' := hct.symm; subst hct'; rw [Nat.sub_self] at HVS) | rw [if_neg hct] at HVS
                obtain ⟨r0, r1, r2⟩ := bx_cells3 HRC.out
                obtain ⟨s0, s1, s2⟩ := bx_free3 HRC.out
                go_wp2_with fail
                rw [← HVS.out]
                have hg4 := grown3 wc w.heap.size (.int .i64 n) (.int .i64 ((x.length : Int) - (k : Int))) vs
                have hB4 := ((HBW.out.setCell (p := ⟨w.heap.size, 0, none⟩) (Nat.le_refl _) (.int .i64 n)).setCell (p := ⟨w.heap.size, 1, none⟩) (Nat.le_refl _) (.int .i64 ((x.length : Int) - (k : Int)))).setCell (p := ⟨w.heap.size, 2, none⟩) (Nat.le_refl _) vs
                have hsl := HSL.out _ hB4
                refine bodyPost_ret (v := .agg #[.int .i64 n, .int .i64 ((x.length : Int) - (k : Int)), vs]) (by simp [results, Try.results59, go_sem, r0, r1, r2]) rfl ?_
                rw [HP.out]
                obtain ⟨av, cv, hv⟩ := hsl.form
                rw [ints_len] at hv
                exact ⟨av, cv, by rw [hv], by rw [← hv]; exact hsl, hB4⟩
end Go.Proofs.Ytfbacnifankfkaa
