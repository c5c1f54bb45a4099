/- The contract of the reference's DfaFault: dfaErr. -/
import Derived.Test.YtenkhjmedolknaaDfaCheck
namespace Go.Proofs.Ytenkhjmedolknaa
open Go.RowKit
namespace Df

set_option maxHeartbeats 4000000 in
set_option maxRecDepth 100000 in
theorem faultE (x : Dfa) (aa an : Option Addr) (ca cn : Nat) (w : World) (hA : Sl w (.slice aa x.acc.length ca) (ints x.acc)) (hN : Rd AnyB w (.sl (x.next.map D.ints)) [.slice an x.next.length cn]) :
    Calls Try.prog 7 #[.agg #[.int .i64 x.start, .slice aa x.acc.length ca, .slice an x.next.length cn]] w fun e w' => e = .returned (.int .i64 (dfaErr x)) ∧ Below w.heap.size w w' := by
  obtain ⟨w0, HW0⟩ := nameIt (w.alloc (.cells #[.int .i64 x.start, .slice aa x.acc.length ca, .slice an x.next.length cn] 25))
  have hb0 : Below w.heap.size w w0 := by rw [← HW0.out]; exact (Below.refl _ _).alloc (Nat.le_refl _) _
  have HB0 := Lib.hid hb0
  have X0 : w0.heap[w.heap.size]? = some (.cells #[.int .i64 x.start, .slice aa x.acc.length ca, .slice an x.next.length cn] 25 (0, 0)) := by rw [← HW0.out]; exact bx_new _ _ _ rfl
  obtain ⟨x0, x1, x2⟩ := bx_cells3 X0
  have HA := Lib.hid (hA.keep hb0)
  have HNX := Lib.hid (hN.below hb0)
  clear hA hN hb0 X0
  have HS0 : Hid (startB x = (decide (x.start < 0) || decide ((x.next.length : Int) ≤ x.start))) := rfl
  obtain ⟨sB, HSB⟩ := nameIt (startB x)
  obtain ⟨R, HR⟩ := nameIt (dfaErr x)
  have HL0 : Hid (List.map D.ints x.next = x.next.map D.ints) := rfl
  obtain ⟨n, HN⟩ := nameIt x.next.length
  obtain ⟨la, HLA⟩ := nameIt x.acc.length
  obtain ⟨st, HST⟩ := nameIt x.start
  have HNB : Hid (n ≤ maxLen) := by
    have := Rd.form HNX.out
    obtain ⟨a, cap, L, e, h1, h2, h3⟩ := HNX.out
    show n ≤ maxLen
    rw [List.length_map] at h1
    rw [← HN.out]; omega
  rw [HN.out] at x2
  rw [HLA.out] at x1
  rw [HST.out] at x0
  rw [HN.out, HLA.out, HST.out] at HW0
  rw [HSB.out, HN.out, HST.out] at HS0
  have HAA := HA.out
  rw [HLA.out] at HAA
  have HNN := HNX.out
  rw [HN.out] at HNN
  replace HAA := Lib.hid HAA
  replace HNN := Lib.hid HNN
  rw [HN.out, HLA.out, HST.out, HR.out]
  by_cases h1 : 200 < n
  · have HE : Hid (R = 2) := by show _ = _; rw [← HR.out]; exact dfaErr_one (by rw [HN.out]; exact h1)
    have h1' : (200 : Int) < (n : Int) := by omega
    go_enter Try.func7, Try.ntmps7
    go_upto_region 1 with fail
    rw [HW0.out]
    go_wp2_with fail
    go_ret
    exact ⟨by rw [HE.out]; rfl, HB0.out⟩
  have h1' : ¬ (200 : Int) < (n : Int) := by omega
  by_cases h2 : n = 0 ∨ la ≠ n
  · have HE : Hid (R = 3) := by show _ = _; rw [← HR.out]; exact dfaErr_two (by rw [HN.out]; exact h1) (by rw [HN.out, HLA.out]; exact h2)
    by_cases h20 : n = 0
    · have h2' : (n : Int) = 0 := by omega
      clear h2 h20
      go_enter Try.func7, Try.ntmps7
      go_upto_region 1 with fail
      rw [HW0.out]
      go_wp2_with fail
      go_ret
      exact ⟨by rw [HE.out]; rfl, HB0.out⟩
    · have h2' : ¬ (n : Int) = 0 := by omega
      have h3' : ((la : Int) != (n : Int)) = true := by rw [bne_iff_ne]; omega
      clear h2 h20
      go_enter Try.func7, Try.ntmps7
      go_upto_region 1 with fail
      rw [HW0.out]
      go_wp2_with fail
      go_ret
      exact ⟨by rw [HE.out]; rfl, HB0.out⟩
  have hn0 : 0 < n := by omega
  obtain rfl : n = la := by omega
  have hni : ¬ (n : Int) = 0 := by omega
  have hni0 : (0 : Int) < (n : Int) := by omega
  have hn0x : 0 < x.next.length := by rw [HN.out]; exact hn0
  have H2 : Hid (¬ (x.next.length = 0 ∨ x.acc.length ≠ x.next.length)) := by show ¬ _; rw [HN.out, HLA.out]; exact h2
  have H1 : Hid (¬ 200 < x.next.length) := by show ¬ _; rw [HN.out]; exact h1
  obtain ⟨b, off, vr, hae, c0, hsl⟩ := Rd.rowI_at HNN.out hn0x
  obtain ⟨a0, k0, rfl⟩ := hsl.form
  rw [ints_len, width_at hn0x, Nat.add_zero] at c0
  clear hsl
  obtain ⟨m, HM⟩ := nameIt x.width
  rw [HM.out] at c0
  subst hae
  by_cases h3 : 16 < m
  · have HE : Hid (R = 2) := by show _ = _; rw [← HR.out]; exact dfaErr_three H1.out H2.out (by rw [HM.out]; exact h3)
    have h3' : (16 : Int) < (m : Int) := by omega
    clear h2 h1
    go_enter Try.func7, Try.ntmps7
    go_upto_region 1 with fail
    rw [HW0.out]
    go_wp2_with fail
    go_ret
    exact ⟨by rw [HE.out]; rfl, HB0.out⟩
  have h3' : ¬ (16 : Int) < (m : Int) := by omega
  have H3 : Hid (¬ 16 < x.width) := by show ¬ _; rw [HM.out]; exact h3
  clear h2 h1 h3
  obtain ⟨p, HP⟩ := nameIt (fun v : Int => decide (v < -1))
  obtain ⟨q, HQ⟩ := nameIt (fun v : Int => decide (v < -1) || decide ((n : Int) ≤ v))
  obtain ⟨B, HBn⟩ := nameIt (fun j => sB || ((x.acc.take j).any p || (x.next.take j).any (rowB x)))
  have HB00 : Hid (B 0 = sB) := by show _ = _; rw [← HBn.out]; simp
  have HBS : Hid (∀ j (h : j < x.acc.length) (h' : j < x.next.length), B (j + 1) = ((B j || p x.acc[j]) || rowB x x.next[j])) := by
    intro j h h'; rw [← HBn.out]; show (sB || (_ || _)) = (((sB || (_ || _)) || _) || _); rw [any_step (rowB x) h', any_step p h]
    cases sB <;> cases (x.acc.take j).any p <;> cases (x.next.take j).any (rowB x) <;> cases p x.acc[j] <;> rfl
  have HBE : Hid (x.next.any (badRowB x) = false → R = if B n = true then 1 else 0) := by
    intro H4
    have h5 := dfaErr_five H1.out H2.out H3.out H4
    rw [HSB.out, HR.out] at h5
    rw [h5, ← HBn.out]
    show _ = if (sB || ((x.acc.take n).any p || (x.next.take n).any (rowB x))) = true then 1 else 0
    have e1 : x.acc.take n = x.acc := by rw [← HLA.out]; exact List.take_length
    have e2 : x.next.take n = x.next := by rw [← HN.out]; exact List.take_length
    rw [e1, e2, ← HP.out, Bool.or_assoc]
    rfl
  have HQR : Hid (∀ r, rowB x r = r.any q) := by intro r; rw [← HQ.out, ← HN.out]; rfl
  have HACA : Hid (∀ j (h : j < n), ∃ ba oa, aa = some ⟨ba, oa, none⟩ ∧ w0.cell? ⟨ba, oa + j, none⟩ = some (.int .i64 (x.acc[j]'(by rw [HLA.out]; exact h)))) := by
    intro j h
    obtain ⟨ba, oa, hae, hca⟩ := HAA.out.at h
    have c1 := hca j (by rw [ints_len, HLA.out]; exact h)
    rw [ints_get] at c1
    exact ⟨ba, oa, hae, c1⟩
  have HS1 : Hid (sB = true ∨ (decide (st < 0) = false ∧ decide ((n : Int) ≤ st) = false)) := by
    show _ ∨ _
    rw [HS0.out]
    cases decide (st < 0) <;> cases decide ((n : Int) ≤ st) <;> simp
  have hnb : ((n : Int) == 0) = false := by rw [beq_eq_false_iff_ne]; exact hni
  go_enter Try.func7, Try.ntmps7
  go_upto_region 1 with fail
  rw [HW0.out]
  go_upto_region 7 with fail
  go_cut [3] (fun t3 wx => t3 = .bool sB ∧ w0 = wx)
  case first =>
    by_cases hs1 : st < 0
    · have hd1 : decide (st < 0) = true := by simpa using hs1
      have HV : Hid (sB = true) := by show _ = _; rw [HS0.out, hd1]; rfl
      clear hs1
      go_wp2_with fail
      go_meet
      exact ⟨by rw [HV.out], rfl⟩
    · have hd1 : decide (st < 0) = false := by simpa using hs1
      have HV : Hid (sB = decide ((n : Int) ≤ st)) := by show _ = _; rw [HS0.out, hd1]; rfl
      clear hs1
      go_wp2_with fail
      go_meet
      exact ⟨by rw [HV.out], rfl⟩
  case rest =>
  obtain ⟨rfl, rfl⟩ := hcut
  go_wp2_with fail
  go_loopg [3, 4, 5, 7, 48] n (fun gg v3 v4 v5 v7 v48 wr => ∃ i : Nat, i ≤ n ∧ n - i ≤ gg ∧ v3 = .bool (B i) ∧ v48 = .int .i64 i ∧ w0 = wr ∧ Hid ((x.next.take i).any (badRowB x) = false))
  case atStart => exact ⟨0, by omega, by omega, by rw [HB00.out], rfl, rfl, rfl⟩
  case round =>
    obtain ⟨i, hi, hg, rfl, rfl, rfl, HI⟩ := hrel
    by_cases hlt : i < n
    · have hlt' : (i : Int) < (n : Int) := by omega
      have hi0 : (0 : Int) ≤ (i : Int) := by omega
      have hltx : i < x.next.length := by rw [HN.out]; exact hlt
      obtain ⟨b', off', vi, hae, ci, hsl⟩ := Rd.rowI_at HNN.out hltx
      obtain ⟨ai, ki, rfl⟩ := hsl.form
      rw [ints_len] at ci hsl
      cases hae
      have HSL := Lib.hid hsl
      clear hsl
      have HBR : Hid (badRowB x x.next[i] = (decide (x.next[i].length = 0) || decide (x.next[i].length ≠ x.width))) := rfl
      have HST' := Lib.hid (any_step (badRowB x) hltx)
      have HAT := Lib.hid (fun h => any_at (p := badRowB x) hltx h)
      have HBB := Lib.hid (HBS.out i (by rw [HLA.out]; exact hlt) hltx)
      rw [HQR.out] at HBB
      obtain ⟨ro, HRO⟩ := nameIt x.next[i]
      rw [HRO.out] at HST' HAT HBR HBB HSL ci
      obtain ⟨br, HBRN⟩ := nameIt (badRowB x ro)
      obtain ⟨rl, HRL⟩ := nameIt ro.length
      rw [HRL.out] at ci
      rw [HBRN.out, HRL.out, HM.out] at HBR
      rw [HBRN.out] at HST' HAT
      by_cases hm : rl = m
      · by_cases hr : rl = 0
        · have HE : Hid (R = 3) := by
            show _ = _; rw [← HR.out]; exact dfaErr_four H1.out H2.out H3.out (HAT.out (by rw [HBR.out]; simp [hr]))
          have hri : ((rl : Int) == 0) = true := by simpa using hr
          subst hm
          clear hr
          go_wp2_with fail
          go_ret
          exact ⟨by rw [HE.out]; rfl, HB0.out⟩
        · have HI2 : Hid ((x.next.take (i + 1)).any (badRowB x) = false) := by
            show _ = _; rw [HST'.out, HI.out, HBR.out]; simp [hm]; omega
          have hri : ((rl : Int) == 0) = false := by rw [beq_eq_false_iff_ne]; omega
          have HRN := Lib.hid hr
          obtain ⟨ba, oa, hae, ca0⟩ := HACA.out i hlt
          have haix : i < x.acc.length := by rw [HLA.out]; exact hlt
          obtain ⟨av, HAV⟩ := nameIt (x.acc[i]'haix)
          rw [HAV.out] at HBB ca0
          obtain ⟨Bi, HBi⟩ := nameIt (B i)
          obtain ⟨Bj, HBj⟩ := nameIt (B (i + 1))
          rw [HBi.out, HBj.out] at HBB
          rw [HBi.out]
          subst hae hm
          clear hr
          have HPA : Hid (p av = decide (av < -1)) := by rw [← HP.out]; rfl
          rw [HPA.out] at HBB
          go_upto_region 13 with fail
          obtain ⟨b1, Hb1⟩ := nameIt (Bi || decide (av < -1))
          rw [Hb1.out] at HBB
          go_cut [3] (fun t3 wx => t3 = .bool b1 ∧ w0 = wx)
          case first =>
            cases Bi with
            | true =>
              have HV : Hid (b1 = true) := by show _ = _; rw [← Hb1.out]; rfl
              go_wp2_with fail
              go_meet
              exact ⟨by rw [HV.out], rfl⟩
            | false =>
              have HV : Hid (b1 = decide (av < -1)) := by show _ = _; rw [← Hb1.out]; rfl
              go_wp2_with fail
              go_meet
              exact ⟨by rw [HV.out], rfl⟩
          case rest =>
            obtain ⟨rfl, rfl⟩ := hcut
            clear ca0
            go_wp2_with fail
            obtain ⟨G, HG⟩ := nameIt (fun j => b1 || (ro.take j).any q)
            have HG0 : Hid (G 0 = b1) := by show _ = _; rw [← HG.out]; simp
            have HGS : Hid (∀ j (h : j < ro.length), G (j + 1) = (G j || q ro[j])) := by
              intro j h; rw [← HG.out]; show (b1 || _) = ((b1 || _) || _); rw [any_step q h, Bool.or_assoc]
            have HGE : Hid (G rl = Bj) := by
              show _ = _; rw [HBB.out, ← HG.out]
              show (b1 || (ro.take rl).any q) = _
              rw [← HRL.out, List.take_length]
            go_loopg [3, 7, 77] rl (fun gg v3 v7 v77 wr => ∃ j : Nat, j ≤ rl ∧ rl - j ≤ gg ∧ v3 = .bool (G j) ∧ v77 = .int .i64 j ∧ w0 = wr)
            case atStart => exact ⟨0, by omega, by omega, by rw [HG0.out], rfl, rfl⟩
            case round =>
              obtain ⟨j, hj, hg2, rfl, rfl, rfl⟩ := hrel
              by_cases hlt2 : j < rl
              · have hlt2' : (j : Int) < (rl : Int) := by omega
                have hj0 : (0 : Int) ≤ (j : Int) := by omega
                have hjr : j < ro.length := by rw [HRL.out]; exact hlt2
                have hsl := HSL.out
                rw [HRL.out] at hsl
                obtain ⟨br', or', hae, hcr⟩ := hsl.at hlt2
                have cr := hcr j (by rw [ints_len]; exact hjr)
                rw [ints_get] at cr
                subst hae
                have HGJ := Lib.hid (HGS.out j hjr)
                obtain ⟨v, HV⟩ := nameIt (ro[j]'hjr)
                have HQV : Hid (q v = (decide (v < -1) || decide ((n : Int) ≤ v))) := by rw [← HQ.out]; rfl
                rw [HV.out] at cr HGJ
                rw [HQV.out] at HGJ
                obtain ⟨Gj, HGj⟩ := nameIt (G j)
                obtain ⟨Gk, HGk⟩ := nameIt (G (j + 1))
                rw [HGj.out, HGk.out] at HGJ
                rw [HGj.out]
                clear hcr hsl
                cases Gj with
                | true =>
                  have HVV : Hid (Gk = true) := by show _ = _; rw [HGJ.out]; rfl
                  go_wp2_with fail
                  go_roundg (rl - (j + 1))
                  case measure => omega
                  case rel => exact ⟨j + 1, by omega, by omega, by rw [HGk.out, HVV.out], by go_num, rfl⟩
                | false =>
                  by_cases hs1 : v < -1
                  · have hd1 : decide (v < -1) = true := by simpa using hs1
                    have HVV : Hid (Gk = true) := by show _ = _; rw [HGJ.out, hd1]; rfl
                    clear hs1
                    go_wp2_with fail
                    go_roundg (rl - (j + 1))
                    case measure => omega
                    case rel => exact ⟨j + 1, by omega, by omega, by rw [HGk.out, HVV.out], by go_num, rfl⟩
                  · have hd1 : decide (v < -1) = false := by simpa using hs1
                    have HVV : Hid (Gk = decide ((n : Int) ≤ v)) := by show _ = _; rw [HGJ.out, hd1]; simp
                    clear hs1
                    go_wp2_with fail
                    go_roundg (rl - (j + 1))
                    case measure => omega
                    case rel => exact ⟨j + 1, by omega, by omega, by rw [HGk.out, HVV.out], by go_num, rfl⟩
              · obtain rfl : j = rl := by omega
                have hlt2' : ¬ (j : Int) < (j : Int) := by omega
                rw [HGE.out]
                go_wp2_with fail
                go_roundg (n - (i + 1))
                case measure => omega
                case rel => exact ⟨i + 1, by omega, by omega, by rw [HBj.out], by go_num, rfl, HI2⟩
      · have HE : Hid (R = 3) := by
          show _ = _; rw [← HR.out]; exact dfaErr_four H1.out H2.out H3.out (HAT.out (by rw [HBR.out]; simp [hm]))
        have hmi : ((rl : Int) != (m : Int)) = true := by rw [bne_iff_ne]; omega
        go_wp2_with fail
        go_ret
        exact ⟨by rw [HE.out]; rfl, HB0.out⟩
    · obtain rfl : i = n := by omega
      have hlt' : ¬ (i : Int) < (i : Int) := by omega
      have H4 : x.next.any (badRowB x) = false := by
        have := HI.out
        rw [← HN.out, List.take_length] at this
        exact this
      have HB9 := Lib.hid (HBE.out H4)
      clear H4
      obtain ⟨Bj, HBj⟩ := nameIt (B i)
      rw [HBj.out] at HB9 ⊢
      cases Bj with
      | true =>
        have HE : Hid (R = 1) := HB9.out
        go_wp2_with fail
        go_ret
        exact ⟨by rw [HE.out]; rfl, HB0.out⟩
      | false =>
        have HE : Hid (R = 0) := HB9.out
        go_wp2_with fail
        go_ret
        exact ⟨by rw [HE.out]; rfl, HB0.out⟩
end Df
end Go.Proofs.Ytenkhjmedolknaa
