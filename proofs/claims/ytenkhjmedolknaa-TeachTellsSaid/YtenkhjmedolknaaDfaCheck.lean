/- The contract of dfa.Check: dfaErr. -/
import Derived.Test.YtenkhjmedolknaaDfaOut
import Derived.Test.YtenkhjmedolknaaMinMax
import Derived.Test.YtenkhjmedolknaaRegA
namespace Go.Proofs.Ytenkhjmedolknaa
open Go.RowKit
namespace Df

def badRowB (x : Dfa) (r : List Int) : Bool := decide (r.length = 0) || decide (r.length ≠ x.width)
def startB (x : Dfa) : Bool := decide (x.start < 0) || decide ((x.next.length : Int) ≤ x.start)
def rowB (x : Dfa) (r : List Int) : Bool := r.any fun v => decide (v < -1) || decide ((x.next.length : Int) ≤ v)
def accB (x : Dfa) : Bool := x.acc.any fun v => decide (v < -1)
theorem ragged_iff (x : Dfa) : raggedD x ↔ x.next.any (badRowB x) = true := by
  unfold raggedD badRowB
  rw [List.any_eq_true]
  refine exists_congr fun r => and_congr_right fun _ => ?_
  simp
theorem badD_iff (x : Dfa) : badD x ↔ (startB x || accB x || x.next.any (rowB x)) = true := by
  unfold badD startB accB rowB
  simp only [Bool.or_eq_true, List.any_eq_true, decide_eq_true_eq, or_assoc]
theorem dfaErr_one {x : Dfa} (h1 : 200 < x.next.length) : dfaErr x = 2 := by unfold dfaErr; rw [if_pos h1]
theorem dfaErr_two {x : Dfa} (h1 : ¬ 200 < x.next.length) (h2 : x.next.length = 0 ∨ x.acc.length ≠ x.next.length) : dfaErr x = 3 := by unfold dfaErr; rw [if_neg h1, if_pos h2]
theorem dfaErr_three {x : Dfa} (h1 : ¬ 200 < x.next.length) (h2 : ¬ (x.next.length = 0 ∨ x.acc.length ≠ x.next.length)) (h3 : 16 < x.width) : dfaErr x = 2 := by unfold dfaErr; rw [if_neg h1, if_neg h2, if_pos h3]
theorem dfaErr_four {x : Dfa} (h1 : ¬ 200 < x.next.length) (h2 : ¬ (x.next.length = 0 ∨ x.acc.length ≠ x.next.length)) (h3 : ¬ 16 < x.width) (h4 : x.next.any (badRowB x) = true) : dfaErr x = 3 := by unfold dfaErr; rw [if_neg h1, if_neg h2, if_neg h3, if_pos ((ragged_iff x).2 h4)]
theorem dfaErr_five {x : Dfa} (h1 : ¬ 200 < x.next.length) (h2 : ¬ (x.next.length = 0 ∨ x.acc.length ≠ x.next.length)) (h3 : ¬ 16 < x.width) (h4 : x.next.any (badRowB x) = false) : dfaErr x = if (startB x || accB x || x.next.any (rowB x)) = true then 1 else 0 := by
  unfold dfaErr
  rw [if_neg h1, if_neg h2, if_neg h3, if_neg (by rw [ragged_iff, h4]; simp)]
  by_cases h : badD x
  · rw [if_pos h, if_pos ((badD_iff x).1 h)]
  · rw [if_neg h, if_neg (fun e => h ((badD_iff x).2 e))]
theorem any_step {α : Type} (p : α → Bool) {l : List α} {i : Nat} (h : i < l.length) : (l.take (i + 1)).any p = ((l.take i).any p || p l[i]) := by
  rw [List.take_succ_eq_append_getElem h, List.any_append]
  simp
theorem any_at {α : Type} {p : α → Bool} {l : List α} {i : Nat} (h : i < l.length) (hp : p l[i] = true) : l.any p = true := List.any_eq_true.2 ⟨_, List.getElem_mem h, hp⟩
theorem rowB_min {x : Dfa} {r : List Int} (h0 : 0 < r.length) : rowB x r = (decide (minL r < -1) || decide ((x.next.length : Int) ≤ maxL r)) := by
  rw [Bool.eq_iff_iff]
  unfold rowB
  simp only [List.any_eq_true, Bool.or_eq_true, decide_eq_true_eq, minL_lt h0, maxL_le h0]
  constructor
  · rintro ⟨v, hv, h | h⟩
    · exact .inl ⟨v, hv, h⟩
    · exact .inr ⟨v, hv, h⟩
  · rintro (⟨v, hv, h⟩ | ⟨v, hv, h⟩)
    · exact ⟨v, hv, .inl h⟩
    · exact ⟨v, hv, .inr h⟩
theorem accB_min {x : Dfa} (h0 : 0 < x.acc.length) : accB x = decide (minL x.acc < -1) := by
  rw [Bool.eq_iff_iff]
  unfold accB
  simp only [List.any_eq_true, decide_eq_true_eq, minL_lt h0]

set_option maxHeartbeats 4000000 in
theorem checkE (x : Dfa) (aa an : Option Addr) (ca cn : Nat) (w : World) (hA : Sl w (.slice aa x.acc.length ca) (ints x.acc)) (hN : Rd AnyB w (.sl (x.next.map D.ints)) [.slice an x.next.length cn]) :
    Calls Try.prog 16 #[.agg #[.int .i64 x.start, .slice aa x.acc.length ca, .slice an x.next.length cn]] w fun e w' => e = .returned (.int .i64 (dfaErr x)) ∧ Below w.heap.size w w' := by
  obtain ⟨w0, HW0⟩ := nameIt (w.alloc (.cells #[.int .i64 x.start, .slice aa x.acc.length ca, .slice an x.next.length cn] 25))
  have hb0 : Below w.heap.size w w0 := by rw [← HW0.out]; exact (Below.refl _ _).alloc (Nat.le_refl _) _
  have HB0 := Lib.hid hb0
  have X0 : w0.heap[w.heap.size]? = some (.cells #[.int .i64 x.start, .slice aa x.acc.length ca, .slice an x.next.length cn] 25 (0, 0)) := by rw [← HW0.out]; exact bx_new _ _ _ rfl
  obtain ⟨x0, x1, x2⟩ := bx_cells3 X0
  have HA := Lib.hid (hA.keep hb0)
  have HNX := Lib.hid (hN.below hb0)
  clear hA hN hb0 X0
  have HS0 : Hid (startB x = (decide (x.start < 0) || decide ((x.next.length : Int) ≤ x.start))) := rfl
  obtain ⟨sB, HSB⟩ := nameIt (startB x)
  obtain ⟨R, HR⟩ := nameIt (dfaErr x)
  have HL0 : Hid (List.map D.ints x.next = x.next.map D.ints) := rfl
  obtain ⟨n, HN⟩ := nameIt x.next.length
  obtain ⟨la, HLA⟩ := nameIt x.acc.length
  obtain ⟨st, HST⟩ := nameIt x.start
  have HNB : Hid (n ≤ maxLen) := by
    have := Rd.form HNX.out
    obtain ⟨a, cap, L, e, h1, h2, h3⟩ := HNX.out
    show n ≤ maxLen
    rw [List.length_map] at h1
    rw [← HN.out]; omega
  rw [HN.out] at x2
  rw [HLA.out] at x1
  rw [HST.out] at x0
  rw [HN.out, HLA.out, HST.out] at HW0
  rw [HSB.out, HN.out, HST.out] at HS0
  have HAA := HA.out
  rw [HLA.out] at HAA
  have HNN := HNX.out
  rw [HN.out] at HNN
  replace HAA := Lib.hid HAA
  replace HNN := Lib.hid HNN
  rw [HN.out, HLA.out, HST.out, HR.out]
  by_cases h1 : 200 < n
  · have HE : Hid (R = 2) := by show _ = _; rw [← HR.out]; exact dfaErr_one (by rw [HN.out]; exact h1)
    have h1' : (200 : Int) < (n : Int) := by omega
    go_enter Try.func16, Try.ntmps16
    go_upto_region 1 with fail
    rw [HW0.out]
    go_wp2_with fail
    go_ret
    exact ⟨by rw [HE.out]; rfl, HB0.out⟩
  have h1' : ¬ (200 : Int) < (n : Int) := by omega
  by_cases h2 : n = 0 ∨ la ≠ n
  · have HE : Hid (R = 3) := by show _ = _; rw [← HR.out]; exact dfaErr_two (by rw [HN.out]; exact h1) (by rw [HN.out, HLA.out]; exact h2)
    by_cases h20 : n = 0
    · have h2' : (n : Int) = 0 := by omega
      clear h2 h20
      go_enter Try.func16, Try.ntmps16
      go_upto_region 1 with fail
      rw [HW0.out]
      go_wp2_with fail
      go_ret
      exact ⟨by rw [HE.out]; rfl, HB0.out⟩
    · have h2' : ¬ (n : Int) = 0 := by omega
      have h3' : ((la : Int) != (n : Int)) = true := by rw [bne_iff_ne]; omega
      clear h2 h20
      go_enter Try.func16, Try.ntmps16
      go_upto_region 1 with fail
      rw [HW0.out]
      go_wp2_with fail
      go_ret
      exact ⟨by rw [HE.out]; rfl, HB0.out⟩
  have hn0 : 0 < n := by omega
  obtain rfl : n = la := by omega
  have hni : ¬ (n : Int) = 0 := by omega
  have hni0 : (0 : Int) < (n : Int) := by omega
  have hn0x : 0 < x.next.length := by rw [HN.out]; exact hn0
  have H2 : Hid (¬ (x.next.length = 0 ∨ x.acc.length ≠ x.next.length)) := by show ¬ _; rw [HN.out, HLA.out]; exact h2
  have H1 : Hid (¬ 200 < x.next.length) := by show ¬ _; rw [HN.out]; exact h1
  obtain ⟨b, off, vr, hae, c0, hsl⟩ := Rd.rowI_at HNN.out hn0x
  obtain ⟨a0, k0, rfl⟩ := hsl.form
  rw [ints_len, width_at hn0x, Nat.add_zero] at c0
  clear hsl
  obtain ⟨m, HM⟩ := nameIt x.width
  rw [HM.out] at c0
  subst hae
  by_cases h3 : 16 < m
  · have HE : Hid (R = 2) := by show _ = _; rw [← HR.out]; exact dfaErr_three H1.out H2.out (by rw [HM.out]; exact h3)
    have h3' : (16 : Int) < (m : Int) := by omega
    clear h2 h1
    go_enter Try.func16, Try.ntmps16
    go_upto_region 1 with fail
    rw [HW0.out]
    go_wp2_with fail
    go_ret
    exact ⟨by rw [HE.out]; rfl, HB0.out⟩
  have h3' : ¬ (16 : Int) < (m : Int) := by omega
  have H3 : Hid (¬ 16 < x.width) := by show ¬ _; rw [HM.out]; exact h3
  clear h2 h1 h3
  go_enter Try.func16, Try.ntmps16
  go_upto_region 1 with fail
  rw [HW0.out]
  go_wp2_with fail
  go_loopg [5, 35] n (fun gg v5 v35 wr => ∃ i : Nat, i ≤ n ∧ n - i ≤ gg ∧ v35 = .int .i64 i ∧ w0 = wr ∧ Hid ((x.next.take i).any (badRowB x) = false))
  case atStart => exact ⟨0, by omega, by omega, rfl, rfl, rfl⟩
  case round =>
    obtain ⟨i, hi, hg, rfl, rfl, HI⟩ := hrel
    by_cases hlt : i < n
    · have hlt' : (i : Int) < (n : Int) := by omega
      have hi0 : (0 : Int) ≤ (i : Int) := by omega
      have hltx : i < x.next.length := by rw [HN.out]; exact hlt
      obtain ⟨b', off', vi, hae, ci, hsl⟩ := Rd.rowI_at HNN.out hltx
      obtain ⟨ai, ki, rfl⟩ := hsl.form
      rw [ints_len] at ci
      cases hae
      clear hsl
      have HBR : Hid (badRowB x x.next[i] = (decide (x.next[i].length = 0) || decide (x.next[i].length ≠ x.width))) := rfl
      have HST' := Lib.hid (any_step (badRowB x) hltx)
      have HAT := Lib.hid (fun h => any_at (p := badRowB x) hltx h)
      obtain ⟨br, HBRN⟩ := nameIt (badRowB x x.next[i])
      obtain ⟨rl, HRL⟩ := nameIt x.next[i].length
      rw [HRL.out] at ci
      rw [HBRN.out, HRL.out, HM.out] at HBR
      rw [HBRN.out] at HST' HAT
      by_cases hr : rl = 0
      · have HE : Hid (R = 3) := by
          show _ = _; rw [← HR.out]; exact dfaErr_four H1.out H2.out H3.out (HAT.out (by rw [HBR.out]; simp [hr]))
        have hri : (rl : Int) = 0 := by omega
        clear hr
        go_wp2_with fail
        go_ret
        exact ⟨by rw [HE.out]; rfl, HB0.out⟩
      · have hri : ¬ (rl : Int) = 0 := by omega
        have HRN := Lib.hid hr
        clear hr
        by_cases hm : rl = m
        · have hmi : (rl : Int) = (m : Int) := by omega
          have HI2 : Hid ((x.next.take (i + 1)).any (badRowB x) = false) := by
            show _ = _; rw [HST'.out, HI.out, HBR.out]; simp [hm]; have := HRN.out; omega
          subst hm
          go_wp2_with fail
          go_roundg (n - (i + 1))
          case measure => omega
          case rel => exact ⟨i + 1, by omega, by omega, by go_num, rfl, HI2⟩
        · have HE : Hid (R = 3) := by
            show _ = _; rw [← HR.out]; exact dfaErr_four H1.out H2.out H3.out (HAT.out (by rw [HBR.out]; simp [hm]))
          have hmi : ((rl : Int) != (m : Int)) = true := by rw [bne_iff_ne]; omega
          have hrb : ((rl : Int) == 0) = false := by simpa using hri
          go_wp2_with fail
          go_ret
          exact ⟨by rw [HE.out]; rfl, HB0.out⟩
    · obtain rfl : i = n := by omega
      have hlt' : ¬ (i : Int) < (i : Int) := by omega
      have H4 : Hid (x.next.any (badRowB x) = false) := by
        have := HI.out
        rw [← HN.out, List.take_length] at this
        exact this
      have H5 := Lib.hid (dfaErr_five H1.out H2.out H3.out H4.out)
      have HAC := Lib.hid (accB_min (x := x) (by rw [HLA.out]; exact hn0))
      have HME := Lib.hid (minE x.acc (by rw [HLA.out]; exact hn0) aa ca)
      rw [HLA.out] at HME
      obtain ⟨aB, HAB⟩ := nameIt (accB x)
      obtain ⟨mA, HMA⟩ := nameIt (minL x.acc)
      rw [HMA.out] at HME
      rw [HAB.out, HMA.out] at HAC
      rw [HAB.out, HSB.out, HR.out] at H5
      have HMC : Hid (∀ W, Below w0.heap.size w0 W → Calls Try.prog 24 #[.slice aa i ca] W fun e w' => e = .returned (.int .i64 mA) ∧ Below W.heap.size W w') := fun W hb =>
        (HME.out W (HAA.out.keep hb)).mono fun _ _ ⟨he, hw⟩ => ⟨he, by rw [hw]; exact Below.refl _ _⟩
      obtain ⟨b0, HB0'⟩ := nameIt (sB || aB)
      clear HME HLA HNX HA HI HAA
      go_upto_region 14 with fail
      go_cut [6] (fun t6 wx => t6 = .bool b0 ∧ Hid (Below w0.heap.size w0 wx))
      case first =>
        by_cases hs1 : st < 0
        · have hd1 : decide (st < 0) = true := by simpa using hs1
          have HV : Hid (b0 = true) := by show _ = _; rw [← HB0'.out, HS0.out, hd1]; rfl
          clear hs1
          go_wp2_with fail
          go_meet
          exact ⟨by rw [HV.out], Below.refl _ _⟩
        · have hd1 : decide (st < 0) = false := by simpa using hs1
          by_cases hs2 : (i : Int) ≤ st
          · have hd2 : decide ((i : Int) ≤ st) = true := by simpa using hs2
            have HV : Hid (b0 = true) := by show _ = _; rw [← HB0'.out, HS0.out, hd2]; simp
            clear hs1 hs2
            go_wp2_with fail
            go_meet
            exact ⟨by rw [HV.out], Below.refl _ _⟩
          · have hd2 : decide ((i : Int) ≤ st) = false := by simpa using hs2
            have HV : Hid (b0 = decide (mA < -1)) := by show _ = _; rw [← HB0'.out, HS0.out, hd1, hd2, HAC.out]; rfl
            clear hs1 hs2
            go_wp2_with fail
            refine (HMC.out _ (Below.refl _ _)).mono ?_
            rintro e w7 ⟨rfl, hb7⟩
            have HB7 := Lib.hid hb7
            clear hb7
            go_wp2_with fail
            go_meet
            exact ⟨by rw [HV.out], HB7⟩
      case rest =>
        obtain ⟨rfl, HB7⟩ := hcut
        obtain ⟨w7, rfl⟩ : ∃ ww : World, ww = wc := ⟨_, rfl⟩
        have k2 := (HB7.out.cell (lt_of_cell x2)).trans x2
        clear x0 x1 x2 c0
        go_wp2_with fail
        obtain ⟨B, HBn⟩ := nameIt (fun j => b0 || (x.next.take j).any (rowB x))
        have HB00 : Hid (B 0 = b0) := by show _ = _; rw [← HBn.out]; simp
        have HBS : Hid (∀ j (h : j < x.next.length), B (j + 1) = (B j || rowB x x.next[j])) := by
          intro j h; rw [← HBn.out]; show (b0 || _) = ((b0 || _) || _); rw [any_step (rowB x) h, Bool.or_assoc]
        have HBE : Hid (R = if B i = true then 1 else 0) := by
          show _ = _; rw [H5.out, HB0'.out, ← HBn.out]
          show _ = if (b0 || (x.next.take i).any (rowB x)) = true then 1 else 0
          rw [← HN.out, List.take_length]
        go_loopg [6, 8, 71] i (fun gg v6 v8 v71 wr => ∃ j : Nat, j ≤ i ∧ i - j ≤ gg ∧ v6 = .bool (B j) ∧ v71 = .int .i64 j ∧ Hid (Below w0.heap.size w0 wr))
        case atStart => exact ⟨0, by omega, by omega, by rw [HB00.out], rfl, HB7⟩
        case round =>
          obtain ⟨j, hj, hg, rfl, rfl, HBr⟩ := hrel
          by_cases hlt : j < i
          · have hlt' : (j : Int) < (i : Int) := by omega
            have hj0 : (0 : Int) ≤ (j : Int) := by omega
            have hltx : j < x.next.length := by rw [HN.out]; exact hlt
            obtain ⟨b', off', vi, hae, cj, hsl⟩ := Rd.rowI_at HNN.out hltx
            obtain ⟨ai, ki, rfl⟩ := hsl.form
            rw [ints_len] at cj hsl
            cases hae
            have ck := (HBr.out.cell (lt_of_cell cj)).trans cj
            have hrl : 0 < x.next[j].length := by
              have h1 : badRowB x x.next[j] = false := by
                cases e : badRowB x x.next[j] with
                | false => rfl
                | true => exact absurd (any_at hltx e) (by rw [H4.out]; simp)
              unfold badRowB at h1
              simp at h1
              have := h1.1
              exact List.length_pos_iff.2 this
            have HS1 := Lib.hid (HBS.out j hltx)
            have HRM := rowB_min (x := x) hrl
            have HMI : Hid (∀ W, Below w0.heap.size w0 W → Calls Try.prog 24 #[.slice ai x.next[j].length ki] W fun e w' => e = .returned (.int .i64 (minL x.next[j])) ∧ Below W.heap.size W w') := fun W hb =>
              (minE _ hrl ai ki W (hsl.keep hb)).mono fun _ _ ⟨he, hw⟩ => ⟨he, by rw [hw]; exact Below.refl _ _⟩
            have HMA' : Hid (∀ W, Below w0.heap.size w0 W → Calls Try.prog 25 #[.slice ai x.next[j].length ki] W fun e w' => e = .returned (.int .i64 (maxL x.next[j])) ∧ Below W.heap.size W w') := fun W hb =>
              (maxE _ hrl ai ki W (hsl.keep hb)).mono fun _ _ ⟨he, hw⟩ => ⟨he, by rw [hw]; exact Below.refl _ _⟩
            obtain ⟨rb, HRB⟩ := nameIt (rowB x x.next[j])
            obtain ⟨m1, HM1⟩ := nameIt (minL x.next[j])
            obtain ⟨m2, HM2⟩ := nameIt (maxL x.next[j])
            obtain ⟨rl, HRL⟩ := nameIt x.next[j].length
            rw [HRB.out, HM1.out, HM2.out, HN.out] at HRM
            rw [HRL.out, HM1.out] at HMI
            rw [HRL.out, HM2.out] at HMA'
            rw [HRB.out] at HS1
            rw [HRL.out] at ck
            have HRM' := Lib.hid HRM
            obtain ⟨Bj, HBj⟩ := nameIt (B j)
            obtain ⟨Bk, HBk⟩ := nameIt (B (j + 1))
            rw [HBj.out, HBk.out] at HS1
            rw [HBj.out]
            clear hsl HRM hrl cj
            cases Bj with
            | true =>
              have HV : Hid (Bk = true) := by show _ = _; rw [HS1.out]; rfl
              go_wp2_with fail
              go_roundg (i - (j + 1))
              case measure => omega
              case rel => exact ⟨j + 1, by omega, by omega, by rw [HBk.out, HV.out], by go_num, HBr⟩
            | false =>
              go_wp2_with fail
              refine (HMI.out _ HBr.out).mono ?_
              rintro e w8 ⟨rfl, hb8⟩
              have HB8 := Lib.hid (HBr.out.trans (hb8.mono HBr.out.size))
              clear hb8
              by_cases h1 : m1 < -1
              · have hd1 : decide (m1 < -1) = true := by simpa using h1
                have HV : Hid (Bk = true) := by show _ = _; rw [HS1.out, HRM'.out, hd1]; rfl
                clear h1
                go_wp2_with fail
                go_roundg (i - (j + 1))
                case measure => omega
                case rel => exact ⟨j + 1, by omega, by omega, by rw [HBk.out, HV.out], by go_num, HB8⟩
              · have hd1 : decide (m1 < -1) = false := by simpa using h1
                have HV : Hid (Bk = decide ((i : Int) ≤ m2)) := by show _ = _; rw [HS1.out, HRM'.out, hd1]; simp
                clear h1
                go_wp2_with fail
                refine (HMA'.out _ HB8.out).mono ?_
                rintro e w9 ⟨rfl, hb9⟩
                have HB9 := Lib.hid (HB8.out.trans (hb9.mono HB8.out.size))
                clear hb9
                go_wp2_with fail
                go_roundg (i - (j + 1))
                case measure => omega
                case rel => exact ⟨j + 1, by omega, by omega, by rw [HBk.out, HV.out], by go_num, HB9⟩
          · obtain rfl : j = i := by omega
            have hlt' : ¬ (j : Int) < (j : Int) := by omega
            obtain ⟨Bj, HBj⟩ := nameIt (B j)
            rw [HBj.out] at HBE ⊢
            cases Bj with
            | true =>
              have HE : Hid (R = 1) := HBE.out
              go_wp2_with fail
              go_ret
              exact ⟨by rw [HE.out]; rfl, HB0.out.trans (HBr.out.mono HB0.out.size)⟩
            | false =>
              have HE : Hid (R = 0) := HBE.out
              go_wp2_with fail
              go_ret
              exact ⟨by rw [HE.out]; rfl, HB0.out.trans (HBr.out.mono HB0.out.size)⟩
end Df
end Go.Proofs.Ytenkhjmedolknaa
