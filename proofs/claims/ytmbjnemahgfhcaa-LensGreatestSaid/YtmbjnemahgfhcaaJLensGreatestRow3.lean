/- The contract of RuleFault: it is gram.Check's. Items as keys of a map. A row of the call's own that is also cut at its front: append to it. The lengths of words: two ways to reckon them, in plain Lean. lengthsOf: its boxes, its two rows of items, and its set. A region that draws its order: loads are taken first where their cells stay as they are until the tail begins. -/
import Derived.Test.YtmbjnemahgfhcaaJLensGreatestRow2
import Derived.DeepKeys4
import Derived.Test.YtmbjnemahgfhcaaJLensGreatestRow1
import Derived.StillTailTactics
import Derived.Deep.RegionHeld3
namespace Go.Proofs.Ytmbjnemahgfhcaa
open Go.RowKit

theorem zeroB (w : World) : (zeroValue 4).run Try.prog w = .ok (.bool false) w := by
  obtain ⟨i, hi, hz, _⟩ := info_parts (show (Try.prog.info? 4).map (fun i => (i.zero, i.size, i.bytes)) = some (some (.bool false), 1, 1) by kernel_rfl)
  simp [zeroValue, typeInfo, hi, hz]
theorem strK : Go.Maps.Keyed Try.prog 9 := Go.Maps.string_keyed Try.underlying9
abbrev StrSet (b c : Nat) (S : Lit → Bool) (w : World) : Prop := SetM Try.prog 9 4 b c S w
theorem conv_rune (n : Int) (hn : small n) (w : World) : (convert 3 21 (.int .i64 n)).run Try.prog w = .ok (.int .i32 n) w := by
  have h : IntKind.i32.wrap n = n := by obtain ⟨h1, h2⟩ := hn; simp [IntKind.wrap, IntKind.signed, IntKind.bits, IntKind.min, IntKind.max]; omega
  simp [convert, run_underlying Try.underlying3, run_underlying Try.underlying21, Conv.intToInt, h]
theorem conv_str (n : Int) (w : World) : (convert 21 9 (.int .i32 n)).run Try.prog w = .ok (.string (Utf8.encode n)) w := by
  simp [convert, run_underlying Try.underlying21, run_underlying Try.underlying9, Conv.intToString]

/-- what the rounds keep -/
structure FltI (w0 : World) (mb : Nat) (g : Gram) (K : List Rule) (i : Nat) (wr : World) : Prop where
  set : StrSet mb i (keysOf (K.take i)) wr
  bel : Below w0.heap.size w0 wr
  lo : w0.heap.size ≤ mb
  ok : ∀ r ∈ K.take i, okR r
  flt : faultsFrom g i (K.drop i) = faultsFrom g 0 K

set_option maxHeartbeats 4000000 in
set_option maxRecDepth 100000 in
theorem ruleFault (g : Gram) (ar : Option Addr) (cr : Nat) (w : World) (hr : Rd AnyB w (.sl (g.rules.map Rule.d)) [.slice ar g.rules.length cr]) :
    Calls Try.prog 6 #[.agg #[.int .i64 g.terms, .int .i64 g.nons, .int .i64 g.start, .slice ar g.rules.length cr]] w fun e w' => e = .returned (.int .i64 (checkG g)) ∧ Below w.heap.size w w' := by
  have hbs := hr.bounds.2
  unfold maxLen at hbs
  obtain ⟨hc1, hc2⟩ := hbs
  obtain ⟨gt, HGT⟩ := nameIt g.terms
  obtain ⟨gn, HGN⟩ := nameIt g.nons
  obtain ⟨gs, HGS⟩ := nameIt g.start
  obtain ⟨K, HK⟩ := nameIt g.rules
  have HBC := Lib.hid (@badHead_cases g)
  have HGH := Lib.hid (@goodHead g)
  rw [HGT.out, HGN.out, HGS.out] at HBC HGH
  obtain ⟨w0, HW0⟩ := nameIt (w.alloc (.cells #[.int .i64 gt, .int .i64 gn, .int .i64 gs, .slice ar K.length cr] 24))
  have HB0 : Hid (Below w.heap.size w w0) := by rw [← HW0.out]; exact (Below.refl _ _).alloc (Nat.le_refl _) _
  have X1 : Hid (w0.heap[w.heap.size]? = some (.cells #[.int .i64 gt, .int .i64 gn, .int .i64 gs, .slice ar K.length cr] 24 (0, 0))) := by rw [← HW0.out]; exact bx_new _ _ _ rfl
  have HR := Lib.hid (hr.below HB0.out)
  rw [HK.out] at HR hc1
  rw [HGT.out, HGN.out, HGS.out, HK.out]
  obtain ⟨x0, x1, x2, x3⟩ := bx_cells4 X1.out
  clear hr
  by_cases hbad : badHead g = true
  · have HE : Hid (checkG g = 1) := by show _ = _; simp [checkG, hbad]
    rcases HBC.out hbad with h1 | ⟨h1, h2⟩ | ⟨h1, h2, h3⟩ | ⟨h1, h2, h3, h4⟩ | ⟨h1, h2, h3, h4, h5⟩ | ⟨h1, h2, h3, h4, h5, h6⟩
    all_goals
      clear hbad
      go_enter Try.func6, Try.ntmps6
      go_upto_region 1 with fail
      rw [HW0.out]
      go_wp2_with fail
      go_ret
      exact ⟨by rw [HE.out]; rfl, HB0.out⟩
  · obtain ⟨h1, h2, h3, h4, h5, h6⟩ := HGH.out hbad
    have HBD := Lib.hid hbad
    clear hbad
    by_cases hlen : 32 < K.length
    · have HE : Hid (checkG g = 2) := by show _ = _; rw [checkG, if_neg HBD.out, HK.out, if_pos hlen]
      have hlen' : (32 : Int) < (K.length : Int) := by omega
      go_enter Try.func6, Try.ntmps6
      go_upto_region 1 with fail
      rw [HW0.out]
      go_wp2_with fail
      go_ret
      exact ⟨by rw [HE.out]; rfl, HB0.out⟩
    · have HE : Hid (checkG g = faultsFrom g 0 K) := by show _ = _; rw [checkG, if_neg HBD.out, HK.out, if_neg hlen]
      have hlen' : ¬ (32 : Int) < (K.length : Int) := by omega
      have HI0 : Hid (FltI w0 w0.heap.size g K 0 (w0.alloc (.map #[] 0))) := ⟨SetM.start _ _ _ _ rfl (fun l => by cases l <;> simp [keysOf]), (Below.refl _ _).alloc (Nat.le_refl _) _, Nat.le_refl _, by simp, rfl⟩
      have hmk : ∀ W : World, (Instr.makeMap 43 none).run Try.prog W = .ok (.map (some W.heap.size)) (W.alloc (.map #[] 0)) := fun W => by
        simp [Instr.makeMap, run_underlying Try.underlying43]; try rfl
      have hl0 : w.heap.size < w0.heap.size := (Array.getElem?_eq_some_iff.1 X1.out).1
      have hgn : gn ≤ 10 := by simp at h4; omega
      have hgt : gt ≤ 8 := by simp at h2; omega
      go_enter Try.func6, Try.ntmps6
      go_upto_region 1 with fail
      rw [HW0.out]
      go_wp2_with fail
      clear h1 h2 h3 h4 h5 h6 x0 x1 x2 x3
      obtain ⟨mb, HMB⟩ := nameIt w0.heap.size
      rw [HMB.out] at HI0
      rw [HMB.out]
      go_loopg [48] K.length (fun gg v48 wr => ∃ i : Nat, i ≤ K.length ∧ K.length - i ≤ gg ∧ v48 = .int .i64 i ∧ Hid (FltI w0 mb g K i wr))
      case atStart => exact ⟨0, by omega, by omega, rfl, HI0⟩
      case round =>
        clear HI0
        obtain ⟨wo, rfl⟩ : ∃ wo : World, wo = wr := ⟨_, rfl⟩
        obtain ⟨i, hi, hg, rfl, HI⟩ := hrel
        by_cases hlt : i < K.length
        · have hlt' : (i : Int) < (K.length : Int) := by omega
          have hmb := HI.out.set.lt
          have hlo := HI.out.lo
          obtain ⟨b, off, vr, hae, -, hbl, c0, c1, hkr⟩ := (HR.out.below HI.out.bel).rule_at hlt
          obtain ⟨av, cv, rfl, -, hcv⟩ := hkr.form
          rw [List.length_map] at c1 hkr
          have h1 := HI.out.flt
          have hrl : i < g.rules.length := by rw [HK.out]; exact hlt
          rw [← HK.out, faultsFrom_at hrl] at h1
          simp only [HK.out] at h1
          obtain ⟨r, HRn⟩ := nameIt (K[i]'hlt)
          rw [HRn.out] at c0 c1 hkr h1
          obtain ⟨w4, HW4⟩ := nameIt (wo.alloc (.cells #[.int .i64 r.left, .slice av r.right.length cv] 32))
          have hb4 : Below wo.heap.size wo w4 := by rw [← HW4.out]; exact (Below.refl _ _).alloc (Nat.le_refl _) _
          have X4 : Hid (w4.heap[wo.heap.size]? = some (.cells #[.int .i64 r.left, .slice av r.right.length cv] 32 (0, 0))) := by rw [← HW4.out]; exact bx_new _ _ _ rfl
          have HB4 : Hid (Below w0.heap.size w0 w4) := HI.out.bel.trans (hb4.mono HI.out.bel.size)
          have HS4 := Lib.hid (HI.out.set.keep hb4)
          have HKR := Lib.hid (hkr.below hb4)
          have X1' := Lib.hid (bx_keep X1.out HB4.out)
          have HH1 := Lib.hid h1
          have hwl : wo.heap.size < w4.heap.size := (Array.getElem?_eq_some_iff.1 X4.out).1
          obtain ⟨lf, HLF⟩ := nameIt r.left
          obtain ⟨R, HRR⟩ := nameIt r.right
          have hfr : faultR g i r = if lf < 0 ∨ gn ≤ lf then 3 else if 4 < R.length then 2 else if R.any (fun s => !hasS g s) then 3 else if (K.take i).any (fun x => cmpR x r == 0) then 6 else 0 := by
            unfold faultR; rw [HLF.out, HGN.out, HRR.out, HK.out]
          have HFR := Lib.hid hfr
          have HW4' := HW4
          have X4' := X4
          rw [HLF.out, HRR.out] at X4'
          rw [HLF.out] at c0 HW4'
          rw [HRR.out] at c1 HW4' HKR
          obtain ⟨y0, y1⟩ := bx_cells2 X4'.out
          obtain ⟨x0, x1, x2, x3⟩ := bx_cells4 X1'.out
          subst hae
          clear h1 hkr hb4 hfr
          have FIN : Hid (∀ z W, z ≠ 0 → faultR g i r = z → Below w0.heap.size w0 W → (Ending.returned (.int .i64 z) = .returned (.int .i64 (checkG g)) ∧ Below w.heap.size w W)) := by
            intro z W hz hf hb
            refine ⟨?_, HB0.out.trans (hb.mono HB0.out.size)⟩
            rw [HE.out, ← HH1.out, hf, if_neg hz]
          by_cases hlf : lf < 0 ∨ gn ≤ lf
          · have hz := HFR.out
            rw [if_pos hlf] at hz
            have HZ := Lib.hid hz
            clear hz
            by_cases hl0 : lf < 0
            · have hl0' : decide (lf < 0) = true := by simpa using hl0
              clear hlf hl0
              go_upto_region 9 with fail
              rw [HW4'.out]
              go_wp2_with fail
              go_ret
              exact FIN.out 3 _ (by decide) HZ.out HB4.out
            · have hl0' : decide (lf < 0) = false := by simpa using hl0
              have hl1' : decide (gn ≤ lf) = true := by simp; omega
              clear hlf hl0
              go_upto_region 9 with fail
              rw [HW4'.out]
              go_wp2_with fail
              go_ret
              exact FIN.out 3 _ (by decide) HZ.out HB4.out
          · have hl0' : decide (lf < 0) = false := by simp; omega
            have hl1' : decide (gn ≤ lf) = false := by simp; omega
            have hsm : small lf := ⟨by omega, by omega⟩
            have HSM := Lib.hid hsm
            have hf1 := HFR.out
            rw [if_neg hlf] at hf1
            have HF1 := Lib.hid hf1
            clear hf1 hlf
            by_cases hbig : 4 < R.length
            · have hbig' : (4 : Int) < (R.length : Int) := by omega
              have hz := HF1.out
              rw [if_pos hbig] at hz
              have HZ := Lib.hid hz
              clear hz
              go_upto_region 9 with fail
              rw [HW4'.out]
              go_wp2_with fail
              go_ret
              exact FIN.out 2 _ (by decide) HZ.out HB4.out
            · have hbig' : ¬ (4 : Int) < (R.length : Int) := by omega
              have hf2 := HF1.out
              rw [if_neg hbig] at hf2
              have HF2 := Lib.hid hf2
              have cr1 := conv_rune lf HSM.out
              have cr2 := conv_str lf
              clear hf2 hsm
              go_upto_region 9 with fail
              rw [HW4'.out]
              go_wp2_with fail
              have HK0 : Hid (Bts (Utf8.encode lf) (keyB lf (R.take 0))) := bts_enc HSM.out
              obtain ⟨k0, HK0n⟩ := nameIt (Utf8.encode lf)
              rw [HK0n.out] at HK0
              rw [HK0n.out]
              clear cr1 cr2 x0 x1 x2 x3 y0 y1 c0 c1 hl0' hl1' hbig'
              go_loopg [6, 73] R.length (fun gg v6 v73 wr => ∃ (q : Nat) (ks : ByteArray), q ≤ R.length ∧ R.length - q ≤ gg ∧ v6 = .string ks ∧ v73 = .int .i64 q ∧ Hid (Bts ks (keyB lf (R.take q))) ∧ Hid (∀ s ∈ R.take q, hasS g s = true) ∧ Hid (Below w4.heap.size w4 wr))
              case atStart => exact ⟨0, k0, by omega, by omega, rfl, rfl, HK0, Lib.hid (by simp), Below.refl _ _⟩
              case round =>
                obtain ⟨q, ks, hq, hgq, rfl, rfl, HKS, HHS, HBW⟩ := hrel
                have hks := HKS.out.size
                rw [keyB_len, List.length_take] at hks
                by_cases hql : q < R.length
                · have hql' : (q : Int) < (R.length : Int) := by omega
                  obtain ⟨b', off', hae', -, hbl', e0, e1⟩ := (HKR.out.below HBW.out).sym_at hql
                  have HKT := Lib.hid (keyB_take (l := lf) hql)
                  have HTK : Hid (R.take (q + 1) = R.take q ++ [R[q]'hql]) := List.take_succ_eq_append_getElem hql
                  have HMM : Hid (R[q]'hql ∈ R) := List.getElem_mem hql
                  obtain ⟨s, HSn⟩ := nameIt (R[q]'hql)
                  rw [HSn.out] at e0 e1 HKT HTK HMM
                  obtain ⟨st, HST⟩ := nameIt s.term
                  obtain ⟨sn, HSN⟩ := nameIt s.n
                  rw [HST.out] at e0 HKT
                  rw [HSN.out] at e1 HKT
                  obtain ⟨w5, HW5⟩ := nameIt (wr.alloc (.cells #[.bool st, .int .i64 sn] 42))
                  have hb5 : Below wr.heap.size wr w5 := by rw [← HW5.out]; exact (Below.refl _ _).alloc (Nat.le_refl _) _
                  have X5 : Hid (w5.heap[wr.heap.size]? = some (.cells #[.bool st, .int .i64 sn] 42 (0, 0))) := by rw [← HW5.out]; exact bx_new _ _ _ rfl
                  have HB5 : Hid (Below w4.heap.size w4 w5) := HBW.out.trans (hb5.mono HBW.out.size)
                  obtain ⟨x0, x1, x2, x3⟩ := bx_cells4 (bx_keep X1'.out HB5.out)
                  obtain ⟨z0, z1⟩ := bx_cells2 X5.out
                  have hhs : hasS g s = (decide (0 ≤ sn) && (st && decide (sn < gt) || !st && decide (sn < gn))) := by unfold hasS; rw [HST.out, HSN.out, HGT.out, HGN.out]
                  have HHH := Lib.hid hhs
                  have BAD : Hid (hasS g s = false → faultR g i r = 3) := by
                    intro h
                    rw [HF2.out, if_pos]
                    exact List.any_eq_true.2 ⟨s, HMM.out, by rw [h]; rfl⟩
                  have HB5w : Hid (Below w0.heap.size w0 w5) := HB4.out.trans (HB5.out.mono HB4.out.size)
                  subst hae'
                  clear hb5 hhs
                  cases st with
                  | true =>
                    by_cases hs0 : sn < 0
                    · have hs0' : decide (sn < 0) = true := by simpa using hs0
                      have HBX : Hid (faultR g i r = 3) := BAD.out (by rw [HHH.out]; simp; omega)
                      clear hs0
                      go_upto_region 17 with fail
                      rw [HW5.out]
                      go_wp2_with fail
                      go_ret
                      exact FIN.out 3 _ (by decide) HBX.out HB5w.out
                    · have hs0' : decide (sn < 0) = false := by simpa using hs0
                      by_cases hs1 : gt ≤ sn
                      · have hs1' : decide (gt ≤ sn) = true := by simpa using hs1
                        have HBX : Hid (faultR g i r = 3) := BAD.out (by rw [HHH.out]; simp; omega)
                        clear hs0 hs1
                        go_upto_region 17 with fail
                        rw [HW5.out]
                        go_wp2_with fail
                        go_ret
                        exact FIN.out 3 _ (by decide) HBX.out HB5w.out
                      · have hs1' : decide (gt ≤ sn) = false := by simpa using hs1
                        have HSS : Hid (small sn) := ⟨by omega, by omega⟩
                        have HOK : Hid (hasS g s = true) := by show _ = _; rw [HHH.out]; simp; omega
                        have cr1 := conv_rune sn HSS.out
                        have cr2 := conv_str sn
                        have hen := (bts_enc HSS.out).size
                        simp only [List.length_cons, List.length_nil] at hen
                        have HKN : Hid (Bts (ks ++ ⟨#[116]⟩ ++ Utf8.encode sn) (keyB lf (R.take (q + 1)))) := by
                          show Bts _ _
                          rw [HKT.out]
                          exact (HKS.out.app (t := ⟨#[116]⟩) (m := [116]) rfl).app (bts_enc HSS.out)
                        have HHN : Hid (∀ x ∈ R.take (q + 1), hasS g x = true) := by
                          intro x hx
                          rw [HTK.out] at hx
                          rcases List.mem_append.1 hx with h | h
                          · exact HHS.out x h
                          · simp at h; subst h; exact HOK.out
                        clear hs0 hs1
                        go_upto_region 17 with fail
                        rw [HW5.out]
                        go_wp2_with fail
                        go_roundg (R.length - (q + 1))
                        case measure => omega
                        case rel => exact ⟨q + 1, _, by omega, by omega, rfl, by go_num, HKN, HHN, HB5⟩
                  | false =>
                    by_cases hs0 : sn < 0
                    · have hs0' : decide (sn < 0) = true := by simpa using hs0
                      have HBX : Hid (faultR g i r = 3) := BAD.out (by rw [HHH.out]; simp; omega)
                      clear hs0
                      go_upto_region 17 with fail
                      rw [HW5.out]
                      go_wp2_with fail
                      go_ret
                      exact FIN.out 3 _ (by decide) HBX.out HB5w.out
                    · have hs0' : decide (sn < 0) = false := by simpa using hs0
                      by_cases hs1 : gn ≤ sn
                      · have hs1' : decide (gn ≤ sn) = true := by simpa using hs1
                        have HBX : Hid (faultR g i r = 3) := BAD.out (by rw [HHH.out]; simp; omega)
                        clear hs0 hs1
                        go_upto_region 17 with fail
                        rw [HW5.out]
                        go_wp2_with fail
                        go_ret
                        exact FIN.out 3 _ (by decide) HBX.out HB5w.out
                      · have hs1' : decide (gn ≤ sn) = false := by simpa using hs1
                        have HSS : Hid (small sn) := ⟨by omega, by omega⟩
                        have HOK : Hid (hasS g s = true) := by show _ = _; rw [HHH.out]; simp; omega
                        have cr1 := conv_rune sn HSS.out
                        have cr2 := conv_str sn
                        have hen := (bts_enc HSS.out).size
                        simp only [List.length_cons, List.length_nil] at hen
                        have HKN : Hid (Bts (ks ++ ⟨#[110]⟩ ++ Utf8.encode sn) (keyB lf (R.take (q + 1)))) := by
                          show Bts _ _
                          rw [HKT.out]
                          exact (HKS.out.app (t := ⟨#[110]⟩) (m := [110]) rfl).app (bts_enc HSS.out)
                        have HHN : Hid (∀ x ∈ R.take (q + 1), hasS g x = true) := by
                          intro x hx
                          rw [HTK.out] at hx
                          rcases List.mem_append.1 hx with h | h
                          · exact HHS.out x h
                          · simp at h; subst h; exact HOK.out
                        clear hs0 hs1
                        go_upto_region 17 with fail
                        rw [HW5.out]
                        go_wp2_with fail
                        go_roundg (R.length - (q + 1))
                        case measure => omega
                        case rel => exact ⟨q + 1, _, by omega, by omega, rfl, by go_num, HKN, HHN, HB5⟩
                · have hql' : ¬ (q : Int) < (R.length : Int) := by omega
                  have hqe : R.take q = R := List.take_of_length_le (by omega)
                  have HSB : Hid (okR r) := by
                    refine ⟨by rw [HLF.out]; exact HSM.out, fun s hs => ?_⟩
                    rw [HRR.out, ← hqe] at hs
                    have h := HHS.out s hs
                    unfold hasS at h
                    rw [HGT.out, HGN.out] at h
                    simp at h
                    exact ⟨h.1, by omega⟩
                  have hnb : R.any (fun s => !hasS g s) = false := by
                    rw [List.any_eq_false]
                    intro s hs
                    rw [← hqe] at hs
                    rw [HHS.out s hs]; decide
                  have HKE : Hid (Bts ks (keyB r.left r.right)) := by
                    have h := HKS.out
                    rw [hqe] at h
                    rw [HLF.out, HRR.out]
                    exact h
                  have hf3 := HF2.out
                  rw [hnb] at hf3
                  simp only [Bool.false_eq_true, if_false] at hf3
                  have HSW := Lib.hid (HS4.out.keep HBW.out)
                  have hkey := key_string ks _ HKE.out (by rw [hks]; unfold maxLen; omega)
                  have hlk := HSW.out.look strK Try.underlying43 Try.underlying4 (zeroB wr) hkey
                  rw [keysOf_same HI.out.ok HSB.out] at hlk
                  obtain ⟨A2, HA2⟩ := nameIt ((K.take i).any fun x => cmpR x r == 0)
                  rw [HA2.out] at hlk hf3
                  have HTK : Hid (K.take (i + 1) = K.take i ++ [r]) := by show _ = _; rw [List.take_succ_eq_append_getElem hlt, HRn.out]
                  obtain ⟨w6, hup, hset, hgrow⟩ := HSW.out.add strK Try.underlying43 Try.underlying4 (by unfold maxLen; omega) hkey (S' := keysOf (K.take (i + 1))) (by rw [HTK.out]; exact keysOf_add) (fun l' h => by rw [HTK.out]; exact keysOf_other h)
                  have HF3 := Lib.hid hf3
                  have HB6 : Hid (Below w0.heap.size w0 wr) := HB4.out.trans (HBW.out.mono HB4.out.size)
                  have HBW6 : Hid (Below w0.heap.size w0 w6) := HB6.out.grown hgrow HB6.out.size (fun k e => by cases e; exact hlo)
                  have HSET := Lib.hid hset
                  clear hf3 hnb hqe hset hgrow hkey hks
                  cases A2 with
                  | true =>
                    have HZ : Hid (faultR g i r = 6) := HF3.out
                    go_wp2_with fail
                    go_ret
                    exact FIN.out 6 _ (by decide) HZ.out HB6.out
                  | false =>
                    have HIN : Hid (FltI w0 mb g K (i + 1) w6) := by
                      refine ⟨HSET.out, HBW6.out, hlo, fun x hx => ?_, ?_⟩
                      · rw [HTK.out] at hx
                        rcases List.mem_append.1 hx with h | h
                        · exact HI.out.ok x h
                        · simp at h; subst h; exact HSB.out
                      · have h := HH1.out
                        have hz : faultR g i r = 0 := HF3.out
                        rw [hz, if_pos rfl] at h
                        exact h
                    go_wp2_with fail
                    go_roundg (K.length - (i + 1))
                    case measure => omega
                    case rel => exact ⟨i + 1, by omega, by omega, by go_num, HIN⟩
        · have hlt' : ¬ (i : Int) < (K.length : Int) := by omega
          have HZ : Hid (faultsFrom g 0 K = 0) := by show _ = _; rw [← HI.out.flt, List.drop_of_length_le (by omega), faultsFrom]
          go_wp2_with fail
          go_ret
          exact ⟨by rw [HE.out, HZ.out]; rfl, HB0.out.trans (HI.out.bel.mono HB0.out.size)⟩
end Go.Proofs.Ytmbjnemahgfhcaa
namespace Go.Proofs.Ytmbjnemahgfhcaa
open Go.RowKit
namespace Ln

theorem itemLaid : laidOutB Try.prog = true := by kernel_rfl
theorem itemRow : (59 : TypeId) < Try.prog.types.size := of_decide_eq_true (by kernel_rfl)
theorem itemWide : (match Try.prog.underlying 59 with | some (.array _ _) | some (.struct _) => true | _ => false) = true := by kernel_rfl
theorem itemAt : Try.prog.keyTypeAt 2 59 = true := by kernel_rfl
set_option maxRecDepth 100000 in
theorem itemLaw : WideMaps.KeyLaw Try.prog 59 := deep_law_laid itemLaid (m := 2) (by omega) itemRow itemAt itemWide
theorem itemK : Go.Maps.Keyed Try.prog 59 := .of_law itemLaw
def itL (a b c : Nat) : Lit := .string (keyBytes [.int .i64 a, .int .i64 b, .int .i64 c])
theorem wf_small3 {i : Nat} (h : i ≤ 1000) : (Lit.int .i64 (i : Int)).wf = true := by
  simp [Lit.wf, IntKind.min, IntKind.max, IntKind.signed, IntKind.bits]; omega
theorem itemKey {a b c : Nat} (ha : a ≤ 1000) (hb : b ≤ 1000) (hc : c ≤ 1000) : keyOf Try.prog 59 (.agg #[.int .i64 a, .int .i64 b, .int .i64 c]) = some (itL a b c) := by
  have h1 : Try.prog.keyType 59 = true := by kernel_rfl
  have h3 : Try.prog.cellsOf 59 = 3 := by kernel_rfl
  have h4 : Try.prog.cellsOf 3 = 1 := by kernel_rfl
  have h2 : (Value.agg #[.int .i64 a, .int .i64 b, .int .i64 c]).formed Try.prog 59 = true := by simp [Value.formed, Try.underlying59, h3]
  obtain ⟨m, hm⟩ : ∃ m, Try.prog.types.size = m + 1 := ⟨Try.prog.types.size - 1, by have h : 0 < Try.prog.types.size := of_decide_eq_true (by kernel_rfl); omega⟩
  have h5 : Try.prog.keyLits (Try.prog.types.size + 1) 59 [.int .i64 a, .int .i64 b, .int .i64 c] = some [.int .i64 a, .int .i64 b, .int .i64 c] := by
    rw [hm]
    simp [Program.keyLits, Try.underlying59, h3, h4, Try.underlying3, wf_small3 ha, wf_small3 hb, wf_small3 hc]
  unfold keyOf
  simp only [Try.underlying59, h1, h2, Bool.and_self, if_true]
  show Option.map _ (Try.prog.keyLits _ _ [.int .i64 a, .int .i64 b, .int .i64 c]) = _
  rw [h5]
  rfl
theorem itL_inj {a b c a' b' c' : Nat} (ha : a ≤ 1000) (hb : b ≤ 1000) (hc : c ≤ 1000) (ha' : a' ≤ 1000) (hb' : b' ≤ 1000) (hc' : c' ≤ 1000) (h : itL a b c = itL a' b' c') : a = a' ∧ b = b' ∧ c = c' := by
  have h1 := itemKey ha hb hc
  have h2 := itemKey ha' hb' hc'
  rw [← h] at h2
  have := itemK.inj h1 h2
  simp at this
  omega
end Ln
end Go.Proofs.Ytmbjnemahgfhcaa
namespace Go.Proofs.Ytmbjnemahgfhcaa
open Go.RowKit

/-- as World.ownsRow, but the row may begin anywhere in its block -/
def ownsQ (w : World) (B : Nat) (e : TypeId) (size : Nat) (v : Value) (n : Nat) (xs : List Value) : Prop :=
  xs.length = n * size ∧
  ((v = .slice none 0 0 ∧ n = 0) ∨
   ∃ g off cap cur, v = .slice (some ⟨g, off, none⟩) n cap ∧ B ≤ g ∧ w.heap[g]? = some (.cells cur e (0, 0)) ∧ n ≤ cap ∧ cap ≤ maxLen ∧ off + cap * size ≤ cur.size ∧ (cur.toList.drop off).take (n * size) = xs)
theorem ownsQ_of {w : World} {B : Nat} {e : TypeId} {size : Nat} {v : Value} {n : Nat} {xs : List Value} (h : w.ownsRow B e size v n xs) : ownsQ w B e size v n xs := by
  obtain ⟨h1, h2⟩ := h
  refine ⟨h1, ?_⟩
  rcases h2 with h2 | ⟨g, cap, cur, rfl, a, b, c, d, f, t⟩
  · exact .inl h2
  · exact .inr ⟨g, 0, cap, cur, rfl, a, b, c, d, by omega, by simpa using t⟩
section
variable {w w' : World} {B : Nat} {e : TypeId} {size : Nat} {v : Value} {n : Nat} {xs : List Value}
theorem ownsQ.lt (h : ownsQ w B e size v n xs) : ∀ k, v.ownBlock = some k → B ≤ k ∧ k < w.heap.size := by
  intro k hk
  rcases h.2 with ⟨rfl, _⟩ | ⟨g, off, cap, cur, rfl, a, b, _⟩
  · cases hk
  · cases hk; exact ⟨a, (Array.getElem?_eq_some_iff.1 b).1⟩
theorem ownsQ.other {row : Option Nat} (h : ownsQ w B e size v n xs) (hg : w.grownBy w' row) (hne : ∀ k, v.ownBlock = some k → row ≠ some k) : ownsQ w' B e size v n xs := by
  have hlt := h.lt
  obtain ⟨h1, h2⟩ := h
  refine ⟨h1, ?_⟩
  rcases h2 with h2 | ⟨g, off, cap, cur, rfl, a, b, r⟩
  · exact .inl h2
  · exact .inr ⟨g, off, cap, cur, rfl, a, (hg.block g (hlt g rfl).2 (fun e => hne g rfl e.symm)).trans b, r⟩
theorem ownsQ.keep (h : ownsQ w B e size v n xs) (hb : Below w.heap.size w w') : ownsQ w' B e size v n xs := h.other (grown_below hb none) (fun k _ e => by cases e)
theorem ownsQ.form (h : ownsQ w B e size v n xs) : ∃ a cap, v = .slice a n cap ∧ n ≤ cap ∧ cap ≤ maxLen := by
  rcases h.2 with ⟨rfl, rfl⟩ | ⟨g, off, cap, cur, rfl, _, _, h1, h2, _⟩
  · exact ⟨_, _, rfl, by simp, by simp⟩
  · exact ⟨_, _, rfl, h1, h2⟩
theorem ownsQ.cells (h : ownsQ w B e size v n xs) (hn : 0 < n) : ∃ g off cap, v = .slice (some ⟨g, off, none⟩) n cap ∧ ∀ j u, xs[j]? = some u → w.cell? ⟨g, off + j, none⟩ = some u := by
  rcases h.2 with ⟨_, h0⟩ | ⟨g, off, cap, cur, rfl, _, hh, h1, h2, h3, ht⟩
  · omega
  · refine ⟨g, off, cap, rfl, fun j u hj => ?_⟩
    have hl := h.1
    have hj2 := (List.getElem?_eq_some_iff.1 hj).1
    rw [← ht, List.getElem?_take, if_pos (by omega), List.getElem?_drop] at hj
    simp [World.cell?, hh]
    simpa using hj
/-- x[1:] -/
theorem ownsQ.tail {g off cap : Nat} {ys : List Value} (h : ownsQ w B e size (.slice (some ⟨g, off, none⟩) (n + 1) cap) (n + 1) (ys ++ xs)) (hy : ys.length = size) (hs : 0 < size) : ownsQ w B e size (.slice (if cap = 1 then some ⟨g, off, none⟩ else some ⟨g, off + size, none⟩) n (cap - 1)) n xs := by
  obtain ⟨h1, h2⟩ := h
  rw [List.length_append, Nat.add_mul, hy] at h1
  refine ⟨by omega, ?_⟩
  rcases h2 with ⟨h2, _⟩ | ⟨g', off', cap', cur, hv, a, b, c, d, f, t⟩
  · cases h2
  · cases hv
    right
    by_cases e1 : cap = 1
    · subst e1
      obtain rfl : n = 0 := by omega
      have hx : xs = [] := List.eq_nil_of_length_eq_zero (by omega)
      refine ⟨g, off, 0, cur, by simp, a, b, by omega, by unfold maxLen; omega, by omega, by simp [hx]⟩
    · refine ⟨g, off + size, cap - 1, cur, by simp [e1], a, b, by omega, by omega, ?_, ?_⟩
      · have : cap * size = size + (cap - 1) * size := by
          obtain ⟨c', rfl⟩ : ∃ c', cap = c' + 1 := ⟨cap - 1, by omega⟩
          simp [Nat.add_mul]; omega
        omega
      · have h3 : (cur.toList.drop off).take (n * size + size) = ys ++ xs := by rw [← t]; congr 1; simp [Nat.add_mul]
        have h4 := congrArg (List.drop size) h3
        have h5 : List.drop size (ys ++ xs) = xs := by rw [← hy]; simp
        rw [List.drop_take, List.drop_drop, h5, Nat.add_sub_cancel] at h4
        exact h4
end
theorem run_append_roomQ {P : Program} (w : World) (t ty e : TypeId) (i : TypeInfo) (ht : P.underlying t = some (.slice e)) (hi : P.info? e = some i)
    (g off sLen sCap : Nat) (cur : Array Value) (hg : w.heap[g]? = some (.cells cur e (0, 0)))
    (a : Addr) (m c : Nat) (news : List Value) (hl : news.length = m * i.size) (hnews : ∀ j u, news[j]? = some u → w.cell? (a.add j) = some u) (h1 : ∀ u ∈ news, u.oneCell' = true)
    (hroom : sLen + m ≤ sCap) (hfit : off + sLen * i.size + news.length ≤ cur.size) :
    (Builtin.append_ #[t, t] ty #[.slice (some ⟨g, off, none⟩) sLen sCap, .slice (some a) m c]).run P w =
      .ok (.slice (some ⟨g, off, none⟩) (sLen + m) sCap) (w.setRow g (cur.toList.take (off + sLen * i.size) ++ news ++ cur.toList.drop (off + sLen * i.size + news.length)).toArray) := by
  have hf := run_firstCells_some (P := P) w i.size m a m c news hl hnews
  have hst := run_storeCells_at P g (off + sLen * i.size) e news 0 cur w hg (by simpa using hfit) h1
  simp only [Nat.add_zero] at hst
  simp [Builtin.append_, run_underlying ht, sizeOf, typeInfo, hi, Builtin.lenOf, hroom, hf, add_at, hst]

theorem run_append_q {P : Program} (w : World) (B : Nat) (t ty e : TypeId) (i : TypeInfo) (z : Value) (size bytes : Nat) (ht : P.underlying t = some (.slice e)) (hi : P.info? e = some i) (hz : i.zero = some z)
    (hsize : i.size = size) (hby : i.bytes = bytes) (hzs : z.cells.size = size) (hsz : 0 < size)
    (v : Value) (n : Nat) (xs : List Value) (hown : ownsQ w B e size v n xs)
    (a : Addr) (m c : Nat) (news : List Value) (hl : news.length = m * size) (hnews : ∀ j u, news[j]? = some u → w.cell? (a.add j) = some u) (h1 : ∀ u ∈ news, u.oneCell' = true) (hm : 0 < m)
    (h63 : n + m ≤ maxLen) (hbytes : (n + m) * bytes ≤ 140737488355328) (hbase : B ≤ w.heap.size) :
    ∃ g off cap w', (Builtin.append_ #[t, t] ty #[v, .slice (some a) m c]).run P w = .ok (.slice (some ⟨g, off, none⟩) (n + m) cap) w' ∧ ownsQ w' B e size (.slice (some ⟨g, off, none⟩) (n + m) cap) (n + m) (xs ++ news) ∧ w.grownBy w' v.ownBlock ∧ ((∃ cap0, v = .slice (some ⟨g, off, none⟩) n cap0) ∨ (g = w.heap.size ∧ w.grownBy w' none)) ∧ g < w'.heap.size := by
  subst hsize
  subst hby
  have hsmall : n + m ≤ 9223372036854775807 := by simp only [maxLen] at h63; omega
  have hlen : (xs ++ news).length = (n + m) * i.size := by rw [List.length_append, hown.1, hl, Nat.add_mul]
  have grown : ∀ (old : Nat), old < n + m → ∀ (row : Option Nat),
      ownsQ (w.drew.alloc (.cells (xs.toArray ++ news.toArray ++ Builtin.zeroCells z.cells (grownCap w (n + m) old e - (n + m))) e)) B e i.size
        (.slice (some ⟨w.heap.size, 0, none⟩) (n + m) (grownCap w (n + m) old e)) (n + m) (xs ++ news) ∧
      w.grownBy (w.drew.alloc (.cells (xs.toArray ++ news.toArray ++ Builtin.zeroCells z.cells (grownCap w (n + m) old e - (n + m))) e)) row := by
    intro old ho row
    have hge := grownCap_ge w (n + m) old e
    have hcm : grownCap w (n + m) old e ≤ maxLen := grownCap_le_maxLen w (n + m) old e h63
    refine ⟨ownsQ_of ⟨hlen, .inr ⟨w.heap.size, _, _, rfl, hbase, heap_alloc_new w.drew _, hge, hcm, ?_, ?_⟩⟩, ⟨rfl, rfl, rfl, by simp, fun k hk _ => ((Below.refl w.drew.heap.size w.drew).alloc (Nat.le_refl _) _).block k hk⟩⟩
    · simp only [Array.size_append, List.size_toArray, size_zeroCells, hzs, hown.1, hl, ← Nat.add_mul]
      congr 1
      omega
    · simp only [Array.toList_append, List.append_assoc]
      rw [← List.append_assoc, ← hlen]
      exact List.take_left
  rcases hown.2 with ⟨rfl, rfl⟩ | ⟨g, off, cap, cur, rfl, hbg, hg, hnc, hcm, hcs, htake⟩
  · have hx : xs = [] := List.eq_nil_of_length_eq_zero (by simpa using hown.1)
    subst hx
    have hr := run_append_nil (P := P) w t ty e i z ht hi hz a m c news hl hnews (by omega) (by omega) (by have hb := hbytes; simp only [Nat.zero_add] at hb; omega)
    have hgr := grown 0 (by omega) (Value.ownBlock (.slice none 0 0))
    have hgn := grown 0 (by omega) none
    simp only [Nat.zero_add, List.nil_append, Array.empty_append] at hgr hgn ⊢
    exact ⟨_, _, _, _, hr, hgr.1, hgr.2, .inr ⟨rfl, hgn.2⟩, by simp⟩
  · by_cases hroom : n + m ≤ cap
    · have hfit : off + n * i.size + news.length ≤ cur.size := by
        have h2 := Nat.mul_le_mul_right i.size hroom
        rw [Nat.add_mul] at h2
        omega
      have hr := run_append_roomQ (P := P) w t ty e i ht hi g off n cap cur hg a m c news hl hnews h1 hroom hfit
      refine ⟨_, _, _, _, hr, ⟨hlen, .inr ⟨g, off, cap, _, rfl, hbg, setRow_heap w g cur _ e _ hg, hroom, hcm, ?_, ?_⟩⟩, ⟨rfl, rfl, rfl, by simp, fun k _ hk => setRow_other w g k _ (fun e => hk (by simp [Value.ownBlock, e]))⟩, .inl ⟨cap, rfl⟩, by simpa using (Array.getElem?_eq_some_iff.1 hg).1⟩
      · simp only [List.size_toArray, List.length_append, List.length_take, List.length_drop, Array.length_toList]
        omega
      · have h3 : cur.toList.take (off + n * i.size) = cur.toList.take off ++ xs := by rw [List.take_add, htake]
        have h4 : (cur.toList.take off).length = off := by simp; omega
        simp only [h3, List.append_assoc]
        rw [List.drop_append_of_le_length (by omega), List.drop_eq_nil_of_le (by omega), List.nil_append, ← List.append_assoc, ← hlen]
        exact List.take_left
    · have holds : ∀ j u, xs[j]? = some u → w.cell? ((⟨g, off, none⟩ : Addr).add j) = some u := by
        intro j u hj
        rw [add_at]
        have hj2 := (List.getElem?_eq_some_iff.1 hj).1
        have hl' := hown.1
        rw [← htake, List.getElem?_take, if_pos (by omega), List.getElem?_drop] at hj
        simp [World.cell?, hg]
        simpa using hj
      have hr := run_append_grow (P := P) w t ty e i z ht hi hz ⟨g, off, none⟩ n cap xs hown.1 holds a m c news hl hnews (by omega) (by omega) (growslice_fits (by omega) hbytes)
      have hgr := grown cap (by omega) (Value.ownBlock (.slice (some ⟨g, off, none⟩) n cap))
      have hgn := grown cap (by omega) none
      exact ⟨_, _, _, _, hr, hgr.1, hgr.2, .inr ⟨rfl, hgn.2⟩, by simp⟩
/-- append of what lies in one block, at a step of a region that draws its order -/
theorem step_appQ {P : Program} {ops : Array Oper} {o : Oper} {a : Act} {K : Act → World → Prop} {Q : Exit → Act → World → Prop} {E' : Prop} {w0 : World} {t e : TypeId} {size bytes : Nat} (E : ElemT P t e size bytes)
    (hgd : o.guard = none) (s x : Operand) (ho : o.op = .call { callee := .builtin .append, args := #[s, x], argTypes := #[t, t] })
    {B : Nat} {v : Value} {n : Nat} {xs : List Value} {news : Array Value} (hown : ownsQ w0 B e size v n xs) (hs : a.eval s = v) {g0 : Nat} (hx : a.eval x = .slice (some ⟨g0, 0, none⟩) 1 1) (hg0 : w0.heap[g0]? = some (.cells news e (0, 0)))
    (hn : news.size = size) (h1 : news.toList.all Value.oneCell' = true) (hb : (n + 1) * bytes ≤ 140737488355328) (hm : n + 1 ≤ maxLen) (hB : B ≤ w0.heap.size)
    (h : ∀ g off cap w', ownsQ w' B e size (.slice (some ⟨g, off, none⟩) (n + 1) cap) (n + 1) (xs ++ news.toList) → w0.grownBy w' v.ownBlock → ((∃ cap0, v = .slice (some ⟨g, off, none⟩) n cap0) ∨ (g = w0.heap.size ∧ w0.grownBy w' none)) → g < w'.heap.size → K (a.put o.dst (.slice (some ⟨g, off, none⟩) (n + 1) cap)) w') :
    if Region.wanted o (yielded ops a.tmps) = true then Oper.wp P o a w0 K Q else E' := by
  obtain ⟨hu, ⟨i, z, hi, hz, hsz, hby, hzs⟩, hp⟩ := E
  have hw : Region.wanted o (yielded ops a.tmps) = true := by simp [Region.wanted, hgd]
  rw [if_pos hw]
  obtain ⟨g, off, cap, w', hr, h2, h3, h4, h5⟩ := run_append_q (P := P) w0 B t o.type e i z size bytes hu hi hz hsz hby hzs hp v n xs hown ⟨g0, 0, none⟩ 1 1 news.toList (by simp [hn]) (World.news_of_block hg0) (List.all_eq_true.1 h1) (by omega) hm hb hB
  unfold Oper.wp execOp
  simp only [ho, resolve, invoke, builtin, Sem.run_bind, Sem.run_pure, Result.andThen_ok, List.map_toArray, List.map_cons, List.map_nil, hs, hx, hr]
  exact h g off cap w' h2 h3 h4 h5
end Go.Proofs.Ytmbjnemahgfhcaa
namespace Go.Proofs.Ytmbjnemahgfhcaa
open Go.RowKit
namespace Ln

def rt (K : List Rule) (i : Nat) : List Sym := (K[i]?.map Rule.right).getD []
def lft (K : List Rule) (i : Nat) : Int := (K[i]?.map Rule.left).getD 0
theorem rt_eq {K : List Rule} {i : Nat} (h : i < K.length) : rt K i = K[i].right := by simp [rt, h]
theorem lft_eq {K : List Rule} {i : Nat} (h : i < K.length) : lft K i = K[i].left := by simp [lft, h]
/-- the first d symbols of rule i have a word of length l -/
inductive It (K : List Rule) : Nat → Nat → Nat → Prop
  | start {i : Nat} : i < K.length → It K i 0 0
  | term {i d l : Nat} {s : Sym} : It K i d l → (rt K i)[d]? = some s → s.term = true → It K i (d + 1) (l + 1)
  | non {i d l j k : Nat} {s : Sym} : It K i d l → (rt K i)[d]? = some s → s.term = false → It K j (rt K j).length k → lft K j = s.n → It K i (d + 1) (l + k)
theorem It.lt {K : List Rule} {i d l : Nat} (h : It K i d l) : i < K.length := by
  induction h with
  | start h => exact h
  | term _ _ _ ih => exact ih
  | non _ _ _ _ _ ih _ => exact ih
theorem It.dot {K : List Rule} {i d l : Nat} (h : It K i d l) : d ≤ (rt K i).length := by
  induction h with
  | start h => omega
  | term _ hs _ _ => have := (List.getElem?_eq_some_iff.1 hs).1; omega
  | non _ hs _ _ _ _ _ => have := (List.getElem?_eq_some_iff.1 hs).1; omega
/-- nonterminal a has a word of length k -/
def Has (K : List Rule) (a : Int) (k : Nat) : Prop := ∃ j, It K j (rt K j).length k ∧ lft K j = a

/-- the way of lens.Set: one symbol more -/
def stB (H : Nat → Nat → Bool) (s : Sym) (j : Nat) : Bool := if s.term then j == 1 else H s.n.toNat j
def nxt (H : Nat → Nat → Bool) (n : Nat) (s : Sym) (A : Nat → Bool) (m : Nat) : Bool := decide (m ≤ n) && (List.range (m + 1)).any fun i => A i && stB H s (m - i)
def atR (H : Nat → Nat → Bool) (n : Nat) (R : List Sym) : Nat → Bool := R.foldl (fun A s => nxt H n s A) (fun m => m == 0)
/-- H tells true lengths alone -/
def Sound (K : List Rule) (H : Nat → Nat → Bool) : Prop := ∀ a k, H a k = true → Has K (a : Int) k
/-- what the rules give is there -/
def Closed (K : List Rule) (n : Nat) (H : Nat → Nat → Bool) (i : Nat) : Prop := ∀ m, m ≤ n → atR H n (rt K i) m = true → H (lft K i).toNat m = true
variable {K : List Rule} {n : Nat} {H : Nat → Nat → Bool}
/-- the way of lengthsOf: the items that are known, of which the first p are done; C: the lengths that they tell -/
structure Items (K : List Rule) (n : Nat) (L : List (Nat × Nat × Nat)) (p : Nat) (C : Nat → Nat → Bool) : Prop where
  sound : ∀ x ∈ L, It K x.1 x.2.1 x.2.2 ∧ x.2.2 ≤ n
  nodup : L.Nodup
  start : ∀ i, i < K.length → (i, 0, 0) ∈ L
  csound : ∀ a k, C a k = true → ∃ x ∈ L.take p, x.2.1 = (rt K x.1).length ∧ lft K x.1 = (a : Int) ∧ x.2.2 = k
  full : ∀ x ∈ L.take p, x.2.1 = (rt K x.1).length → C (lft K x.1).toNat x.2.2 = true
  term : ∀ x ∈ L.take p, ∀ s, (rt K x.1)[x.2.1]? = some s → s.term = true → x.2.2 + 1 ≤ n → (x.1, x.2.1 + 1, x.2.2 + 1) ∈ L
  non : ∀ x ∈ L.take p, ∀ s, (rt K x.1)[x.2.1]? = some s → s.term = false → ∀ k, C s.n.toNat k = true → x.2.2 + k ≤ n → (x.1, x.2.1 + 1, x.2.2 + k) ∈ L
theorem items_all {L : List (Nat × Nat × Nat)} {p : Nat} {C : Nat → Nat → Bool} (h : Items K n L p C) (hp : L.length ≤ p) {i d l : Nat} (hi : It K i d l) : l ≤ n → (i, d, l) ∈ L := by
  have ht : L.take p = L := List.take_of_length_le hp
  have h3 := h.full
  have h4 := h.term
  have h5 := h.non
  rw [ht] at h3 h4 h5
  induction hi with
  | start hi => intro _; exact h.start _ hi
  | term _ hs hb ih => intro hl; exact h4 _ (ih (by omega)) _ hs hb hl
  | @non i d l j k s _ hs hb _ he ih1 ih2 =>
    intro hl
    have h6 := h3 _ (ih2 (by omega)) rfl
    simp only [he] at h6
    exact h5 _ (ih1 (by omega)) _ hs hb k h6 hl
/-- where all items are done, C is right -/
theorem items_right {L : List (Nat × Nat × Nat)} {p : Nat} {C : Nat → Nat → Bool} (h : Items K n L p C) (hp : L.length ≤ p) {a k : Nat} (hk : k ≤ n) : C a k = true ↔ Has K (a : Int) k := by
  have ht : L.take p = L := List.take_of_length_le hp
  constructor
  · intro hc
    obtain ⟨x, hx, h1, h2, h3⟩ := h.csound a k hc
    rw [ht] at hx
    have h4 := (h.sound x hx).1
    rw [h1, h3] at h4
    exact ⟨x.1, h4, h2⟩
  · rintro ⟨j, h1, h2⟩
    have h3 := items_all h hp h1 hk
    have h4 := h.full
    rw [ht] at h4
    have h5 := h4 _ h3 rfl
    simp only [h2] at h5
    simpa using h5
end Ln
end Go.Proofs.Ytmbjnemahgfhcaa
namespace Go.Proofs.Ytmbjnemahgfhcaa
open Go.RowKit
namespace Ln

def it3 (x : Nat × Nat × Nat) : List Value := [.int .i64 x.1, .int .i64 x.2.1, .int .i64 x.2.2]
def its (L : List (Nat × Nat × Nat)) : List Value := L.flatMap it3
theorem its_snoc (L : List (Nat × Nat × Nat)) (x : Nat × Nat × Nat) : its (L ++ [x]) = its L ++ it3 x := by simp [its]
theorem its_len (L : List (Nat × Nat × Nat)) : (its L).length = L.length * 3 := by
  induction L with
  | nil => rfl
  | cons x L ih => simp only [its, List.flatMap_cons, List.length_append] at ih ⊢; rw [ih]; simp [it3, Nat.add_mul]; omega
theorem its_at {L : List (Nat × Nat × Nat)} {j : Nat} (h : j < L.length) : (its L)[j * 3]? = some (.int .i64 L[j].1) ∧ (its L)[j * 3 + 1]? = some (.int .i64 L[j].2.1) ∧ (its L)[j * 3 + 2]? = some (.int .i64 L[j].2.2) := by
  have e : its L = its (L.take j) ++ (it3 L[j] ++ its (L.drop (j + 1))) := by
    have h1 := congrArg its (List.take_append_drop j L)
    rw [← h1, List.drop_eq_getElem_cons h]
    unfold its
    rw [List.flatMap_append, List.flatMap_cons]
  have hl : (its (L.take j)).length = j * 3 := by rw [its_len, List.length_take]; congr 1; omega
  rw [e]
  refine ⟨?_, ?_, ?_⟩ <;> (rw [List.getElem?_append_right (by omega), hl]; simp [it3, show j * 3 + 1 - j * 3 = 1 by omega, show j * 3 + 2 - j * 3 = 2 by omega])
open Classical in
noncomputable def inSet (L : List (Nat × Nat × Nat)) : Lit → Bool := fun l => decide (∃ x ∈ L, itL x.1 x.2.1 x.2.2 = l)
def small3 (x : Nat × Nat × Nat) : Prop := x.1 ≤ 1000 ∧ x.2.1 ≤ 1000 ∧ x.2.2 ≤ 1000
theorem itL_eq {x y : Nat × Nat × Nat} (hx : small3 x) (hy : small3 y) (h : itL x.1 x.2.1 x.2.2 = itL y.1 y.2.1 y.2.2) : x = y := by
  obtain ⟨h1, h2, h3⟩ := itL_inj hx.1 hx.2.1 hx.2.2 hy.1 hy.2.1 hy.2.2 h
  obtain ⟨a, b, c⟩ := x
  obtain ⟨a', b', c'⟩ := y
  simp at h1 h2 h3
  simp [h1, h2, h3]
open Classical in
theorem inSet_at {L : List (Nat × Nat × Nat)} {x : Nat × Nat × Nat} (hL : ∀ y ∈ L, small3 y) (hx : small3 x) : inSet L (itL x.1 x.2.1 x.2.2) = decide (x ∈ L) := by
  unfold inSet
  rw [decide_eq_decide]
  constructor
  · rintro ⟨y, hy, h⟩
    rw [← itL_eq (hL y hy) hx h]; exact hy
  · intro h; exact ⟨x, h, rfl⟩
theorem inSet_add {L : List (Nat × Nat × Nat)} {x : Nat × Nat × Nat} : inSet (L ++ [x]) (itL x.1 x.2.1 x.2.2) = true := by
  unfold inSet
  simp only [decide_eq_true_eq]
  exact ⟨x, by simp, rfl⟩
theorem inSet_other {L : List (Nat × Nat × Nat)} {x : Nat × Nat × Nat} {l : Lit} (h : l ≠ itL x.1 x.2.1 x.2.2) : inSet (L ++ [x]) l = inSet L l := by
  unfold inSet
  rw [decide_eq_decide]
  constructor
  · rintro ⟨y, hy, e⟩
    rcases List.mem_append.1 hy with hy | hy
    · exact ⟨y, hy, e⟩
    · simp at hy; subst hy; exact absurd e.symm h
  · rintro ⟨y, hy, e⟩; exact ⟨y, List.mem_append_left _ hy, e⟩
theorem elItem : ElemT Try.prog 57 59 3 24 := ElemT.mk' (z := .agg #[.int .i64 0, .int .i64 0, .int .i64 0]) (by kernel_rfl) (by kernel_rfl) rfl (by decide)
/-- the two rows of items: all, and those that wait; L0: what was read of all before; X: blocks beside them -/
structure RR (B : Nat) (X : Nat → Prop) (A Q L0 : List (Nat × Nat × Nat)) (g0 off0 : Nat) (va vq : Value) (W : World) : Prop where
  all : ownsQ W B 59 3 va A.length (its A)
  row : ownsQ W B 59 3 vq Q.length (its Q)
  ap : ∀ k, va.ownBlock = some k → vq.ownBlock ≠ some k
  sn : ∀ j u, (its L0)[j]? = some u → W.cell? ⟨g0, off0 + j, none⟩ = some u
  sl : g0 < W.heap.size
  sb : L0 = [] ∨ B ≤ g0
  sq : vq.ownBlock ≠ some g0
  sa : va.ownBlock = some g0 → ∃ cap, va = .slice (some ⟨g0, off0, none⟩) A.length cap ∧ L0 <+: A
  ax : ∀ k, X k → va.ownBlock ≠ some k ∧ vq.ownBlock ≠ some k ∧ B ≤ k ∧ k < W.heap.size
section
variable {B : Nat} {X : Nat → Prop} {A Q L0 : List (Nat × Nat × Nat)} {g0 off0 : Nat} {va vq : Value} {W W1 : World}
theorem cell_of_block {w w' : World} {b o : Nat} (h : w'.heap[b]? = w.heap[b]?) : w'.cell? ⟨b, o, none⟩ = w.cell? ⟨b, o, none⟩ := by simp [World.cell?, h]
theorem RR.other {row : Option Nat} (h : RR B X A Q L0 g0 off0 va vq W) (hg : W.grownBy W1 row) (hr : ∀ k, row = some k → k < B) : RR B X A Q L0 g0 off0 va vq W1 := by
  refine ⟨h.all.other hg (fun k e e2 => by have := (h.all.lt k e).1; have := hr k e2; omega), h.row.other hg (fun k e e2 => by have := (h.row.lt k e).1; have := hr k e2; omega), h.ap, fun j u hj => ?_, Nat.lt_of_lt_of_le h.sl hg.size, h.sb, h.sq, h.sa, fun k hk => ⟨(h.ax k hk).1, (h.ax k hk).2.1, (h.ax k hk).2.2.1, Nat.lt_of_lt_of_le (h.ax k hk).2.2.2 hg.size⟩⟩
  rcases h.sb with e | e
  · subst e; simp [its] at hj
  · rw [cell_of_block (hg.block g0 h.sl (fun e2 => by have := hr g0 e2.symm; omega))]; exact h.sn j u hj
theorem RR.keep (h : RR B X A Q L0 g0 off0 va vq W) (hb : Below W.heap.size W W1) : RR B X A Q L0 g0 off0 va vq W1 := h.other (grown_below hb none) (fun k e => by cases e)
theorem its_prefix {L0 A : List (Nat × Nat × Nat)} (h : L0 <+: A) {j : Nat} {u : Value} (hj : (its L0)[j]? = some u) (x : Nat × Nat × Nat) : (its A ++ it3 x)[j]? = some u := by
  obtain ⟨t, rfl⟩ := h
  have hl := (List.getElem?_eq_some_iff.1 hj).1
  rw [show its (L0 ++ t) = its L0 ++ its t by simp [its], List.append_assoc, List.getElem?_append_left hl]
  exact hj
theorem ob {g off n cap k : Nat} (h : (Value.slice (some ⟨g, off, none⟩) n cap).ownBlock = some k) : g = k := by simpa [Value.ownBlock] using h
theorem RR.appA {x : Nat × Nat × Nat} {g off cap : Nat} (h : RR B X A Q L0 g0 off0 va vq W) (ho : ownsQ W1 B 59 3 (.slice (some ⟨g, off, none⟩) (A.length + 1) cap) (A.length + 1) (its A ++ it3 x)) (hg : W.grownBy W1 va.ownBlock)
    (hat : (∃ cap0, va = .slice (some ⟨g, off, none⟩) A.length cap0) ∨ (g = W.heap.size ∧ W.grownBy W1 none)) : RR B X (A ++ [x]) Q L0 g0 off0 (.slice (some ⟨g, off, none⟩) (A.length + 1) cap) vq W1 := by
  refine ⟨by rw [its_snoc, List.length_append]; exact ho, h.row.other hg (fun k e e2 => h.ap k e2 e), fun k e => ?_, fun j u hj => ?_, Nat.lt_of_lt_of_le h.sl hg.size, h.sb, h.sq, fun e => ?_, fun k hk => ?_⟩
  · obtain rfl := ob e
    rcases hat with ⟨c0, rfl⟩ | ⟨rfl, _⟩
    · exact h.ap g rfl
    · intro e; have := (h.row.lt _ e).2; omega
  · rcases hat with ⟨c0, rfl⟩ | ⟨rfl, hn⟩
    · by_cases e : g = g0
      · subst e
        obtain ⟨c1, e1, hp⟩ := h.sa rfl
        cases e1
        obtain ⟨g', off', cap', e2, hc⟩ := ho.cells (by omega)
        cases e2
        exact hc j u (its_prefix hp hj x)
      · rw [cell_of_block (hg.block g0 h.sl (fun e2 => by cases e2; exact e rfl))]; exact h.sn j u hj
    · rw [cell_of_block (hn.block g0 h.sl (fun e2 => by cases e2))]; exact h.sn j u hj
  · obtain rfl := ob e
    rcases hat with ⟨c0, rfl⟩ | ⟨e, _⟩
    · obtain ⟨c1, e1, hp⟩ := h.sa rfl
      cases e1
      exact ⟨cap, by simp, hp.trans (List.prefix_append _ _)⟩
    · have := h.sl; omega
  · obtain ⟨k1, k2, k3, k4⟩ := h.ax k hk
    refine ⟨fun e => ?_, k2, k3, Nat.lt_of_lt_of_le k4 hg.size⟩
    obtain rfl := ob e
    rcases hat with ⟨c0, rfl⟩ | ⟨rfl, _⟩
    · exact k1 rfl
    · omega
theorem RR.appQ {x : Nat × Nat × Nat} {g off cap : Nat} (h : RR B X A Q L0 g0 off0 va vq W) (ho : ownsQ W1 B 59 3 (.slice (some ⟨g, off, none⟩) (Q.length + 1) cap) (Q.length + 1) (its Q ++ it3 x)) (hg : W.grownBy W1 vq.ownBlock)
    (hat : (∃ cap0, vq = .slice (some ⟨g, off, none⟩) Q.length cap0) ∨ (g = W.heap.size ∧ W.grownBy W1 none)) : RR B X A (Q ++ [x]) L0 g0 off0 va (.slice (some ⟨g, off, none⟩) (Q.length + 1) cap) W1 := by
  refine ⟨h.all.other hg (fun k e e2 => h.ap k e e2), by rw [its_snoc, List.length_append]; exact ho, fun k e e2 => ?_, fun j u hj => ?_, Nat.lt_of_lt_of_le h.sl hg.size, h.sb, fun e => ?_, h.sa, fun k hk => ?_⟩
  · obtain rfl := ob e2
    rcases hat with ⟨c0, rfl⟩ | ⟨rfl, _⟩
    · exact h.ap g e rfl
    · have := (h.all.lt _ e).2; omega
  · rw [cell_of_block (hg.block g0 h.sl (fun e2 => h.sq e2.symm))]; exact h.sn j u hj
  · obtain rfl := ob e
    rcases hat with ⟨c0, rfl⟩ | ⟨e, _⟩
    · exact h.sq rfl
    · have := h.sl; omega
  · obtain ⟨k1, k2, k3, k4⟩ := h.ax k hk
    refine ⟨k1, fun e => ?_, k3, Nat.lt_of_lt_of_le k4 hg.size⟩
    obtain rfl := ob e
    rcases hat with ⟨c0, rfl⟩ | ⟨rfl, _⟩
    · exact k2 rfl
    · omega
theorem RR.snap {g off n cap : Nat} (h : RR B X A Q [] g0 off0 (.slice (some ⟨g, off, none⟩) n cap) vq W) : RR B X A Q A g off (.slice (some ⟨g, off, none⟩) n cap) vq W := by
  have hl := h.all.lt g rfl
  obtain ⟨a, c, e, _⟩ := h.all.form
  cases e
  refine ⟨h.all, h.row, h.ap, fun j u hj => ?_, hl.2, .inr hl.1, h.ap g rfl, fun _ => ⟨cap, rfl, List.prefix_refl _⟩, h.ax⟩
  have h1 := (List.getElem?_eq_some_iff.1 hj).1
  rw [its_len] at h1
  obtain ⟨g', off', cap', e2, hc⟩ := h.all.cells (by omega)
  cases e2
  exact hc j u hj
theorem RR.unsnap (h : RR B X A Q L0 g0 off0 va vq W) (hB : 1 ≤ B) : RR B X A Q [] 0 0 va vq W := by
  refine ⟨h.all, h.row, h.ap, fun j u hj => by simp [its] at hj, by have := h.sl; omega, .inl rfl, fun e => by have := (h.row.lt _ e).1; omega, fun e => by have := (h.all.lt _ e).1; omega, h.ax⟩
theorem RR.protect (h : RR B X A Q L0 g0 off0 va vq W) {X' : Nat → Prop} (hb : Below W.heap.size W W1) (hx : ∀ k, X' k → X k ∨ (B ≤ k ∧ W.heap.size ≤ k ∧ k < W1.heap.size)) : RR B X' A Q L0 g0 off0 va vq W1 := by
  have h' := h.keep hb
  refine ⟨h'.all, h'.row, h'.ap, h'.sn, h'.sl, h'.sb, h'.sq, h'.sa, fun k hk => ?_⟩
  rcases hx k hk with e | ⟨e1, e2, e3⟩
  · exact h'.ax k e
  · exact ⟨fun e => by have := (h.all.lt k e).2; omega, fun e => by have := (h.row.lt k e).2; omega, e1, e3⟩
end
/-- what lengthsOf's boxes hold: s: the map; s + 1, s + 2, s + 3: the boxes of the map, of all items, of those that wait -/
structure AI (w2 : World) (nb s n : Nat) (X : Nat → Prop) (L : List (Nat × Nat × Nat)) (p : Nat) (L0 : List (Nat × Nat × Nat)) (g0 off0 : Nat) (wr : World) : Prop where
  nbox : wr.heap[nb]? = some (.cells #[.int .i64 n] 3 (0, 0))
  sbox : wr.heap[s + 1]? = some (.cells #[.map (some s)] 56 (0, 0))
  set : ∃ c, SetM Try.prog 59 4 s c (inSet L) wr ∧ c ≤ L.length
  rows : ∃ va vq, wr.heap[s + 2]? = some (.cells #[va] 57 (0, 0)) ∧ wr.heap[s + 3]? = some (.cells #[vq] 57 (0, 0)) ∧ RR (s + 4) X L (L.drop p) L0 g0 off0 va vq wr
  small : ∀ x ∈ L, small3 x
  bel : Below s w2 wr
  lo : nb < s
  le : s + 4 ≤ wr.heap.size
  pl : p ≤ L.length
  px : ∀ k, X k → k < w2.heap.size ∧ wr.heap[k]? = w2.heap[k]?
theorem AI.keep {w2 : World} {nb s n : Nat} {X : Nat → Prop} {L : List (Nat × Nat × Nat)} {p : Nat} {L0 : List (Nat × Nat × Nat)} {g0 off0 : Nat} {wr w' : World} (h : AI w2 nb s n X L p L0 g0 off0 wr) (hb : Below wr.heap.size wr w') : AI w2 nb s n X L p L0 g0 off0 w' := by
  obtain ⟨h1, h2, ⟨c, h3, h4⟩, ⟨va, vq, r1, r2, r3⟩, h5, h6, h7, h8, h9, h10⟩ := h
  exact ⟨bx_keep h1 hb, bx_keep h2 hb, ⟨c, h3.keep hb, h4⟩, ⟨va, vq, bx_keep r1 hb, bx_keep r2 hb, r3.keep hb⟩, h5, h6.trans (hb.mono (by omega)), h7, Nat.le_trans h8 hb.size, h9, fun k hk => ⟨(h10 k hk).1, (hb.block k (r3.ax k hk).2.2.2).trans (h10 k hk).2⟩⟩
open Classical in
noncomputable def addL (n : Nat) (L : List (Nat × Nat × Nat)) (x : Nat × Nat × Nat) : List (Nat × Nat × Nat) := if x.2.2 ≤ n ∧ x ∉ L then L ++ [x] else L
end Ln
end Go.Proofs.Ytmbjnemahgfhcaa
namespace Go.Proofs.Ytmbjnemahgfhcaa
open Go.RowKit

section
variable {P : Program} {ops : Array Oper} {Q : Exit → Act → World → Prop} {md : Region.Mode} {S : World → Prop} {n : Nat}
/-- whatever order is picked; S holds behind every operation until number n has come up -/
def wpU (P : Program) (md : Region.Mode) (ops : Array Oper) (Q : Exit → Act → World → Prop) (S : World → Prop) (n : Nat) : Nat → Array Bool → Act → World → Prop
  | 0, listed, a, w => Region.ready md ops listed = [] ∧ Q .normal a w
  | f + 1, listed, a, w =>
    (Region.ready md ops listed = [] → Q .normal a w) ∧
    ∀ i ∈ Region.ready md ops listed, wpOp P ops Q i (fun a' w' => ((listed.setIfInBounds i true).getD n true = false → S w') ∧ wpU P md ops Q S n f (listed.setIfInBounds i true) a' w') a w
theorem wpAny_of_U : ∀ (f : Nat) (listed : Array Bool) (a : Act) (w : World), wpU P md ops Q S n f listed a w → wpAny P md ops Q f listed a w
  | 0, _, _, _, h => h
  | f + 1, _, _, _, h => ⟨h.1, fun i hi => wpOp_mono (fun a' w' h' => wpAny_of_U f _ a' w' h'.2) (h.2 i hi)⟩
theorem wpU_first {i : Nat} {oi : Oper} {v : Value} (hi : ops[i]? = some oi) (hsel : ∀ (j : Nat) (o : Oper) cs b, ops[j]? = some o → o.op ≠ .select cs b)
    (hQ : ∀ c a w, Q (.panic c) (a.put oi.dst v) w → Q (.panic c) a w) (hs : Region.sinkB md ops n = true) (hc : Region.chainB md ops n = true) (hn : n < ops.size) (hin : i < n) :
    ∀ (f : Nat) (listed : Array Bool) (a : Act) (w : World), HeadInv md ops n listed →
      (∀ j oj, ops[j]? = some oj → j ≠ i → listed.getD j true = false → (∀ e ∈ oj.after, Region.binds md e = true → e.on ≠ i) → oi.apart ops oj = true) →
      i ∈ Region.ready md ops listed → YieldsIf P ops S oi v a → S w →
      wpU P md ops Q S n f (listed.setIfInBounds i true) (a.put oi.dst v) w → wpU P md ops Q S n (f + 1) listed a w := by
  intro f
  induction f with
  | zero =>
    intro listed a w inv _ hr hy hS H
    refine ⟨fun h => (by rw [h] at hr; cases hr), fun j hj => ?_⟩
    by_cases hji : j = i
    · subst hji; exact hy.wpOp hi hS ⟨fun _ => hS, H⟩
    · have h1 := ready_mono hj hji
      rw [H.1] at h1
      cases h1
  | succ f ih =>
    intro listed a w inv hfree hr hy hS H
    have hun := (mem_ready.1 hr).1
    refine ⟨fun h => (by rw [h] at hr; cases hr), fun j hj => ?_⟩
    have hjn : j < n := by
      rcases Nat.lt_or_ge j n with h | h
      · exact h
      · exact absurd hj (tail_waits hs hc hn inv _ i rfl hin hun j h)
    by_cases hji : j = i
    · subst hji; exact hy.wpOp hi hS ⟨fun _ => hS, H⟩
    · have h1 := H.2 j (ready_mono hj hji)
      obtain ⟨hjun, oj, hoj, hall⟩ := mem_ready.1 hj
      have hnot : ∀ e ∈ oj.after, Region.binds md e = true → e.on ≠ i := fun e he hb heq => by
        have h1 := hall e he hb
        rw [heq, getD_both hun] at h1
        cases h1
      have h2 := wpOp_putIf hoj (hfree j oj hoj hji hjun hnot) (fun cs b => hsel i oi cs b hi) (fun cs b => hsel j oj cs b hoj) hQ hy h1
      have hfree' : ∀ k ok, ops[k]? = some ok → k ≠ i → (listed.setIfInBounds j true).getD k true = false →
          (∀ e ∈ ok.after, Region.binds md e = true → e.on ≠ i) → oi.apart ops ok = true := fun k ok hk hki hun hno => by
        refine hfree k ok hk hki ?_ hno
        by_cases hjk : j = k
        · subst hjk; exact hjun
        · rw [getD_set_ne true hjk] at hun; exact hun
      have hnn : ((listed.setIfInBounds i true).setIfInBounds j true).getD n true = false := by
        rw [getD_set_ne true (by omega), getD_set_ne true (by omega)]
        exact inv.tail n (Nat.le_refl _) hn
      refine wpOp_mono (fun a' w' h3 => ⟨fun _ => h3.2.1 hnn, ih (listed.setIfInBounds j true) a' w' (inv.set hj hjn) hfree' (ready_mono hr (Ne.symm hji)) h3.1 (h3.2.1 hnn) ?_⟩) h2
      rw [Array.setIfInBounds_comm _ _ hji]
      exact h3.2.2
theorem wpU_take {i : Nat} {oi : Oper} {v : Value} {f : Nat} {listed : Array Bool} {a : Act} {w : World} (hi : ops[i]? = some oi) (inv : HeadInv md ops n listed) (hs : Region.sinkB md ops n = true) (hc : Region.chainB md ops n = true) (hn : n < ops.size) (hin : i < n)
    (hsel : Region.noSelect ops = true) (hf : Region.free md ops listed i = true) (hr : (Region.ready md ops listed).contains i = true)
    (hQ : ∀ c a w, Q (.panic c) (a.put oi.dst v) w → Q (.panic c) a w) (hy : YieldsIf P ops S oi v a) (hS : S w)
    (h : HeadInv md ops n (listed.setIfInBounds i true) → wpU P md ops Q S n f (listed.setIfInBounds i true) (a.put oi.dst v) w) : wpU P md ops Q S n (f + 1) listed a w :=
  wpU_first hi (Region.noSelect_spec hsel) hQ hs hc hn hin f listed a w inv (Region.free_spec hi hf) (by simpa using hr) hy hS (h (inv.set (by simpa using hr) hin))
theorem wp_region_U {id : Nat} {a : Act} {w : World} (n : Nat) (hm : P.follows .mixedOrders = true)
    (h : HeadInv .any ops n (Array.replicate ops.size false) → wpU P .any ops Q S n ops.size (Array.replicate ops.size false) a w.drew) : (Code.region id ops true).wp P Q a w :=
  wp_region_any hm (wpAny_of_U _ _ _ _ (h ⟨by simp, fun j oj _ hl => (by rw [getD_replicate_false] at hl; cases hl), fun t _ ht => getD_in (by simpa using ht) (getD_replicate_false _ _)⟩))
/-- the way on, shut -/
def OnU (P : Program) (md : Region.Mode) (ops : Array Oper) (Q : Exit → Act → World → Prop) (S : World → Prop) (n f : Nat) (listed : Array Bool) (K : Act → World → Prop) : Prop :=
  ∀ a w, (listed.getD n true = false → S w) → wpU P md ops Q S n f listed a w → K a w
theorem OnU.out {f : Nat} {listed : Array Bool} {K : Act → World → Prop} (h : OnU P md ops Q S n f listed K) (a : Act) (w : World) (hS : listed.getD n true = false → S w) (hw : wpU P md ops Q S n f listed a w) : K a w := h a w hS hw
theorem wpU_one {i : Nat} {o : Oper} {f : Nat} {listed : Array Bool} {a : Act} {w : World} (hr : Region.ready md ops listed = [i]) (ho : ops[i]? = some o)
    (h : ∀ K : Act → World → Prop, OnU P md ops Q S n f (listed.setIfInBounds i true) K → if Region.wanted o (yielded ops a.tmps) = true then Oper.wp P o a w K Q else K (a.put o.dst undef) w) : wpU P md ops Q S n (f + 1) listed a w := by
  refine ⟨fun h0 => (by rw [hr] at h0; cases h0), fun j hj => ?_⟩
  rw [hr] at hj
  obtain rfl : j = i := by simpa using hj
  exact wpOp_step ho (fun K hK => h K (fun a w hS hW => hK a w ⟨hS, hW⟩))
theorem wpU_two {i j : Nat} {o o' : Oper} {f : Nat} {listed : Array Bool} {a : Act} {w : World} (hr : Region.ready md ops listed = [i, j]) (ho : ops[i]? = some o) (ho' : ops[j]? = some o')
    (h : ∀ K : Act → World → Prop, OnU P md ops Q S n f (listed.setIfInBounds i true) K → if Region.wanted o (yielded ops a.tmps) = true then Oper.wp P o a w K Q else K (a.put o.dst undef) w)
    (h' : ∀ K : Act → World → Prop, OnU P md ops Q S n f (listed.setIfInBounds j true) K → if Region.wanted o' (yielded ops a.tmps) = true then Oper.wp P o' a w K Q else K (a.put o'.dst undef) w) : wpU P md ops Q S n (f + 1) listed a w := by
  refine ⟨fun h0 => (by rw [hr] at h0; cases h0), fun k hk => ?_⟩
  rw [hr] at hk
  rcases List.mem_cons.1 hk with rfl | hk
  · exact wpOp_step ho (fun K hK => h K (fun a w hS hW => hK a w ⟨hS, hW⟩))
  · obtain rfl : k = j := by simpa using hk
    exact wpOp_step ho' (fun K hK => h' K (fun a w hS hW => hK a w ⟨hS, hW⟩))
theorem wpU_done {listed : Array Bool} {a : Act} {w : World} (hr : Region.ready md ops listed = []) (h : Q .normal a w) : ∀ f, wpU P md ops Q S n f listed a w
  | 0 => ⟨hr, h⟩
  | _ + 1 => ⟨fun _ => h, by rw [hr]; simp⟩
end
end Go.Proofs.Ytmbjnemahgfhcaa
