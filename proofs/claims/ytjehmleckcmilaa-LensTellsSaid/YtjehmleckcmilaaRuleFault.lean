/- The contract of RuleFault: it is gram.Check's. -/
import Derived.Test.YtjehmleckcmilaaKeyR
import Derived.Test.YtjehmleckcmilaaCheckE
namespace Go.Proofs.Ytjehmleckcmilaa
open Go.RowKit

theorem zeroB (w : World) : (zeroValue 4).run Try.prog w = .ok (.bool false) w := by
  obtain ⟨i, hi, hz, _⟩ := info_parts (show (Try.prog.info? 4).map (fun i => (i.zero, i.size, i.bytes)) = some (some (.bool false), 1, 1) by kernel_rfl)
  simp [zeroValue, typeInfo, hi, hz]
theorem strK : Go.Maps.Keyed Try.prog 9 := Go.Maps.string_keyed Try.underlying9
abbrev StrSet (b c : Nat) (S : Lit → Bool) (w : World) : Prop := SetM Try.prog 9 4 b c S w
theorem conv_rune (n : Int) (hn : small n) (w : World) : (convert 3 21 (.int .i64 n)).run Try.prog w = .ok (.int .i32 n) w := by
  have h : IntKind.i32.wrap n = n := by obtain ⟨h1, h2⟩ := hn; simp [IntKind.wrap, IntKind.signed, IntKind.bits, IntKind.min, IntKind.max]; omega
  simp [convert, run_underlying Try.underlying3, run_underlying Try.underlying21, Conv.intToInt, h]
theorem conv_str (n : Int) (w : World) : (convert 21 9 (.int .i32 n)).run Try.prog w = .ok (.string (Utf8.encode n)) w := by
  simp [convert, run_underlying Try.underlying21, run_underlying Try.underlying9, Conv.intToString]

/-- what the rounds keep -/
structure FltI (w0 : World) (mb : Nat) (g : Gram) (K : List Rule) (i : Nat) (wr : World) : Prop where
  set : StrSet mb i (keysOf (K.take i)) wr
  bel : Below w0.heap.size w0 wr
  lo : w0.heap.size ≤ mb
  ok : ∀ r ∈ K.take i, okR r
  flt : faultsFrom g i (K.drop i) = faultsFrom g 0 K

set_option maxHeartbeats 4000000 in
set_option maxRecDepth 100000 in
theorem ruleFault (g : Gram) (ar : Option Addr) (cr : Nat) (w : World) (hr : Rd AnyB w (.sl (g.rules.map Rule.d)) [.slice ar g.rules.length cr]) :
    Calls Try.prog 44 #[.agg #[.int .i64 g.terms, .int .i64 g.nons, .int .i64 g.start, .slice ar g.rules.length cr]] w fun e w' => e = .returned (.int .i64 (checkG g)) ∧ Below w.heap.size w w' := by
  have hbs := hr.bounds.2
  unfold maxLen at hbs
  obtain ⟨hc1, hc2⟩ := hbs
  obtain ⟨gt, HGT⟩ := nameIt g.terms
  obtain ⟨gn, HGN⟩ := nameIt g.nons
  obtain ⟨gs, HGS⟩ := nameIt g.start
  obtain ⟨K, HK⟩ := nameIt g.rules
  have HBC := Lib.hid (@badHead_cases g)
  have HGH := Lib.hid (@goodHead g)
  rw [HGT.out, HGN.out, HGS.out] at HBC HGH
  obtain ⟨w0, HW0⟩ := nameIt (w.alloc (.cells #[.int .i64 gt, .int .i64 gn, .int .i64 gs, .slice ar K.length cr] 77))
  have HB0 : Hid (Below w.heap.size w w0) := by rw [← HW0.out]; exact (Below.refl _ _).alloc (Nat.le_refl _) _
  have X1 : Hid (w0.heap[w.heap.size]? = some (.cells #[.int .i64 gt, .int .i64 gn, .int .i64 gs, .slice ar K.length cr] 77 (0, 0))) := by rw [← HW0.out]; exact bx_new _ _ _ rfl
  have HR := Lib.hid (hr.below HB0.out)
  rw [HK.out] at HR hc1
  rw [HGT.out, HGN.out, HGS.out, HK.out]
  obtain ⟨x0, x1, x2, x3⟩ := bx_cells4 X1.out
  clear hr
  by_cases hbad : badHead g = true
  · have HE : Hid (checkG g = 1) := by show _ = _; simp [checkG, hbad]
    rcases HBC.out hbad with h1 | ⟨h1, h2⟩ | ⟨h1, h2, h3⟩ | ⟨h1, h2, h3, h4⟩ | ⟨h1, h2, h3, h4, h5⟩ | ⟨h1, h2, h3, h4, h5, h6⟩
    all_goals
      clear hbad
      go_enter Try.func44, Try.ntmps44
      go_upto_region 1 with fail
      rw [HW0.out]
      go_wp2_with fail
      go_ret
      exact ⟨by rw [HE.out]; rfl, HB0.out⟩
  · obtain ⟨h1, h2, h3, h4, h5, h6⟩ := HGH.out hbad
    have HBD := Lib.hid hbad
    clear hbad
    by_cases hlen : 32 < K.length
    · have HE : Hid (checkG g = 2) := by show _ = _; rw [checkG, if_neg HBD.out, HK.out, if_pos hlen]
      have hlen' : (32 : Int) < (K.length : Int) := by omega
      go_enter Try.func44, Try.ntmps44
      go_upto_region 1 with fail
      rw [HW0.out]
      go_wp2_with fail
      go_ret
      exact ⟨by rw [HE.out]; rfl, HB0.out⟩
    · have HE : Hid (checkG g = faultsFrom g 0 K) := by show _ = _; rw [checkG, if_neg HBD.out, HK.out, if_neg hlen]
      have hlen' : ¬ (32 : Int) < (K.length : Int) := by omega
      have HI0 : Hid (FltI w0 w0.heap.size g K 0 (w0.alloc (.map #[] 0))) := ⟨SetM.start _ _ _ _ rfl (fun l => by cases l <;> simp [keysOf]), (Below.refl _ _).alloc (Nat.le_refl _) _, Nat.le_refl _, by simp, rfl⟩
      have hmk : ∀ W : World, (Instr.makeMap 190 none).run Try.prog W = .ok (.map (some W.heap.size)) (W.alloc (.map #[] 0)) := fun W => by
        simp [Instr.makeMap, run_underlying Try.underlying190]; try rfl
      have hl0 : w.heap.size < w0.heap.size := (Array.getElem?_eq_some_iff.1 X1.out).1
      have hgn : gn ≤ 10 := by simp at h4; omega
      have hgt : gt ≤ 8 := by simp at h2; omega
      go_enter Try.func44, Try.ntmps44
      go_upto_region 1 with fail
      rw [HW0.out]
      go_wp2_with fail
      clear h1 h2 h3 h4 h5 h6 x0 x1 x2 x3
      obtain ⟨mb, HMB⟩ := nameIt w0.heap.size
      rw [HMB.out] at HI0
      rw [HMB.out]
      go_loopg [48] K.length (fun gg v48 wr => ∃ i : Nat, i ≤ K.length ∧ K.length - i ≤ gg ∧ v48 = .int .i64 i ∧ Hid (FltI w0 mb g K i wr))
      case atStart => exact ⟨0, by omega, by omega, rfl, HI0⟩
      case round =>
        clear HI0
        obtain ⟨wo, rfl⟩ : ∃ wo : World, wo = wr := ⟨_, rfl⟩
        obtain ⟨i, hi, hg, rfl, HI⟩ := hrel
        by_cases hlt : i < K.length
        · have hlt' : (i : Int) < (K.length : Int) := by omega
          have hmb := HI.out.set.lt
          have hlo := HI.out.lo
          obtain ⟨b, off, vr, hae, -, hbl, c0, c1, hkr⟩ := (HR.out.below HI.out.bel).rule_at hlt
          obtain ⟨av, cv, rfl, -, hcv⟩ := hkr.form
          rw [List.length_map] at c1 hkr
          have h1 := HI.out.flt
          have hrl : i < g.rules.length := by rw [HK.out]; exact hlt
          rw [← HK.out, faultsFrom_at hrl] at h1
          simp only [HK.out] at h1
          obtain ⟨r, HRn⟩ := nameIt (K[i]'hlt)
          rw [HRn.out] at c0 c1 hkr h1
          obtain ⟨w4, HW4⟩ := nameIt (wo.alloc (.cells #[.int .i64 r.left, .slice av r.right.length cv] 189))
          have hb4 : Below wo.heap.size wo w4 := by rw [← HW4.out]; exact (Below.refl _ _).alloc (Nat.le_refl _) _
          have X4 : Hid (w4.heap[wo.heap.size]? = some (.cells #[.int .i64 r.left, .slice av r.right.length cv] 189 (0, 0))) := by rw [← HW4.out]; exact bx_new _ _ _ rfl
          have HB4 : Hid (Below w0.heap.size w0 w4) := HI.out.bel.trans (hb4.mono HI.out.bel.size)
          have HS4 := Lib.hid (HI.out.set.keep hb4)
          have HKR := Lib.hid (hkr.below hb4)
          have X1' := Lib.hid (bx_keep X1.out HB4.out)
          have HH1 := Lib.hid h1
          have hwl : wo.heap.size < w4.heap.size := (Array.getElem?_eq_some_iff.1 X4.out).1
          obtain ⟨lf, HLF⟩ := nameIt r.left
          obtain ⟨R, HRR⟩ := nameIt r.right
          have hfr : faultR g i r = if lf < 0 ∨ gn ≤ lf then 3 else if 4 < R.length then 2 else if R.any (fun s => !hasS g s) then 3 else if (K.take i).any (fun x => cmpR x r == 0) then 6 else 0 := by
            unfold faultR; rw [HLF.out, HGN.out, HRR.out, HK.out]
          have HFR := Lib.hid hfr
          have HW4' := HW4
          have X4' := X4
          rw [HLF.out, HRR.out] at X4'
          rw [HLF.out] at c0 HW4'
          rw [HRR.out] at c1 HW4' HKR
          obtain ⟨y0, y1⟩ := bx_cells2 X4'.out
          obtain ⟨x0, x1, x2, x3⟩ := bx_cells4 X1'.out
          subst hae
          clear h1 hkr hb4 hfr
          have FIN : Hid (∀ z W, z ≠ 0 → faultR g i r = z → Below w0.heap.size w0 W → (Ending.returned (.int .i64 z) = .returned (.int .i64 (checkG g)) ∧ Below w.heap.size w W)) := by
            intro z W hz hf hb
            refine ⟨?_, HB0.out.trans (hb.mono HB0.out.size)⟩
            rw [HE.out, ← HH1.out, hf, if_neg hz]
          by_cases hlf : lf < 0 ∨ gn ≤ lf
          · have hz := HFR.out
            rw [if_pos hlf] at hz
            have HZ := Lib.hid hz
            clear hz
            by_cases hl0 : lf < 0
            · have hl0' : decide (lf < 0) = true := by simpa using hl0
              clear hlf hl0
              go_upto_region 9 with fail
              rw [HW4'.out]
              go_wp2_with fail
              go_ret
              exact FIN.out 3 _ (by decide) HZ.out HB4.out
            · have hl0' : decide (lf < 0) = false := by simpa using hl0
              have hl1' : decide (gn ≤ lf) = true := by simp; omega
              clear hlf hl0
              go_upto_region 9 with fail
              rw [HW4'.out]
              go_wp2_with fail
              go_ret
              exact FIN.out 3 _ (by decide) HZ.out HB4.out
          · have hl0' : decide (lf < 0) = false := by simp; omega
            have hl1' : decide (gn ≤ lf) = false := by simp; omega
            have hsm : small lf := ⟨by omega, by omega⟩
            have HSM := Lib.hid hsm
            have hf1 := HFR.out
            rw [if_neg hlf] at hf1
            have HF1 := Lib.hid hf1
            clear hf1 hlf
            by_cases hbig : 4 < R.length
            · have hbig' : (4 : Int) < (R.length : Int) := by omega
              have hz := HF1.out
              rw [if_pos hbig] at hz
              have HZ := Lib.hid hz
              clear hz
              go_upto_region 9 with fail
              rw [HW4'.out]
              go_wp2_with fail
              go_ret
              exact FIN.out 2 _ (by decide) HZ.out HB4.out
            · have hbig' : ¬ (4 : Int) < (R.length : Int) := by omega
              have hf2 := HF1.out
              rw [if_neg hbig] at hf2
              have HF2 := Lib.hid hf2
              have cr1 := conv_rune lf HSM.out
              have cr2 := conv_str lf
              clear hf2 hsm
              go_upto_region 9 with fail
              rw [HW4'.out]
              go_wp2_with fail
              have HK0 : Hid (Bts (Utf8.encode lf) (keyB lf (R.take 0))) := bts_enc HSM.out
              obtain ⟨k0, HK0n⟩ := nameIt (Utf8.encode lf)
              rw [HK0n.out] at HK0
              rw [HK0n.out]
              clear cr1 cr2 x0 x1 x2 x3 y0 y1 c0 c1 hl0' hl1' hbig'
              go_loopg [6, 73] R.length (fun gg v6 v73 wr => ∃ (q : Nat) (ks : ByteArray), q ≤ R.length ∧ R.length - q ≤ gg ∧ v6 = .string ks ∧ v73 = .int .i64 q ∧ Hid (Bts ks (keyB lf (R.take q))) ∧ Hid (∀ s ∈ R.take q, hasS g s = true) ∧ Hid (Below w4.heap.size w4 wr))
              case atStart => exact ⟨0, k0, by omega, by omega, rfl, rfl, HK0, Lib.hid (by simp), Below.refl _ _⟩
              case round =>
                obtain ⟨q, ks, hq, hgq, rfl, rfl, HKS, HHS, HBW⟩ := hrel
                have hks := HKS.out.size
                rw [keyB_len, List.length_take] at hks
                by_cases hql : q < R.length
                · have hql' : (q : Int) < (R.length : Int) := by omega
                  obtain ⟨b', off', hae', -, hbl', e0, e1⟩ := (HKR.out.below HBW.out).sym_at hql
                  have HKT := Lib.hid (keyB_take (l := lf) hql)
                  have HTK : Hid (R.take (q + 1) = R.take q ++ [R[q]'hql]) := List.take_succ_eq_append_getElem hql
                  have HMM : Hid (R[q]'hql ∈ R) := List.getElem_mem hql
                  obtain ⟨s, HSn⟩ := nameIt (R[q]'hql)
                  rw [HSn.out] at e0 e1 HKT HTK HMM
                  obtain ⟨st, HST⟩ := nameIt s.term
                  obtain ⟨sn, HSN⟩ := nameIt s.n
                  rw [HST.out] at e0 HKT
                  rw [HSN.out] at e1 HKT
                  obtain ⟨w5, HW5⟩ := nameIt (wr.alloc (.cells #[.bool st, .int .i64 sn] 88))
                  have hb5 : Below wr.heap.size wr w5 := by rw [← HW5.out]; exact (Below.refl _ _).alloc (Nat.le_refl _) _
                  have X5 : Hid (w5.heap[wr.heap.size]? = some (.cells #[.bool st, .int .i64 sn] 88 (0, 0))) := by rw [← HW5.out]; exact bx_new _ _ _ rfl
                  have HB5 : Hid (Below w4.heap.size w4 w5) := HBW.out.trans (hb5.mono HBW.out.size)
                  obtain ⟨x0, x1, x2, x3⟩ := bx_cells4 (bx_keep X1'.out HB5.out)
                  obtain ⟨z0, z1⟩ := bx_cells2 X5.out
                  have hhs : hasS g s = (decide (0 ≤ sn) && (st && decide (sn < gt) || !st && decide (sn < gn))) := by unfold hasS; rw [HST.out, HSN.out, HGT.out, HGN.out]
                  have HHH := Lib.hid hhs
                  have BAD : Hid (hasS g s = false → faultR g i r = 3) := by
                    intro h
                    rw [HF2.out, if_pos]
                    exact List.any_eq_true.2 ⟨s, HMM.out, by rw [h]; rfl⟩
                  have HB5w : Hid (Below w0.heap.size w0 w5) := HB4.out.trans (HB5.out.mono HB4.out.size)
                  subst hae'
                  clear hb5 hhs
                  cases st with
                  | true =>
                    by_cases hs0 : sn < 0
                    · have hs0' : decide (sn < 0) = true := by simpa using hs0
                      have HBX : Hid (faultR g i r = 3) := BAD.out (by rw [HHH.out]; simp; omega)
                      clear hs0
                      go_upto_region 17 with fail
                      rw [HW5.out]
                      go_wp2_with fail
                      go_ret
                      exact FIN.out 3 _ (by decide) HBX.out HB5w.out
                    · have hs0' : decide (sn < 0) = false := by simpa using hs0
                      by_cases hs1 : gt ≤ sn
                      · have hs1' : decide (gt ≤ sn) = true := by simpa using hs1
                        have HBX : Hid (faultR g i r = 3) := BAD.out (by rw [HHH.out]; simp; omega)
                        clear hs0 hs1
                        go_upto_region 17 with fail
                        rw [HW5.out]
                        go_wp2_with fail
                        go_ret
                        exact FIN.out 3 _ (by decide) HBX.out HB5w.out
                      · have hs1' : decide (gt ≤ sn) = false := by simpa using hs1
                        have HSS : Hid (small sn) := ⟨by omega, by omega⟩
                        have HOK : Hid (hasS g s = true) := by show _ = _; rw [HHH.out]; simp; omega
                        have cr1 := conv_rune sn HSS.out
                        have cr2 := conv_str sn
                        have hen := (bts_enc HSS.out).size
                        simp only [List.length_cons, List.length_nil] at hen
                        have HKN : Hid (Bts (ks ++ ⟨#[116]⟩ ++ Utf8.encode sn) (keyB lf (R.take (q + 1)))) := by
                          show Bts _ _
                          rw [HKT.out]
                          exact (HKS.out.app (t := ⟨#[116]⟩) (m := [116]) rfl).app (bts_enc HSS.out)
                        have HHN : Hid (∀ x ∈ R.take (q + 1), hasS g x = true) := by
                          intro x hx
                          rw [HTK.out] at hx
                          rcases List.mem_append.1 hx with h | h
                          · exact HHS.out x h
                          · simp at h; subst h; exact HOK.out
                        clear hs0 hs1
                        go_upto_region 17 with fail
                        rw [HW5.out]
                        go_wp2_with fail
                        go_roundg (R.length - (q + 1))
                        case measure => omega
                        case rel => exact ⟨q + 1, _, by omega, by omega, rfl, by go_num, HKN, HHN, HB5⟩
                  | false =>
                    by_cases hs0 : sn < 0
                    · have hs0' : decide (sn < 0) = true := by simpa using hs0
                      have HBX : Hid (faultR g i r = 3) := BAD.out (by rw [HHH.out]; simp; omega)
                      clear hs0
                      go_upto_region 17 with fail
                      rw [HW5.out]
                      go_wp2_with fail
                      go_ret
                      exact FIN.out 3 _ (by decide) HBX.out HB5w.out
                    · have hs0' : decide (sn < 0) = false := by simpa using hs0
                      by_cases hs1 : gn ≤ sn
                      · have hs1' : decide (gn ≤ sn) = true := by simpa using hs1
                        have HBX : Hid (faultR g i r = 3) := BAD.out (by rw [HHH.out]; simp; omega)
                        clear hs0 hs1
                        go_upto_region 17 with fail
                        rw [HW5.out]
                        go_wp2_with fail
                        go_ret
                        exact FIN.out 3 _ (by decide) HBX.out HB5w.out
                      · have hs1' : decide (gn ≤ sn) = false := by simpa using hs1
                        have HSS : Hid (small sn) := ⟨by omega, by omega⟩
                        have HOK : Hid (hasS g s = true) := by show _ = _; rw [HHH.out]; simp; omega
                        have cr1 := conv_rune sn HSS.out
                        have cr2 := conv_str sn
                        have hen := (bts_enc HSS.out).size
                        simp only [List.length_cons, List.length_nil] at hen
                        have HKN : Hid (Bts (ks ++ ⟨#[110]⟩ ++ Utf8.encode sn) (keyB lf (R.take (q + 1)))) := by
                          show Bts _ _
                          rw [HKT.out]
                          exact (HKS.out.app (t := ⟨#[110]⟩) (m := [110]) rfl).app (bts_enc HSS.out)
                        have HHN : Hid (∀ x ∈ R.take (q + 1), hasS g x = true) := by
                          intro x hx
                          rw [HTK.out] at hx
                          rcases List.mem_append.1 hx with h | h
                          · exact HHS.out x h
                          · simp at h; subst h; exact HOK.out
                        clear hs0 hs1
                        go_upto_region 17 with fail
                        rw [HW5.out]
                        go_wp2_with fail
                        go_roundg (R.length - (q + 1))
                        case measure => omega
                        case rel => exact ⟨q + 1, _, by omega, by omega, rfl, by go_num, HKN, HHN, HB5⟩
                · have hql' : ¬ (q : Int) < (R.length : Int) := by omega
                  have hqe : R.take q = R := List.take_of_length_le (by omega)
                  have HSB : Hid (okR r) := by
                    refine ⟨by rw [HLF.out]; exact HSM.out, fun s hs => ?_⟩
                    rw [HRR.out, ← hqe] at hs
                    have h := HHS.out s hs
                    unfold hasS at h
                    rw [HGT.out, HGN.out] at h
                    simp at h
                    exact ⟨h.1, by omega⟩
                  have hnb : R.any (fun s => !hasS g s) = false := by
                    rw [List.any_eq_false]
                    intro s hs
                    rw [← hqe] at hs
                    rw [HHS.out s hs]; decide
                  have HKE : Hid (Bts ks (keyB r.left r.right)) := by
                    have h := HKS.out
                    rw [hqe] at h
                    rw [HLF.out, HRR.out]
                    exact h
                  have hf3 := HF2.out
                  rw [hnb] at hf3
                  simp only [Bool.false_eq_true, if_false] at hf3
                  have HSW := Lib.hid (HS4.out.keep HBW.out)
                  have hkey := key_string ks _ HKE.out (by rw [hks]; unfold maxLen; omega)
                  have hlk := HSW.out.look strK Try.underlying190 Try.underlying4 (zeroB wr) hkey
                  rw [keysOf_same HI.out.ok HSB.out] at hlk
                  obtain ⟨A2, HA2⟩ := nameIt ((K.take i).any fun x => cmpR x r == 0)
                  rw [HA2.out] at hlk hf3
                  have HTK : Hid (K.take (i + 1) = K.take i ++ [r]) := by show _ = _; rw [List.take_succ_eq_append_getElem hlt, HRn.out]
                  obtain ⟨w6, hup, hset, hgrow⟩ := HSW.out.add strK Try.underlying190 Try.underlying4 (by unfold maxLen; omega) hkey (S' := keysOf (K.take (i + 1))) (by rw [HTK.out]; exact keysOf_add) (fun l' h => by rw [HTK.out]; exact keysOf_other h)
                  have HF3 := Lib.hid hf3
                  have HB6 : Hid (Below w0.heap.size w0 wr) := HB4.out.trans (HBW.out.mono HB4.out.size)
                  have HBW6 : Hid (Below w0.heap.size w0 w6) := HB6.out.grown hgrow HB6.out.size (fun k e => by cases e; exact hlo)
                  have HSET := Lib.hid hset
                  clear hf3 hnb hqe hset hgrow hkey hks
                  cases A2 with
                  | true =>
                    have HZ : Hid (faultR g i r = 6) := HF3.out
                    go_wp2_with fail
                    go_ret
                    exact FIN.out 6 _ (by decide) HZ.out HB6.out
                  | false =>
                    have HIN : Hid (FltI w0 mb g K (i + 1) w6) := by
                      refine ⟨HSET.out, HBW6.out, hlo, fun x hx => ?_, ?_⟩
                      · rw [HTK.out] at hx
                        rcases List.mem_append.1 hx with h | h
                        · exact HI.out.ok x h
                        · simp at h; subst h; exact HSB.out
                      · have h := HH1.out
                        have hz : faultR g i r = 0 := HF3.out
                        rw [hz, if_pos rfl] at h
                        exact h
                    go_wp2_with fail
                    go_roundg (K.length - (i + 1))
                    case measure => omega
                    case rel => exact ⟨i + 1, by omega, by omega, by go_num, HIN⟩
        · have hlt' : ¬ (i : Int) < (K.length : Int) := by omega
          have HZ : Hid (faultsFrom g 0 K = 0) := by show _ = _; rw [← HI.out.flt, List.drop_of_length_le (by omega), faultsFrom]
          go_wp2_with fail
          go_ret
          exact ⟨by rw [HE.out, HZ.out]; rfl, HB0.out.trans (HI.out.bel.mono HB0.out.size)⟩
end Go.Proofs.Ytjehmleckcmilaa
