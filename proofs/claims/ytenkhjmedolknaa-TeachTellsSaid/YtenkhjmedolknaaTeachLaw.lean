/- The walk of the law TeachTells. -/
import Derived.Test.YtenkhjmedolknaaTeachE
import Derived.Test.YtenkhjmedolknaaDfaFault
import Derived.Test.YtenkhjmedolknaaApartW
import Derived.Test.YtenkhjmedolknaaDfaEnds
namespace Go.Proofs.Ytenkhjmedolknaa
open Go.RowKit
namespace Df

theorem ends_width : ((plainD endsD).width : Int) = 2 := rfl
theorem badP_left (x y : Dfa) (n : Int × Int) : badP (plainD x) y n = badP x y n := by unfold badP; rw [plain_good]
theorem least_left {x y : Dfa} {u : List Nat} (h : LeastW (plainD x) y u) : LeastW x y u := by
  obtain ⟨h1, h2, h3⟩ := h
  rw [badP_left] at h2
  exact ⟨h1, h2, fun v hv hb => h3 v hv (by rw [badP_left]; exact hb)⟩
theorem alike_left {x y : Dfa} (h : Alike (plainD x) y) : Alike x y := fun u hu => by
  have := h u hu
  rw [badP_left] at this
  exact this
theorem want_left (x y : Dfa) : wantE (plainD x) y = wantE x y := rfl
theorem sl_two {w : World} {a a' : Option Addr} {n n' cap cap' : Nat} {l : List Int} (h : Sl w (.slice a n cap) (ints l)) (h' : Sl w (.slice a' n' cap') (ints l)) : Calls Try.prog 15 #[.slice a n cap, .slice a' n' cap'] w fun e w' => e = .returned (.bool true) ∧ Below w.heap.size w w' := by
  have e1 := h.len.1
  have e2 := h'.len.1
  rw [ints_len] at e1 e2
  subst e1 e2
  have := equal_eq a a' cap cap' l l w rfl h h'
  rw [beq_self_eq_true] at this
  exact this
theorem takes_any {x : Dfa} {ws : List Int} (h : ws.any (outP x) = false) : ∀ c ∈ ws, 0 ≤ c ∧ c < x.width := by
  intro c hc
  rw [List.any_eq_false] at h
  have := h c hc
  unfold outP at this
  simp at this
  omega
set_option maxHeartbeats 16000000 in
set_option maxRecDepth 100000 in
theorem lawTT (x y : Dfa) (ws : List (List Int)) (aa an ba bn aw : Option Addr) (ca cn da dn cw : Nat) (w : World) (hX : DfA x aa an ca cn w) (hY : DfA y ba bn da dn w) (hW : Rd AnyB w (.sl (ws.map D.ints)) [.slice aw ws.length cw]) :
    Calls Try.prog 3 #[.agg #[.int .i64 x.start, .slice aa x.acc.length ca, .slice an x.next.length cn], .agg #[.int .i64 y.start, .slice ba y.acc.length da, .slice bn y.next.length dn], .slice aw ws.length cw] w fun e w' => e = .returned (.bool true) ∧ Below w.heap.size w w' := by
  obtain ⟨w0, HW0⟩ := nameIt ((w.alloc (.cells #[.int .i64 x.start, .slice aa x.acc.length ca, .slice an x.next.length cn] 25)).alloc (.cells #[.int .i64 y.start, .slice ba y.acc.length da, .slice bn y.next.length dn] 25))
  have hb0 : Below w.heap.size w w0 := by rw [← HW0.out]; exact ((Below.refl _ _).alloc (Nat.le_refl _) _).alloc (by simp) _
  have HB0 := Lib.hid hb0
  have X0 : Hid (w0.heap[w.heap.size]? = some (.cells #[.int .i64 x.start, .slice aa x.acc.length ca, .slice an x.next.length cn] 25 (0, 0))) := by
    rw [← HW0.out]; exact bx_keep (bx_new _ _ _ rfl) ((Below.refl _ _).alloc (Nat.le_refl _) _)
  have Y0 : Hid (w0.heap[w.heap.size + 1]? = some (.cells #[.int .i64 y.start, .slice ba y.acc.length da, .slice bn y.next.length dn] 25 (0, 0))) := by
    rw [← HW0.out]; exact bx_new _ _ _ (by simp)
  have HX := Lib.hid (hX.below hb0)
  have HY := Lib.hid (hY.below hb0)
  have HWD := Lib.hid (hW.below hb0)
  have hcw : ws.length ≤ 9223372036854775807 := by
    obtain ⟨a, cap, L, e, h1, h2, -⟩ := hW
    rw [List.length_map] at h1
    unfold maxLen at h2
    omega
  have HFX : Hid (∀ W, Below w0.heap.size w0 W → Calls Try.prog 7 #[.agg #[.int .i64 x.start, .slice aa x.acc.length ca, .slice an x.next.length cn]] W fun e w' => e = .returned (.int .i64 (dfaErr x)) ∧ Below W.heap.size W w') := fun W hb => faultE x aa an ca cn W (HX.out.below hb).A (HX.out.below hb).N
  have HFY : Hid (∀ W, Below w0.heap.size w0 W → Calls Try.prog 7 #[.agg #[.int .i64 y.start, .slice ba y.acc.length da, .slice bn y.next.length dn]] W fun e w' => e = .returned (.int .i64 (dfaErr y)) ∧ Below W.heap.size W w') := fun W hb => faultE y ba bn da dn W (HY.out.below hb).A (HY.out.below hb).N
  have HNW : Hid (∀ W, Below w0.heap.size w0 W → Calls Try.prog 4 #[.agg #[.int .i64 x.start, .slice aa x.acc.length ca, .slice an x.next.length cn]] W (NewPost x W)) := fun W hb => newE x aa an ca cn W (HX.out.below hb)
  obtain ⟨PST, HP⟩ := nameIt (fun e w' => e = Ending.returned (.bool true) ∧ Below w.heap.size w w')
  have HFI : Hid (∀ W, Below w0.heap.size w0 W → PST (.returned (.bool true)) W) := by intro W hb; rw [← HP.out]; exact ⟨rfl, HB0.out.trans (hb.mono HB0.out.size)⟩
  rw [HP.out]
  obtain ⟨E, HE⟩ := nameIt (dfaErr x)
  rw [HE.out] at HFX
  obtain ⟨la, HLA⟩ := nameIt x.acc.length
  obtain ⟨n, HN⟩ := nameIt x.next.length
  obtain ⟨st, HST⟩ := nameIt x.start
  obtain ⟨la', HLA'⟩ := nameIt y.acc.length
  obtain ⟨n', HN'⟩ := nameIt y.next.length
  obtain ⟨st', HST'⟩ := nameIt y.start
  obtain ⟨wn, HWN⟩ := nameIt ws.length
  simp only [HLA.out, HN.out, HST.out, HLA'.out, HN'.out, HST'.out] at HW0 X0 Y0 HFX HFY HNW
  rw [HWN.out] at hcw
  rw [HLA.out, HN.out, HST.out, HLA'.out, HN'.out, HST'.out, HWN.out]
  clear hX hY hW hb0
  go_enter Try.func3, Try.ntmps3
  go_upto_region 1 with fail
  rw [HW0.out]
  go_wp2_with fail
  refine (endsLawE w0).mono ?_
  rintro e w1 ⟨ae, ne, ce, ke, rfl, hde, hb1⟩
  have HB1 := Lib.hid hb1
  have HDE := Lib.hid hde
  clear hde hb1
  go_wp2_with fail
  refine (newE endsD ae ne ce ke w1 HDE.out).mono ?_
  rintro e w2 (⟨hne, -⟩ | ⟨-, aE, nE, cE, kE, wE, rfl, hbE, hdE, hbE2, htE⟩)
  · exact absurd (err_of_right ends_right) hne
  have HB2 : Hid (Below w0.heap.size w0 w2) := HB1.out.trans ((hbE.trans (hbE2.mono hbE.size)).mono HB1.out.size)
  have hse := symbolsE (plainD endsD) (plain_right ends_right) wE.heap.size _ nE kE 0 0 w2 htE (hdE.N.below hbE2)
  rw [ends_width] at hse
  have HSE := Lib.hid hse
  clear hse hbE hdE hbE2 htE
  obtain ⟨te, HTE⟩ := nameIt wE.heap.size
  rw [HTE.out] at HSE
  rw [HTE.out]
  go_wp2_with fail
  refine HSE.out.mono ?_
  rintro e w3 ⟨rfl, hb3⟩
  have HB3 : Hid (Below w0.heap.size w0 w3) := HB2.out.trans (hb3.mono HB2.out.size)
  clear hb3
  obtain ⟨x0, x1, x2⟩ := bx_cells3 (bx_keep X0.out HB3.out)
  go_wp2_with fail
  refine (HNW.out w3 HB3.out).mono ?_
  rintro e w4 (⟨hne, rfl, hb4⟩ | ⟨he0, aT, nT, cT, kT, wT, rfl, hbT, hdT, hbT2, htT⟩)
  · rw [HE.out] at hne
    rw [HE.out]
    have HB4 : Hid (Below w0.heap.size w0 w4) := HB3.out.trans (hb4.mono HB3.out.size)
    have hE : (E != 0) = true := by simpa using hne
    clear hb4 x0 x1 x2 hne
    obtain ⟨x0, x1, x2⟩ := bx_cells3 (bx_keep X0.out HB4.out)
    go_wp2_with fail
    refine (HFX.out w4 HB4.out).mono ?_
    rintro e w5 ⟨rfl, hb5⟩
    have HF := Lib.hid (HFI.out w5 (HB4.out.trans (hb5.mono HB4.out.size)))
    have hEE : (E == E) = true := by simp
    clear hb5 x0 x1 x2
    go_wp2_with fail
    first | exact HF.out | (go_ret; exact HF.out)
  · have hx0 : dfaErr x = 0 := he0
    rw [HE.out] at he0
    subst he0
    have hx := right_of hx0
    have HRX := Lib.hid hx
    have HX0 := Lib.hid hx0
    have HBT : Hid (Below w0.heap.size w0 wT) := HB3.out.trans (hbT.mono HB3.out.size)
    have HBT4 := Lib.hid hbT2
    have HDT := Lib.hid hdT
    have HB4 : Hid (Below w0.heap.size w0 w4) := HBT.out.trans (hbT2.mono HBT.out.size)
    have HTT := Lib.hid htT
    clear hbT hbT2 hdT htT x0 x1 x2 hx hx0 HNW
    obtain ⟨x0, x1, x2⟩ := bx_cells3 (bx_keep X0.out HB4.out)
    obtain ⟨tb, HTB⟩ := nameIt wT.heap.size
    rw [HTB.out] at HTT
    rw [HTB.out]
    go_wp2_with fail
    refine (HFX.out w4 HB4.out).mono ?_
    rintro e w5 ⟨rfl, hb5⟩
    have HB5 : Hid (Below w0.heap.size w0 w5) := HB4.out.trans (hb5.mono HB4.out.size)
    have HBT5 : Hid (Below wT.heap.size wT w5) := HBT4.out.trans (hb5.mono HBT4.out.size)
    have HT5 := Lib.hid (HTT.out.keep hb5)
    clear hb5 x0 x1 x2
    obtain ⟨b, off, vr, hae, c0, hsl⟩ := Rd.rowI_at HX.out.N HRX.out.states.1
    obtain ⟨r0, k0, rfl⟩ := hsl.form
    rw [ints_len, width_at HRX.out.states.1, Nat.add_zero] at c0
    have hn0 : (0 : Int) < (n : Int) := by have := HRX.out.states.1; have := HN.out; omega
    have HSY : Hid (∀ W, Below w5.heap.size w5 W → Calls Try.prog 6 #[.pointer (some ⟨tb, 0, none⟩)] W fun e w' => e = .returned (.int .i64 (x.width : Int)) ∧ Below W.heap.size W w') := fun W hb =>
      symbolsE (plainD x) (plain_right HRX.out) tb _ nT kT 0 0 W (HT5.out.keep hb) (HDT.out.N.below (HBT5.out.trans (hb.mono HBT5.out.size)))
    obtain ⟨m, HM⟩ := nameIt x.width
    rw [HM.out] at c0 HSY
    subst hae
    have hnm : ((m : Int) != (m : Int)) = false := by simp
    have k1 := aft_cell (bx_cells3 (bx_keep X0.out HB5.out)).2.2
    have k2 := aft_cell ((HB5.out.cell (lt_of_cell c0)).trans c0)
    go_wp2_with fail
    refine wp_region_after (by kernel_rfl) (by kernel_rfl) ?_
    repeat (go_big_quiet_step (with_reducible exact Calls.after (HSY.out _ (Aft.bel _))))
    refine wpQuiet_nil ?_
    rintro w6 ⟨⟨_, hb6⟩, rfl⟩
    have HB6 : Hid (Below w0.heap.size w0 w6) := HB5.out.trans (hb6.mono HB5.out.size)
    have HBT6 : Hid (Below wT.heap.size wT w6) := HBT5.out.trans (hb6.mono HBT5.out.size)
    have HT6 := Lib.hid (HT5.out.keep hb6)
    clear hb6 k1 k2 hsl
    go_wp2_with fail
    go_loopg [12, 76] wn (fun gg v12 v76 wr => ∃ (i : Nat) (mm : Int), i ≤ wn ∧ wn - i ≤ gg ∧ v12 = .int .i64 mm ∧ 0 ≤ mm ∧ mm ≤ i ∧ v76 = .int .i64 i ∧ Hid (Below wT.heap.size wT wr) ∧ Hid (TeachB tb (plainD x) (.slice aT (plainD x).acc.length cT) (.slice nT (plainD x).next.length kT) mm 0 wr))
    case atStart => exact ⟨0, 0, by omega, by omega, rfl, by omega, by omega, rfl, HBT6, HT6⟩
    case round =>
      clear HB6 HBT6 HT6
      obtain ⟨i, mm, hi, hg, rfl, hmm0, hmm1, rfl, HBr, HTr⟩ := hrel
      obtain ⟨w7, rfl⟩ : ∃ ww : World, ww = wr := ⟨_, rfl⟩
      have HB7 : Hid (Below w0.heap.size w0 w7) := HBT.out.trans (HBr.out.mono HBT.out.size)
      by_cases hlt : i < wn
      · have hlt' : (i : Int) < (wn : Int) := by omega
        have hi0 : (0 : Int) ≤ (i : Int) := by omega
        have hix : i < ws.length := by rw [HWN.out]; exact hlt
        obtain ⟨bw, ow, vi, hae, ci, hsl⟩ := Rd.rowI_at HWD.out hix
        obtain ⟨ai, ki, rfl⟩ := hsl.form
        rw [ints_len] at ci hsl
        have ci7 := (HB7.out.cell (lt_of_cell ci)).trans ci
        have HSL := Lib.hid hsl
        obtain ⟨wd, HWDI⟩ := nameIt (ws[i]'hix)
        rw [HWDI.out] at ci7 HSL
        obtain ⟨wl, HWL⟩ := nameIt wd.length
        rw [HWL.out] at ci7
        have hm1 : 0 ≤ mm ∧ mm + 1 ≤ 9223372036854775807 := by omega
        have HTK : Hid (∀ W, Below w7.heap.size w7 W → TeachB tb (plainD x) (.slice aT (plainD x).acc.length cT) (.slice nT (plainD x).next.length kT) mm 0 W) := fun W hb => HTr.out.keep hb
        have HCF : Hid (∀ W, Below w0.heap.size w0 W → Calls Try.prog 9 #[.slice ai wl ki, .func (.func 10) #[] #[.pointer (some ⟨w.heap.size, 0, none⟩)]] W fun e w' => e = .returned (.bool (wd.any (outP x))) ∧ Below W.heap.size W w') := fun W hb => by
          have hcf := containsFunc 10 #[.pointer (some ⟨w.heap.size, 0, none⟩)] (outP x) ai ki wd W (fun _ _ => rfl) (fun W' c _ hb' => by
            have hbb : Below w0.heap.size w0 W' := hb.trans (hb'.mono hb.size)
            have hx2 := (bx_cells3 (bx_keep X0.out hbb)).2.2
            rw [← HN.out] at hx2
            exact outLaw x HRX.out c w.heap.size _ cn W' hx2 (HX.out.below hbb).N) (HSL.out.keep hb)
          rw [HWL.out] at hcf
          exact hcf
        subst hae
        clear hsl ci
        by_cases hbig : 2000 < wl
        · have hbig' : (2000 : Int) < (wl : Int) := by omega
          go_wp2_with fail
          refine (memberLong wl tb ai ki w7 hbig).mono ?_
          rintro e w8 ⟨rfl, rfl⟩
          clear ci7
          go_wp2_with fail
          go_roundg (wn - (i + 1))
          case measure => omega
          case rel => exact ⟨i + 1, mm, by omega, by omega, rfl, by omega, by omega, by go_num, HBr, HTr⟩
        · have hbig' : ¬ (2000 : Int) < (wl : Int) := by omega
          have hwl : wd.length ≤ 2000 := by rw [HWL.out]; omega
          have HX0P := Lib.hid (plain_err HX0.out)
          have HDP : Hid (DfA (plainD x) aT nT cT kT w7) := HDT.out.below HBr.out
          have HSL7 : Hid (Sl w7 (.slice ai wd.length ki) (ints wd)) := HSL.out.keep HB7.out
          cases hany : wd.any (outP x) with
          | true =>
            have hmb := memberBad (plainD x) HX0P.out wd tb aT nT ai cT kT ki mm 0 w7 HTr.out HDP.out HSL7.out hwl hany
            rw [HWL.out] at hmb
            have HMB := Lib.hid hmb
            rw [hany] at HCF
            clear hmb hany hwl
            go_wp2_with fail
            refine HMB.out.mono ?_
            rintro e w8 ⟨rfl, hb8⟩
            have HB8 : Hid (Below w0.heap.size w0 w8) := HB7.out.trans (hb8.mono HB7.out.size)
            have HB78 := Lib.hid hb8
            clear hb8 ci7
            go_wp2_with fail
            refine (HCF.out w8 HB8.out).mono ?_
            rintro e w9 ⟨rfl, hb9⟩
            have HB79 := Lib.hid (HB78.out.trans (hb9.mono HB78.out.size))
            have HT9 := Lib.hid (HTK.out w9 HB79.out)
            have HBr9 : Hid (Below wT.heap.size wT w9) := HBr.out.trans (HB79.out.mono HBr.out.size)
            clear hb9
            go_wp2_with fail
            go_roundg (wn - (i + 1))
            case measure => omega
            case rel => exact ⟨i + 1, mm, by omega, by omega, rfl, by omega, by omega, by go_num, HBr9, HT9⟩
          | false =>
            have hme := memberE (plainD x) HX0P.out wd tb aT nT ai cT kT ki mm 0 hm1 w7 HTr.out HDP.out HSL7.out hwl hany
            have HEN : Hid (∀ W, Below w0.heap.size w0 W → Calls Try.prog 11 #[.agg #[.int .i64 x.start, .slice aa x.acc.length ca, .slice (some ⟨b, off, none⟩) x.next.length cn], .slice ai wd.length ki] W fun e w' => e = .returned (.bool (goodS x (runS x x.start wd))) ∧ Below W.heap.size W w') := fun W hb =>
              endsE x HRX.out wd (takes_any hany) aa (some ⟨b, off, none⟩) ai ca cn ki W (HX.out.below hb).A (HX.out.below hb).N (HSL.out.keep hb)
            rw [plain_run, HWL.out] at hme
            have hst2 : (plainD x).start = x.start := rfl
            rw [hst2] at hme
            have HME := Lib.hid hme
            rw [hany] at HCF
            obtain ⟨gd, HGD⟩ := nameIt (goodS x (runS x x.start wd))
            rw [HGD.out] at HME HEN
            simp only [HLA.out, HN.out, HST.out, HWL.out] at HEN
            have hgd : (gd != gd) = false := by cases gd <;> rfl
            have hw1 : IntKind.i64.wrap (mm + 1) = mm + 1 := IntWalk.i64_in _ (by omega)
            clear hme hany hwl hst2
            go_wp2_with fail
            refine HME.out.mono ?_
            rintro e w8 ⟨rfl, ht8, hb8⟩
            have HB78 : Hid (Below wT.heap.size wT w8) := HBr.out.trans (by rw [HTB.out]; exact hb8)
            have HB8 : Hid (Below w0.heap.size w0 w8) := HBT.out.trans (HB78.out.mono HBT.out.size)
            have HT8 := Lib.hid ht8
            clear hb8 ht8 ci7
            go_wp2_with fail
            refine (HCF.out w8 HB8.out).mono ?_
            rintro e w9 ⟨rfl, hb9⟩
            have HB9 : Hid (Below w0.heap.size w0 w9) := HB8.out.trans (hb9.mono HB8.out.size)
            have HB79 : Hid (Below wT.heap.size wT w9) := HB78.out.trans (hb9.mono HB78.out.size)
            have HT9 := Lib.hid (HT8.out.keep hb9)
            clear hb9
            obtain ⟨x0, x1, x2⟩ := bx_cells3 (bx_keep X0.out HB9.out)
            go_wp2_with fail
            refine (HEN.out w9 HB9.out).mono ?_
            rintro e w10 ⟨rfl, hb10⟩
            have HB10 : Hid (Below wT.heap.size wT w10) := HB79.out.trans (hb10.mono HB79.out.size)
            have HT10 := Lib.hid (HT9.out.keep hb10)
            clear hb10 x0 x1 x2
            cases gd
            all_goals
              go_wp2_with fail
              go_roundg (wn - (i + 1))
              case measure => omega
              case rel => exact ⟨i + 1, mm + 1, by omega, by omega, rfl, by omega, by omega, by go_num, HB10, HT10⟩
      · have hlt' : ¬ (i : Int) < (wn : Int) := by omega
        have hyk := bx_keep Y0.out HB7.out
        obtain ⟨y0, y1, y2⟩ := bx_cells3 hyk
        have HX0P := Lib.hid (plain_err HX0.out)
        have HDP : Hid (DfA (plainD x) aT nT cT kT w7) := HDT.out.below HBr.out
        have HYP : Hid (DfA y ba bn da dn w7) := HY.out.below HB7.out
        by_cases hwant : wantE x y = 0
        · have hy0 : dfaErr y = 0 := by
            by_cases h : dfaErr y = 0
            · exact h
            · unfold wantE at hwant; rw [if_neg h] at hwant; exact absurd hwant h
          have hwd : y.width = x.width := by
            by_cases h : y.width = x.width
            · exact h
            · unfold wantE at hwant; rw [if_pos hy0, if_neg h] at hwant; cases hwant
          have hry := right_of hy0
          have heq := equalE (plainD x) y HX0P.out hwant tb mm aT nT ba bn cT kT da dn w7 HTr.out HDP.out HYP.out (fun W hb => HDT.out.below (HBr.out.trans (by rw [HTB.out]; exact hb))) (fun W hb => HY.out.below (HBT.out.trans ((HBr.out.trans (by rw [HTB.out]; exact hb)).mono HBT.out.size)))
          have HAP : Hid (∀ W, Below w0.heap.size w0 W → Calls Try.prog 14 #[.agg #[.int .i64 x.start, .slice aa x.acc.length ca, .slice (some ⟨b, off, none⟩) x.next.length cn], .agg #[.int .i64 y.start, .slice ba y.acc.length da, .slice bn y.next.length dn]] W (ApartPost x y W)) := fun W hb =>
            apartE x y HRX.out hry hwd.symm aa (some ⟨b, off, none⟩) ba bn ca cn da dn W (HX.out.below hb) (HY.out.below hb)
          rw [HLA'.out, HN'.out, HST'.out] at heq
          simp only [HLA.out, HN.out, HST.out, HLA'.out, HN'.out, HST'.out] at HAP
          have HEQ := Lib.hid heq
          obtain ⟨b', off', vr', hae', d0, hsl'⟩ := Rd.rowI_at HY.out.N hry.states.1
          obtain ⟨r0', k0', rfl⟩ := hsl'.form
          rw [ints_len, width_at hry.states.1, Nat.add_zero, hwd, HM.out] at d0
          have hn0' : (0 : Int) < (n' : Int) := by have := hry.states.1; have := HN'.out; omega
          rw [hy0] at HFY
          subst hae'
          clear heq hsl' hry hwd hy0 hwant hyk
          go_wp2_with fail
          refine HEQ.out.mono ?_
          rintro e w8 ⟨ht8, hb8, hout⟩
          have HB78 : Hid (Below wT.heap.size wT w8) := HBr.out.trans (by rw [HTB.out]; exact hb8)
          have HB8 : Hid (Below w0.heap.size w0 w8) := HBT.out.trans (HB78.out.mono HBT.out.size)
          have HAS := Lib.hid (askedE (plainD x) tb _ _ mm 1 w8 ht8)
          clear ht8 hb8 y0 y1 y2
          obtain ⟨yes, a8, n8, c8, rfl, hfnd, halk⟩ : ∃ (yes : Bool) (a8 : Option Addr) (n8 c8 : Nat), e = .returned (.tuple #[.bool yes, .slice a8 n8 c8, .int .i64 0]) ∧ (yes = false → ∃ u, LeastW x y u ∧ u.length ≤ 40804 ∧ Sl w8 (.slice a8 n8 c8) (ints (List.map (fun (n : Nat) => (n : Int)) u))) ∧ (yes = true → Alike x y ∧ a8 = none ∧ n8 = 0 ∧ c8 = 0) := by
            rcases hout with ⟨u, a, n, cap, h1, h2, rfl, h3⟩ | ⟨h1, rfl⟩
            · exact ⟨false, a, n, cap, rfl, fun _ => ⟨u, least_left h1, h2, h3⟩, (fun e => by cases e)⟩
            · exact ⟨true, none, 0, 0, rfl, (fun e => by cases e), fun _ => ⟨alike_left h1, rfl, rfl, rfl⟩⟩
          have HFND := Lib.hid hfnd
          have HALK := Lib.hid halk
          clear hout hfnd halk
          go_wp2_with fail
          refine HAS.out.mono ?_
          rintro e w9 ⟨rfl, hb9⟩
          have HB89 := Lib.hid hb9
          have HB9 : Hid (Below w0.heap.size w0 w9) := HB8.out.trans (hb9.mono HB8.out.size)
          clear hb9
          obtain ⟨y0, y1, y2⟩ := bx_cells3 (bx_keep Y0.out HB9.out)
          go_wp2_with fail
          refine (HFY.out w9 HB9.out).mono ?_
          rintro e w10 ⟨rfl, hb10⟩
          have HB810 : Hid (Below w8.heap.size w8 w10) := HB89.out.trans (hb10.mono HB89.out.size)
          have HB10 : Hid (Below w0.heap.size w0 w10) := HB9.out.trans (hb10.mono HB9.out.size)
          clear hb10 y0 y1 y2
          obtain ⟨y0, y1, y2⟩ := bx_cells3 (bx_keep Y0.out HB10.out)
          obtain ⟨x0, x1, x2⟩ := bx_cells3 (bx_keep X0.out HB10.out)
          have q0 := (HB10.out.cell (lt_of_cell c0)).trans c0
          have q1 := (HB10.out.cell (lt_of_cell d0)).trans d0
          go_wp2_with fail
          go_quiet (fail)
          obtain ⟨w11, HW11⟩ := nameIt (w10.drewN nq)
          have HB811 : Hid (Below w8.heap.size w8 w11) := by rw [← HW11.out]; exact HB810.out.trans ((below_drewN _ _).mono HB810.out.size)
          have HB11 : Hid (Below w0.heap.size w0 w11) := by rw [← HW11.out]; exact HB10.out.trans ((below_drewN _ _).mono HB10.out.size)
          rw [HW11.out]
          clear y0 y1 y2 x0 x1 x2 q0 q1 HW11
          obtain ⟨y0, y1, y2⟩ := bx_cells3 (bx_keep Y0.out HB11.out)
          obtain ⟨x0, x1, x2⟩ := bx_cells3 (bx_keep X0.out HB11.out)
          go_wp2_with fail
          refine (HAP.out w11 HB11.out).mono ?_
          rintro e w12 ⟨hb12, hap⟩
          have HB812 : Hid (Below w8.heap.size w8 w12) := HB811.out.trans (hb12.mono HB811.out.size)
          have HB12 : Hid (Below w0.heap.size w0 w12) := HB11.out.trans (hb12.mono HB11.out.size)
          clear hb12 y0 y1 y2 x0 x1 x2
          have hmm : (mm == mm) = true := by simp
          cases yes with
          | false =>
            obtain ⟨u, hu1, hu2, hu3⟩ := HFND.out rfl
            rcases hap with ⟨u', a9, n9, c9, hv1, rfl, hv3⟩ | ⟨hv, -⟩
            · obtain rfl := leastW_one hu1 hv1
              have HSE2 := Lib.hid (sl_two (hu3.keep HB812.out) hv3)
              clear hu1 hu2 hu3 hv1 hv3
              go_wp2_with fail
              refine HSE2.out.mono ?_
              rintro e w13 ⟨rfl, hb13⟩
              have HF := Lib.hid (HFI.out w13 (HB12.out.trans (hb13.mono HB12.out.size)))
              clear hb13
              go_wp2_with fail
              first | exact HF.out | (go_ret; exact HF.out)
            · exfalso
              have h5 := hv u hu1.1 hu1.2.1
              unfold inf at h5
              omega
          | true =>
            obtain ⟨hal, rfl, rfl, rfl⟩ := HALK.out rfl
            rcases hap with ⟨u', a9, n9, c9, hv1, rfl, hv3⟩ | ⟨-, rfl⟩
            · exact absurd hal (leastW_not hv1)
            · have hnil : Sl w12 (.slice none 0 0) (ints []) := ⟨none, 0, rfl, Nat.le_refl _, by decide, fun _ => rfl, fun i hi => absurd hi (Nat.not_lt_zero _)⟩
              have HSE2 := Lib.hid (sl_two hnil hnil)
              clear hal hnil
              go_wp2_with fail
              refine HSE2.out.mono ?_
              rintro e w13 ⟨rfl, hb13⟩
              have HF := Lib.hid (HFI.out w13 (HB12.out.trans (hb13.mono HB12.out.size)))
              clear hb13
              go_wp2_with fail
              first | exact HF.out | (go_ret; exact HF.out)
        · have heq := equalBad (plainD x) y HX0P.out hwant tb mm 0 aT nT ba bn cT kT da dn w7 HTr.out HDP.out HYP.out
          rw [HLA'.out, HN'.out, HST'.out, want_left] at heq
          have HEQ := Lib.hid heq
          have HWQ : Hid (wantE x y = if dfaErr y = 0 then (if y.width = x.width then 0 else 1) else dfaErr y) := rfl
          have HRY : Hid (dfaErr y = 0 → Right y) := fun h => right_of h
          obtain ⟨E', HE'⟩ := nameIt (dfaErr y)
          obtain ⟨R, HR⟩ := nameIt (wantE x y)
          rw [HR.out, HE'.out] at HWQ
          rw [HR.out] at HEQ hwant
          rw [HE'.out] at HFY HRY
          clear heq hyk
          go_wp2_with fail
          refine HEQ.out.mono ?_
          rintro e w8 ⟨rfl, hb8⟩
          have HB8 : Hid (Below w0.heap.size w0 w8) := HB7.out.trans (hb8.mono HB7.out.size)
          have HAS := Lib.hid (askedE (plainD x) tb _ _ mm 0 w8 (HTr.out.keep hb8))
          clear hb8 y0 y1 y2
          go_wp2_with fail
          refine HAS.out.mono ?_
          rintro e w9 ⟨rfl, hb9⟩
          have HB9 : Hid (Below w0.heap.size w0 w9) := HB8.out.trans (hb9.mono HB8.out.size)
          clear hb9
          obtain ⟨y0, y1, y2⟩ := bx_cells3 (bx_keep Y0.out HB9.out)
          go_wp2_with fail
          refine (HFY.out w9 HB9.out).mono ?_
          rintro e w10 ⟨rfl, hb10⟩
          have HB10 : Hid (Below w0.heap.size w0 w10) := HB9.out.trans (hb10.mono HB9.out.size)
          clear hb10 y0 y1 y2
          have hmm : (mm == mm) = true := by simp
          by_cases hE0 : E' = 0
          · have hry := HRY.out hE0
            obtain ⟨b', off', vr', hae', d0, hsl'⟩ := Rd.rowI_at HY.out.N hry.states.1
            obtain ⟨r0', k0', rfl⟩ := hsl'.form
            rw [ints_len, width_at hry.states.1, Nat.add_zero] at d0
            have hn0' : (0 : Int) < (n' : Int) := by have := hry.states.1; have := HN'.out; omega
            rw [HM.out] at HWQ
            obtain ⟨m', HM'⟩ := nameIt y.width
            rw [HM'.out] at d0 HWQ
            have hne : ¬ m' = m := by
              intro e
              have := HWQ.out
              rw [if_pos hE0, if_pos e] at this
              exact hwant this
            have hR1 : R = 1 := by have := HWQ.out; rw [if_pos hE0, if_neg hne] at this; exact this
            have hneb : ((m' : Int) != (m : Int)) = true := by rw [bne_iff_ne]; omega
            subst hae' hE0 hR1
            obtain ⟨y0, y1, y2⟩ := bx_cells3 (bx_keep Y0.out HB10.out)
            obtain ⟨x0, x1, x2⟩ := bx_cells3 (bx_keep X0.out HB10.out)
            have q0 := (HB10.out.cell (lt_of_cell c0)).trans c0
            have q1 := (HB10.out.cell (lt_of_cell d0)).trans d0
            clear hsl' hry hne hwant
            go_wp2_with fail
            go_quiet (fail)
            have HF := Lib.hid (HFI.out (w10.drewN nq) (HB10.out.trans ((below_drewN _ _).mono HB10.out.size)))
            clear y0 y1 y2 x0 x1 x2 q0 q1
            go_wp2_with fail
            first | exact HF.out | (go_ret; exact HF.out)
          · have hR1 : R = E' := by have := HWQ.out; rw [if_neg hE0] at this; exact this
            subst hR1
            have hEb : (R == 0) = false := by simpa using hE0
            have hEn : (R != 0) = true := by simpa using hE0
            have hRR : (R == R) = true := by simp
            clear hE0 hwant
            go_wp2_with fail
            go_quiet (fail)
            have HF := Lib.hid (HFI.out (w10.drewN nq) (HB10.out.trans ((below_drewN _ _).mono HB10.out.size)))
            go_wp2_with fail
            first | exact HF.out | (go_ret; exact HF.out)
end Df
end Go.Proofs.Ytenkhjmedolknaa
