/- The contract of dfa.Run, Teacher.Member. -/
import Derived.Test.YtenkhjmedolknaaDfaCheck
import Derived.Test.YtenkhjmedolknaaDfaEnds
import Derived.Test.YtenkhjmedolknaaTeacher
namespace Go.Proofs.Ytenkhjmedolknaa
open Go.RowKit
namespace Df

/-- an automaton that lies in memory -/
structure DfA (x : Dfa) (aa an : Option Addr) (ca cn : Nat) (w : World) : Prop where
  A : Sl w (.slice aa x.acc.length ca) (ints x.acc)
  N : Rd AnyB w (.sl (x.next.map D.ints)) [.slice an x.next.length cn]
theorem DfA.below {x : Dfa} {aa an : Option Addr} {ca cn : Nat} {w w' : World} (h : DfA x aa an ca cn w) (hb : Below w.heap.size w w') : DfA x aa an ca cn w' := ⟨h.A.keep hb, h.N.below hb⟩
def runV (x : Dfa) (ws : List Int) : Int := if ws.any (outP x) then 0 else atS x (runS x x.start ws)
def runErr (x : Dfa) (ws : List Int) : Int := if ws.any (outP x) then 1 else 0

set_option maxHeartbeats 4000000 in
theorem runE (x : Dfa) (h0 : dfaErr x = 0) (ws : List Int) (hlen : ws.length ≤ 4000) (aa an aw : Option Addr) (ca cn cw : Nat) (w : World) (hD : DfA x aa an ca cn w) (hW : Sl w (.slice aw ws.length cw) (ints ws)) :
    Calls Try.prog 18 #[.agg #[.int .i64 x.start, .slice aa x.acc.length ca, .slice an x.next.length cn], .slice aw ws.length cw] w fun e w' => e = .returned (.tuple #[.int .i64 (runV x ws), .int .i64 (runErr x ws)]) ∧ Below w.heap.size w w' := by
  have hx := right_of h0
  obtain ⟨w0, HW0⟩ := nameIt (w.alloc (.cells #[.int .i64 x.start, .slice aa x.acc.length ca, .slice an x.next.length cn] 25))
  have hb0 : Below w.heap.size w w0 := by rw [← HW0.out]; exact (Below.refl _ _).alloc (Nat.le_refl _) _
  have HB0 := Lib.hid hb0
  have X0 : w0.heap[w.heap.size]? = some (.cells #[.int .i64 x.start, .slice aa x.acc.length ca, .slice an x.next.length cn] 25 (0, 0)) := by rw [← HW0.out]; exact bx_new _ _ _ rfl
  have HX0 := Lib.hid X0
  obtain ⟨x0, x1, x2⟩ := bx_cells3 X0
  have HD := Lib.hid (hD.below hb0)
  have HWW := Lib.hid (hW.keep hb0)
  have HCK : Hid (∀ W, Below w0.heap.size w0 W → Calls Try.prog 16 #[.agg #[.int .i64 x.start, .slice aa x.acc.length ca, .slice an x.next.length cn]] W fun e w' => e = .returned (.int .i64 0) ∧ Below W.heap.size W w') := fun W hb => by
    have := checkE x aa an ca cn W (HD.out.below hb).A (HD.out.below hb).N
    rw [h0] at this
    exact this
  have HAT := Lib.hid (fun (i : Nat) (h : i < ws.length) => @runS_take x x.start ws i h)
  have HIN := Lib.hid (fun (i : Nat) => runS_in hx (ws.take i) (s := x.start) ⟨by have := hx.start; omega, hx.start.2⟩)
  have HST0 : Hid (runS x x.start (ws.take 0) = x.start) := rfl
  have HX := Lib.hid hx
  have HTO : Hid (∀ W, Below w0.heap.size w0 W → ∀ s, inS x s → ∀ c : Nat, c < x.width → Calls Try.prog 28 #[.agg #[.int .i64 x.start, .slice aa x.acc.length ca, .slice an x.next.length cn], .int .i64 s, .int .i64 (c : Int)] W fun e w' => e = .returned (.int .i64 (toS x s c)) ∧ Below W.heap.size W w') := fun W hb s hs c hc =>
    toE x hx s hs c hc _ an cn W (HD.out.below hb).N
  have HATE : Hid (∀ W, Below w0.heap.size w0 W → ∀ s, inS x s → Calls Try.prog 29 #[.agg #[.int .i64 x.start, .slice aa x.acc.length ca, .slice an x.next.length cn], .int .i64 s] W fun e w' => e = .returned (.int .i64 (atS x s)) ∧ Below W.heap.size W w') := fun W hb s hs =>
    atE x hx s hs _ aa ca W (HD.out.below hb).A
  have HCF : Hid (∀ W, Below w0.heap.size w0 W → Calls Try.prog 9 #[.slice aw ws.length cw, .func (.func 27) #[] #[.pointer (some ⟨w.heap.size, 0, none⟩)]] W fun e w' => e = .returned (.bool (ws.any (outP x))) ∧ Below W.heap.size W w') := fun W hb =>
    containsFunc 27 #[.pointer (some ⟨w.heap.size, 0, none⟩)] (outP x) aw cw ws W (fun _ _ => rfl) (fun W' c _ hb' => by
      have hbb : Below w0.heap.size w0 W' := hb.trans (hb'.mono hb.size)
      exact outRun x hx c w.heap.size an cn W' ((hbb.cell (lt_of_cell x2)).trans x2) (HD.out.below hbb).N) (HWW.out.keep hb)
  have HRV : Hid (ws.any (outP x) = false → runV x ws = atS x (runS x x.start ws) ∧ runErr x ws = 0 ∧ ∀ i (h : i < ws.length), ∃ k : Nat, ws[i] = (k : Int) ∧ k < x.width) := by
    intro h
    refine ⟨by unfold runV; rw [h]; rfl, by unfold runErr; rw [h]; rfl, fun i hi => ?_⟩
    have h1 : outP x ws[i] = false := by
      rw [List.any_eq_false] at h
      simpa using h ws[i] (List.getElem_mem hi)
    unfold outP at h1
    simp at h1
    exact ⟨ws[i].toNat, by omega, by omega⟩
  have HRT : Hid (ws.any (outP x) = true → runV x ws = 0 ∧ runErr x ws = 1) := by
    intro h
    exact ⟨by unfold runV; rw [h]; rfl, by unfold runErr; rw [h]; rfl⟩
  obtain ⟨oB, HOB⟩ := nameIt (ws.any (outP x))
  rw [HOB.out] at HRV HRT HCF
  obtain ⟨rv, HRVN⟩ := nameIt (runV x ws)
  obtain ⟨re, HREN⟩ := nameIt (runErr x ws)
  rw [HRVN.out, HREN.out] at HRV HRT
  rw [HRVN.out, HREN.out]
  obtain ⟨la, HLA⟩ := nameIt x.acc.length
  obtain ⟨n, HN⟩ := nameIt x.next.length
  obtain ⟨st, HST⟩ := nameIt x.start
  obtain ⟨wl, HWL⟩ := nameIt ws.length
  rw [HLA.out] at x1
  rw [HN.out] at x2
  rw [HST.out] at x0 HST0 HRV
  simp only [HST.out] at HAT HIN
  rw [HLA.out, HN.out, HST.out] at HW0 HX0 HCK
  simp only [HLA.out, HN.out, HST.out] at HTO HATE
  rw [HWL.out] at HCF hlen
  have hwn : (wl : Int) ≤ 4000 := by omega
  have hwn' : ¬ (4000 : Int) < (wl : Int) := by omega
  rw [HLA.out, HN.out, HST.out, HWL.out]
  clear hD hW hb0 X0 h0 hx
  go_enter Try.func18, Try.ntmps18
  go_upto_region 1 with fail
  rw [HW0.out]
  go_wp2_with fail
  refine (HCK.out _ (Below.refl _ _)).mono ?_
  rintro e w1 ⟨rfl, hb1⟩
  have HB1 := Lib.hid hb1
  have y0 := (hb1.cell (lt_of_cell x0)).trans x0
  have y1 := (hb1.cell (lt_of_cell x1)).trans x1
  have y2 := (hb1.cell (lt_of_cell x2)).trans x2
  clear hb1 x0 x1 x2
  go_wp2_with fail
  refine (HCF.out _ HB1.out).mono ?_
  rintro e w2 ⟨rfl, hb2⟩
  have HB2 := Lib.hid (HB1.out.trans (hb2.mono HB1.out.size))
  have x0 := (hb2.cell (lt_of_cell y0)).trans y0
  have x1 := (hb2.cell (lt_of_cell y1)).trans y1
  have x2 := (hb2.cell (lt_of_cell y2)).trans y2
  clear hb2 y0 y1 y2
  cases oB with
  | true =>
    obtain ⟨h1, h2⟩ := HRT.out rfl
    subst h1 h2
    go_wp2_with fail
    refine bodyPost_ret (results_tmp2 Try.results18 _ _ _) rfl ?_
    exact ⟨rfl, HB0.out.trans (HB2.out.mono HB0.out.size)⟩
  | false =>
    obtain ⟨h1, h2, h3⟩ := HRV.out rfl
    have HV := Lib.hid h1
    have HVK := Lib.hid h3
    subst h2
    clear h1 h3 HRV HRT
    go_wp2_with fail
    go_loopg [7, 9, 25] wl (fun gg v7 v9 v25 wr => ∃ i : Nat, i ≤ wl ∧ wl - i ≤ gg ∧ v7 = .int .i64 (runS x st (ws.take i)) ∧ v25 = .int .i64 i ∧ Hid (Below w0.heap.size w0 wr))
    case atStart => exact ⟨0, by omega, by omega, by rw [HST0.out], rfl, HB2⟩
    case round =>
      obtain ⟨i, hi, hg, rfl, rfl, HBr⟩ := hrel
      have hins := HIN.out i
      by_cases hlt : i < wl
      · have hlt' : (i : Int) < (wl : Int) := by omega
        have hi0 : (0 : Int) ≤ (i : Int) := by omega
        have hlx : i < ws.length := by rw [HWL.out]; exact hlt
        obtain ⟨bw, ow, hae, hca⟩ := (HWW.out.keep HBr.out).at hlx
        have cw0 := hca i (by rw [ints_len]; exact hlx)
        rw [ints_get] at cw0
        have hnx := HAT.out i hlx
        obtain ⟨k, hk, hkw⟩ := HVK.out i hlx
        rw [hk] at cw0 hnx
        rw [Int.toNat_natCast] at hnx
        have HNX := Lib.hid hnx
        obtain ⟨y0, y1, y2⟩ := bx_cells3 (bx_keep HX0.out HBr.out)
        obtain ⟨s, HS⟩ := nameIt (runS x st (ws.take i))
        obtain ⟨s', HS'⟩ := nameIt (runS x st (ws.take (i + 1)))
        rw [HS.out] at hins HNX ⊢
        rw [HS'.out] at HNX
        subst hae
        clear hca hnx hk
        go_wp2_with fail
        refine (HTO.out _ HBr.out s hins k hkw).mono ?_
        rintro e w5 ⟨rfl, hb5⟩
        have HB5 := Lib.hid (HBr.out.trans (hb5.mono HBr.out.size))
        clear hb5 cw0 y0 y1 y2
        go_wp2_with fail
        go_roundg (wl - (i + 1))
        case measure => omega
        case rel => exact ⟨i + 1, by omega, by omega, by rw [HS'.out, HNX.out], by go_num, HB5⟩
      · obtain rfl : i = wl := by omega
        have hlt' : ¬ (i : Int) < (i : Int) := by omega
        have htk : ws.take i = ws := by rw [← HWL.out]; exact List.take_length
        rw [htk] at hins ⊢
        obtain ⟨y0, y1, y2⟩ := bx_cells3 (bx_keep HX0.out HBr.out)
        obtain ⟨s, HS⟩ := nameIt (runS x st ws)
        rw [HS.out] at hins HV ⊢
        go_wp2_with fail
        refine (HATE.out _ HBr.out s hins).mono ?_
        rintro e w5 ⟨rfl, hb5⟩
        have HB5 := Lib.hid (HBr.out.trans (hb5.mono HBr.out.size))
        clear hb5 y0 y1 y2
        go_wp2_with fail
        refine bodyPost_ret (results_tmp2 Try.results18 _ _ _) rfl ?_
        exact ⟨by rw [HV.out]; rfl, HB0.out.trans (HB5.out.mono HB0.out.size)⟩

theorem goodS_atS (x : Dfa) (s : Int) : decide (0 ≤ atS x s) = goodS x s := (goodS_at x s).symm

set_option maxHeartbeats 4000000 in
/-- Member, of a word that is not too long -/
theorem memberE (x : Dfa) (h0 : dfaErr x = 0) (ws : List Int) (tb : Nat) (aa an aw : Option Addr) (ca cn cw : Nat) (m e0 : Int) (hm : 0 ≤ m ∧ m + 1 ≤ 9223372036854775807) (w : World) (hT : TeachB tb x (.slice aa x.acc.length ca) (.slice an x.next.length cn) m e0 w) (hD : DfA x aa an ca cn w) (hW : Sl w (.slice aw ws.length cw) (ints ws)) (hlen : ws.length ≤ 2000) (hno : ws.any (outP x) = false) :
    Calls Try.prog 8 #[.pointer (some ⟨tb, 0, none⟩), .slice aw ws.length cw] w fun e w' => e = .returned (.tuple #[.bool (goodS x (runS x x.start ws)), .int .i64 0]) ∧ TeachB tb x (.slice aa x.acc.length ca) (.slice an x.next.length cn) (m + 1) e0 w' ∧ Below tb w w' := by
  obtain ⟨T, X⟩ := hT
  have HX := Lib.hid X
  obtain ⟨x0, x1, x2, x3, x4⟩ := bx_cells5D X
  have htb : tb < w.heap.size := lt_of_cell x0
  have HTB := Lib.hid htb
  have HRUN := Lib.hid (runE x h0 ws (by omega) aa an aw ca cn cw w hD hW)
  have hv : runV x ws = atS x (runS x x.start ws) := by unfold runV; rw [hno]; rfl
  have he : runErr x ws = 0 := by unfold runErr; rw [hno]; rfl
  rw [hv, he] at HRUN
  have HG := Lib.hid (goodS_atS x (runS x x.start ws))
  obtain ⟨g, HGN⟩ := nameIt (goodS x (runS x x.start ws))
  obtain ⟨v, HV⟩ := nameIt (atS x (runS x x.start ws))
  rw [HGN.out, HV.out] at HG
  rw [HV.out] at HRUN
  obtain ⟨la, HLA⟩ := nameIt x.acc.length
  obtain ⟨n, HN⟩ := nameIt x.next.length
  obtain ⟨st, HST⟩ := nameIt x.start
  obtain ⟨wl, HWL⟩ := nameIt ws.length
  rw [HLA.out, HN.out, HST.out, HWL.out] at HRUN
  rw [HLA.out, HN.out, HST.out] at HX
  rw [HLA.out] at x1
  rw [HN.out] at x2
  rw [HST.out] at x0
  rw [HWL.out] at hlen
  obtain ⟨PST, HP⟩ := nameIt (fun e w' => e = Ending.returned (.tuple #[.bool g, .int .i64 0]) ∧ TeachB tb x (.slice aa la ca) (.slice an n cn) (m + 1) e0 w' ∧ Below tb w w')
  rw [HGN.out, HLA.out, HN.out, HWL.out, HP.out]
  have hwn : ¬ (2000 : Int) < (wl : Int) := by omega
  obtain ⟨hm0, hm1⟩ := hm
  have HM1 : IntKind.i64.wrap (m + 1) = m + 1 := IntWalk.i64_in _ (by omega)
  obtain ⟨m1, HM1N⟩ := nameIt (m + 1)
  rw [HM1N.out] at HM1
  clear X h0 hD hW hv he htb
  go_enter Try.func8, Try.ntmps8
  go_wp2_with fail
  refine HRUN.out.mono ?_
  rintro e w1 ⟨rfl, hb1⟩
  have HB1 := Lib.hid hb1
  have X1 := bx_keep HX.out hb1
  have HX1 := Lib.hid X1
  clear x0 x1 x2 x3 x4
  obtain ⟨x0, x1, x2, x3, x4⟩ := bx_cells5D X1
  have hfr : w1.frozen? ⟨tb, 3, none⟩ = false := by simp [World.frozen?, X1]
  have hfr' : w1.frozen? ⟨tb, 0 + 3, none⟩ = false := by simp [World.frozen?, X1]
  clear X1 hb1
  go_wp2_with fail
  rw [← HP.out]
  refine ⟨?_, ⟨T, ?_⟩, ?_⟩
  · rw [← HG.out]; rfl
  · rw [HST.out, HM1N.out]; exact bx_set HX1.out 3 (.int .i64 m1)
  · exact (HB1.out.mono (Nat.le_of_lt HTB.out)).setCell (Nat.le_refl _) _

set_option maxHeartbeats 4000000 in
theorem memberLong (wl : Nat) (tb : Nat) (aw : Option Addr) (cw : Nat) (w : World) (hlen : 2000 < wl) :
    Calls Try.prog 8 #[.pointer (some ⟨tb, 0, none⟩), .slice aw wl cw] w fun e w' => e = .returned (.tuple #[.bool false, .int .i64 2]) ∧ w = w' := by
  have hwn : (2000 : Int) < (wl : Int) := by omega
  go_enter Try.func8, Try.ntmps8
  go_wp2_with fail
  refine bodyPost_ret (results_tmp2 Try.results8 _ _ _) rfl ?_
  exact ⟨rfl, rfl⟩

set_option maxHeartbeats 4000000 in
theorem memberBad (x : Dfa) (h0 : dfaErr x = 0) (ws : List Int) (tb : Nat) (aa an aw : Option Addr) (ca cn cw : Nat) (m e0 : Int) (w : World) (hT : TeachB tb x (.slice aa x.acc.length ca) (.slice an x.next.length cn) m e0 w) (hD : DfA x aa an ca cn w) (hW : Sl w (.slice aw ws.length cw) (ints ws)) (hlen : ws.length ≤ 2000) (hno : ws.any (outP x) = true) :
    Calls Try.prog 8 #[.pointer (some ⟨tb, 0, none⟩), .slice aw ws.length cw] w fun e w' => e = .returned (.tuple #[.bool false, .int .i64 1]) ∧ Below w.heap.size w w' := by
  obtain ⟨T, X⟩ := hT
  obtain ⟨x0, x1, x2, x3, x4⟩ := bx_cells5D X
  have HRUN := Lib.hid (runE x h0 ws (by omega) aa an aw ca cn cw w hD hW)
  have hv : runV x ws = 0 := by unfold runV; rw [hno]; rfl
  have he : runErr x ws = 1 := by unfold runErr; rw [hno]; rfl
  rw [hv, he] at HRUN
  obtain ⟨la, HLA⟩ := nameIt x.acc.length
  obtain ⟨n, HN⟩ := nameIt x.next.length
  obtain ⟨st, HST⟩ := nameIt x.start
  obtain ⟨wl, HWL⟩ := nameIt ws.length
  rw [HLA.out, HN.out, HST.out, HWL.out] at HRUN
  rw [HLA.out] at x1
  rw [HN.out] at x2
  rw [HST.out] at x0
  rw [HWL.out] at hlen ⊢
  have hwn : ¬ (2000 : Int) < (wl : Int) := by omega
  clear X h0 hD hW hv he
  go_enter Try.func8, Try.ntmps8
  go_wp2_with fail
  refine HRUN.out.mono ?_
  rintro e w1 ⟨rfl, hb1⟩
  have HB1 := Lib.hid hb1
  clear hb1 x0 x1 x2 x3 x4
  go_wp2_with fail
  refine bodyPost_ret (results_tmp2 Try.results8 _ _ _) rfl ?_
  exact ⟨rfl, HB1.out⟩
end Df
end Go.Proofs.Ytenkhjmedolknaa
