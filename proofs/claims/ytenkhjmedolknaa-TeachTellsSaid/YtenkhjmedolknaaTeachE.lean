/- Differ, Teacher.Equal. -/
import Derived.Test.YtenkhjmedolknaaTeachN
namespace Go.Proofs.Ytenkhjmedolknaa
open Go.RowKit
namespace Df

theorem plain_least' {x y : Dfa} {u : List Nat} (h : LeastW (plainD x) (plainD y) u) : LeastW x y u := plain_least h
theorem same_form {x y : Dfa} {w w' : World} {e : Ending} (h : SamePost x y w e w') : ∃ (sb : Bool) (a : Option Addr) (n cap : Nat), e = .returned (.tuple #[.bool sb, .slice a n cap, .int .i64 0]) ∧ Below w.heap.size w w' ∧
    (sb = false → ∃ u, LeastW x y u ∧ u.length ≤ 40804 ∧ Sl w' (.slice a n cap) (ints (List.map (fun (n : Nat) => (n : Int)) u))) ∧ (sb = true → Alike x y) := by
  obtain ⟨hb, ⟨u, a, n, cap, h1, h2, rfl, h3⟩ | ⟨h1, rfl⟩⟩ := h
  · exact ⟨false, a, n, cap, rfl, hb, fun _ => ⟨u, h1, h2, h3⟩, (fun e => by cases e)⟩
  · exact ⟨true, none, 0, 0, rfl, hb, (fun e => by cases e), fun _ => h1⟩
theorem cells33 {W w' : World} {b1 b2 : Nat} {T : TypeId} {a0 a1 a2 c0 c1 c2 : Value} (h1 : W.heap[b1]? = some (.cells #[a0, a1, a2] T (0, 0))) (h2 : W.heap[b2]? = some (.cells #[c0, c1, c2] T (0, 0))) (hb : Below W.heap.size W w') :
    w'.cell? ⟨b1, 0, none⟩ = some a0 ∧ w'.cell? ⟨b1, 0 + 1, none⟩ = some a1 ∧ w'.cell? ⟨b1, 0 + 2, none⟩ = some a2 ∧ w'.cell? ⟨b2, 0, none⟩ = some c0 ∧ w'.cell? ⟨b2, 0 + 1, none⟩ = some c1 ∧ w'.cell? ⟨b2, 0 + 2, none⟩ = some c2 := by
  obtain ⟨x0, x1, x2⟩ := bx_cells3 (bx_keep h1 hb)
  obtain ⟨y0, y1, y2⟩ := bx_cells3 (bx_keep h2 hb)
  exact ⟨x0, x1, x2, y0, y1, y2⟩
theorem cells53 {W w' : World} {b1 b2 : Nat} {T T' : TypeId} {a0 a1 a2 a3 a4 c0 c1 c2 : Value} (h1 : W.heap[b1]? = some (.cells #[a0, a1, a2, a3, a4] T (0, 0))) (h2 : W.heap[b2]? = some (.cells #[c0, c1, c2] T' (0, 0))) (hb : Below W.heap.size W w') :
    w'.cell? ⟨b1, 0, none⟩ = some a0 ∧ w'.cell? ⟨b1, 0 + 1, none⟩ = some a1 ∧ w'.cell? ⟨b1, 0 + 2, none⟩ = some a2 ∧ w'.cell? ⟨b2, 0, none⟩ = some c0 ∧ w'.cell? ⟨b2, 0 + 1, none⟩ = some c1 ∧ w'.cell? ⟨b2, 0 + 2, none⟩ = some c2 := by
  obtain ⟨x0, x1, x2, -, -⟩ := bx_cells5D (bx_keep h1 hb)
  obtain ⟨y0, y1, y2⟩ := bx_cells3 (bx_keep h2 hb)
  exact ⟨x0, x1, x2, y0, y1, y2⟩
/-- two valid automata of one width, the word that tells them apart -/
def DifferPost (x y : Dfa) (w : World) (e : Ending) (w' : World) : Prop :=
  Below w.heap.size w w' ∧ ((∃ u a n cap, LeastW x y u ∧ u.length ≤ 40804 ∧ e = .returned (.tuple #[.slice a n cap, .bool true]) ∧ Sl w' (.slice a n cap) (ints (List.map (fun (n : Nat) => (n : Int)) u))) ∨ (Alike x y ∧ e = .returned (.tuple #[.slice none 0 0, .bool false])))
set_option maxHeartbeats 4000000 in
set_option maxRecDepth 100000 in
theorem differE (x y : Dfa) (hx0 : dfaErr x = 0) (hy0 : dfaErr y = 0) (hwd : x.width = y.width) (aa an ba bn : Option Addr) (ca cn da dn : Nat) (w : World) (hX : DfA x aa an ca cn w) (hY : DfA y ba bn da dn w) :
    Calls Try.prog 20 #[.agg #[.int .i64 x.start, .slice aa x.acc.length ca, .slice an x.next.length cn], .agg #[.int .i64 y.start, .slice ba y.acc.length da, .slice bn y.next.length dn]] w (DifferPost x y w) := by
  obtain ⟨w0, HW0⟩ := nameIt ((w.alloc (.cells #[.int .i64 x.start, .slice aa x.acc.length ca, .slice an x.next.length cn] 25)).alloc (.cells #[.int .i64 y.start, .slice ba y.acc.length da, .slice bn y.next.length dn] 25))
  have hb0 : Below w.heap.size w w0 := by rw [← HW0.out]; exact ((Below.refl _ _).alloc (Nat.le_refl _) _).alloc (by simp) _
  have HB0 := Lib.hid hb0
  have X0 : Hid (w0.heap[w.heap.size]? = some (.cells #[.int .i64 x.start, .slice aa x.acc.length ca, .slice an x.next.length cn] 25 (0, 0))) := by
    rw [← HW0.out]; exact bx_keep (bx_new _ _ _ rfl) ((Below.refl _ _).alloc (Nat.le_refl _) _)
  have Y0 : Hid (w0.heap[w.heap.size + 1]? = some (.cells #[.int .i64 y.start, .slice ba y.acc.length da, .slice bn y.next.length dn] 25 (0, 0))) := by
    rw [← HW0.out]; exact bx_new _ _ _ (by simp)
  have HX := Lib.hid (hX.below hb0)
  have HY := Lib.hid (hY.below hb0)
  have HCX : Hid (∀ W, Below w0.heap.size w0 W → Calls Try.prog 16 #[.agg #[.int .i64 x.start, .slice aa x.acc.length ca, .slice an x.next.length cn]] W fun e w' => e = .returned (.int .i64 0) ∧ Below W.heap.size W w') := fun W hb => by
    have := checkE x aa an ca cn W (HX.out.below hb).A (HX.out.below hb).N
    rw [hx0] at this
    exact this
  have HCY : Hid (∀ W, Below w0.heap.size w0 W → Calls Try.prog 16 #[.agg #[.int .i64 y.start, .slice ba y.acc.length da, .slice bn y.next.length dn]] W fun e w' => e = .returned (.int .i64 0) ∧ Below W.heap.size W w') := fun W hb => by
    have := checkE y ba bn da dn W (HY.out.below hb).A (HY.out.below hb).N
    rw [hy0] at this
    exact this
  have HPX : Hid (∀ W, Below w0.heap.size w0 W → Calls Try.prog 17 #[.agg #[.int .i64 x.start, .slice aa x.acc.length ca, .slice an x.next.length cn]] W (PlainPost x W)) := fun W hb => plainE x (right_of hx0) aa an ca cn W (HX.out.below hb)
  have HPY : Hid (∀ W, Below w0.heap.size w0 W → Calls Try.prog 17 #[.agg #[.int .i64 y.start, .slice ba y.acc.length da, .slice bn y.next.length dn]] W (PlainPost y W)) := fun W hb => plainE y (right_of hy0) ba bn da dn W (HY.out.below hb)
  have HSM : Hid (∀ (a1 n1 : Option Addr) (c1 k1 : Nat) (a2 n2 : Option Addr) (c2 k2 : Nat) (W : World), DfA (plainD x) a1 n1 c1 k1 W → DfA (plainD y) a2 n2 c2 k2 W → Calls Try.prog 30 #[.agg #[.int .i64 x.start, .slice a1 (plainD x).acc.length c1, .slice n1 (plainD x).next.length k1], .agg #[.int .i64 y.start, .slice a2 (plainD y).acc.length c2, .slice n2 (plainD y).next.length k2]] W (SamePost (plainD x) (plainD y) W)) :=
    fun a1 n1 c1 k1 a2 n2 c2 k2 W h1 h2 => sameE (plainD x) (plainD y) (plain_err hx0) (plain_err hy0) (plain_flat x) (plain_flat y) hwd a1 n1 a2 n2 c1 k1 c2 k2 W h1 h2
  have HPOST : Hid (∀ (v : Value) (W : World), Below w0.heap.size w0 W → (∃ u a n cap, LeastW x y u ∧ u.length ≤ 40804 ∧ v = (.tuple #[.slice a n cap, .bool true]) ∧ Sl W (.slice a n cap) (ints (List.map (fun (n : Nat) => (n : Int)) u))) ∨ (Alike x y ∧ v = (.tuple #[.slice none 0 0, .bool false])) → DifferPost x y w (.returned v) W) := by
    intro v W hb h
    refine ⟨HB0.out.trans (hb.mono HB0.out.size), ?_⟩
    rcases h with ⟨u, a, n, cap, h1, h0, h2, h3⟩ | ⟨h1, h2⟩
    · exact .inl ⟨u, a, n, cap, h1, h0, by rw [h2], h3⟩
    · exact .inr ⟨h1, by rw [h2]⟩
  obtain ⟨PST, HP⟩ := nameIt (DifferPost x y w)
  rw [HP.out] at HPOST ⊢
  obtain ⟨la, HLA⟩ := nameIt x.acc.length
  obtain ⟨n, HN⟩ := nameIt x.next.length
  obtain ⟨st, HST⟩ := nameIt x.start
  obtain ⟨la', HLA'⟩ := nameIt y.acc.length
  obtain ⟨n', HN'⟩ := nameIt y.next.length
  obtain ⟨st', HST'⟩ := nameIt y.start
  simp only [HLA.out, HN.out, HST.out, HLA'.out, HN'.out, HST'.out] at HW0 X0 Y0 HCX HCY HPX HPY
  rw [HLA.out, HN.out, HST.out, HLA'.out, HN'.out, HST'.out]
  obtain ⟨x0, x1, x2⟩ := bx_cells3 X0.out
  clear hX hY hb0 hx0 hy0 hwd
  go_enter Try.func20, Try.ntmps20
  go_upto_region 1 with fail
  rw [HW0.out]
  go_wp2_with fail
  refine (HCX.out _ (Below.refl _ _)).mono ?_
  rintro e w1 ⟨rfl, hb1⟩
  have HB1 := Lib.hid hb1
  clear x0 x1 x2 hb1
  obtain ⟨y0, y1, y2⟩ := bx_cells3 (bx_keep Y0.out HB1.out)
  go_wp2_with fail
  refine (HCY.out _ HB1.out).mono ?_
  rintro e w2 ⟨rfl, hb2⟩
  have HB2 := Lib.hid (HB1.out.trans (hb2.mono HB1.out.size))
  clear y0 y1 y2 hb2
  obtain ⟨x0, x1, x2⟩ := bx_cells3 (bx_keep X0.out HB2.out)
  obtain ⟨y0, y1, y2⟩ := bx_cells3 (bx_keep Y0.out HB2.out)
  go_upto_region 3 with fail
  go_region_held3 (fun w' => w'.cell? ⟨w.heap.size, 0, none⟩ = some (.int .i64 st) ∧ w'.cell? ⟨w.heap.size, 0 + 1, none⟩ = some (.slice aa la ca) ∧ w'.cell? ⟨w.heap.size, 0 + 2, none⟩ = some (.slice an n cn) ∧ w'.cell? ⟨w.heap.size + 1, 0, none⟩ = some (.int .i64 st') ∧ w'.cell? ⟨w.heap.size + 1, 0 + 1, none⟩ = some (.slice ba la' da) ∧ w'.cell? ⟨w.heap.size + 1, 0 + 2, none⟩ = some (.slice bn n' dn))
    (first | exact cells33 X0.out Y0.out HB5.out | exact cells33 X0.out Y0.out HB4.out | exact cells33 X0.out Y0.out HB3.out | exact cells33 X0.out Y0.out HB2.out.drew | fail)
    (first
      | (go_at_call 17; (with_reducible refine (HPX.out _ HB2.out.drew).mono ?_); rintro e w3 ⟨a1, n1, c1, k1, rfl, hd1, hb3⟩; have HB3 : Hid (Below w0.heap.size w0 w3) := HB2.out.drew.trans (hb3.mono HB2.out.size); have HD1 := Lib.hid hd1; clear hd1 hb3)
      | (go_at_call 17; (with_reducible refine (HPY.out _ HB3.out).mono ?_); rintro e w4 ⟨a2, n2, c2, k2, rfl, hd2, hb4⟩; have HB4 : Hid (Below w0.heap.size w0 w4) := HB3.out.trans (hb4.mono HB3.out.size); have HD1' := Lib.hid (HD1.out.below hb4); have HD2 := Lib.hid hd2; clear hd2 hb4)
      | (go_at_call 30; (with_reducible refine (HSM.out a1 n1 c1 k1 a2 n2 c2 k2 _ HD1'.out HD2.out).mono ?_); rintro e w5 hsm0; obtain ⟨sb, a5, n5, c5, rfl, hb5, hsm, hsm2⟩ := same_form hsm0; have HB5 : Hid (Below w0.heap.size w0 w5) := HB4.out.trans (hb5.mono HB4.out.size); have HSP := Lib.hid hsm; have HSP2 := Lib.hid hsm2; clear hb5 hsm hsm2 hsm0)
      | fail)
  all_goals
    clear x0 x1 x2 y0 y1 y2
    cases sb with
    | true =>
      have HF := Lib.hid (HPOST.out _ w5 HB5.out (.inr ⟨plain_alike (HSP2.out rfl), rfl⟩))
      go_wp2_with fail
      first | exact HF.out | (refine bodyPost_ret (results_tmp2 Try.results20 _ _ _) rfl ?_; exact HF.out)
    | false =>
      obtain ⟨u, h1, h2, h3⟩ := HSP.out rfl
      have HF := Lib.hid (HPOST.out _ w5 HB5.out (.inl ⟨u, a5, n5, c5, plain_least h1, h2, rfl, h3⟩))
      clear h1 h2 h3
      go_wp2_with fail
      first | exact HF.out | (refine bodyPost_ret (results_tmp2 Try.results20 _ _ _) rfl ?_; exact HF.out)

theorem TeachB.keep {tb : Nat} {x : Dfa} {va vn : Value} {m e : Int} {w W : World} (h : TeachB tb x va vn m e w) (hb : Below w.heap.size w W) : TeachB tb x va vn m e W := by
  obtain ⟨T, h⟩ := h
  exact ⟨T, bx_keep h hb⟩
/-- what Equal and the law ask of the other automaton -/
noncomputable def wantE (x y : Dfa) : Int := if dfaErr y = 0 then (if y.width = x.width then 0 else 1) else dfaErr y
set_option maxHeartbeats 4000000 in
set_option maxRecDepth 100000 in
theorem equalBad (x y : Dfa) (hx0 : dfaErr x = 0) (hbad : wantE x y ≠ 0) (tb : Nat) (m e0 : Int) (aa an ba bn : Option Addr) (ca cn da dn : Nat) (w : World) (hT : TeachB tb x (.slice aa x.acc.length ca) (.slice an x.next.length cn) m e0 w) (hX : DfA x aa an ca cn w) (hY : DfA y ba bn da dn w) :
    Calls Try.prog 12 #[.pointer (some ⟨tb, 0, none⟩), .agg #[.int .i64 y.start, .slice ba y.acc.length da, .slice bn y.next.length dn]] w fun e w' => e = .returned (.tuple #[.bool false, .slice none 0 0, .int .i64 (wantE x y)]) ∧ Below w.heap.size w w' := by
  obtain ⟨w0, HW0⟩ := nameIt (w.alloc (.cells #[.int .i64 y.start, .slice ba y.acc.length da, .slice bn y.next.length dn] 25))
  have hb0 : Below w.heap.size w w0 := by rw [← HW0.out]; exact (Below.refl _ _).alloc (Nat.le_refl _) _
  have HB0 := Lib.hid hb0
  have Y0 : Hid (w0.heap[w.heap.size]? = some (.cells #[.int .i64 y.start, .slice ba y.acc.length da, .slice bn y.next.length dn] 25 (0, 0))) := by rw [← HW0.out]; exact bx_new _ _ _ rfl
  have HY := Lib.hid (hY.below hb0)
  have HCY := Lib.hid (checkE y ba bn da dn w0 HY.out.A HY.out.N)
  have HSY : Hid (∀ W, Below w.heap.size w W → Calls Try.prog 6 #[.pointer (some ⟨tb, 0, none⟩)] W fun e w' => e = .returned (.int .i64 (x.width : Int)) ∧ Below W.heap.size W w') := fun W hb =>
    symbolsE x (right_of hx0) tb _ an cn m e0 W (hT.keep hb) (hX.N.below hb)
  have HWT : Hid (wantE x y = if dfaErr y = 0 then (if y.width = x.width then 0 else 1) else dfaErr y) := rfl
  obtain ⟨E, HE⟩ := nameIt (dfaErr y)
  obtain ⟨R, HR⟩ := nameIt (wantE x y)
  have HHY : Hid (E = 0 → Right y) := fun h => right_of (HE.out.trans h)
  obtain ⟨PST, HP⟩ := nameIt (fun e w' => e = Ending.returned (.tuple #[.bool false, .slice none 0 0, .int .i64 R]) ∧ Below w.heap.size w w')
  rw [HR.out, HP.out]
  have HFI : Hid (∀ W, Below w0.heap.size w0 W → PST (.returned (.tuple #[.bool false, .slice none 0 0, .int .i64 R])) W) := by intro W hb; rw [← HP.out]; exact ⟨rfl, HB0.out.trans (hb.mono HB0.out.size)⟩
  rw [HR.out] at HWT hbad
  rw [HE.out] at HCY HWT
  have HYN := Lib.hid (fun (h : 0 < y.next.length) => Rd.rowI_at HY.out.N h)
  have HYW := Lib.hid (fun (h : 0 < y.next.length) => width_at h)
  obtain ⟨la', HLA'⟩ := nameIt y.acc.length
  obtain ⟨n', HN'⟩ := nameIt y.next.length
  obtain ⟨st', HST'⟩ := nameIt y.start
  simp only [HLA'.out, HN'.out, HST'.out] at HW0 Y0 HCY
  rw [HLA'.out, HN'.out, HST'.out]
  obtain ⟨y0, y1, y2⟩ := bx_cells3 Y0.out
  clear hX hb0 hx0 hY hT
  by_cases h0 : E = 0
  · have hr := HHY.out h0
    obtain ⟨b, off, vr, hae, c0, hsl⟩ := HYN.out hr.states.1
    obtain ⟨r0, k0, rfl⟩ := hsl.form
    rw [ints_len, HYW.out hr.states.1, Nat.add_zero] at c0
    have hnn : 0 < n' := by rw [← HN'.out]; exact hr.states.1
    have hnn' : (0 : Int) < (n' : Int) := by omega
    obtain ⟨wy, HWY⟩ := nameIt y.width
    obtain ⟨wx, HWX⟩ := nameIt x.width
    rw [HWY.out] at c0
    rw [HWY.out, HWX.out] at HWT
    rw [HWX.out] at HSY
    have hne : ¬ wy = wx := by
      intro e
      have := HWT.out
      rw [if_pos h0, if_pos e] at this
      exact hbad this
    have HR1 : Hid (R = 1) := by have := HWT.out; rw [if_pos h0, if_neg hne] at this; exact this
    have hneb : ((wy : Int) != (wx : Int)) = true := by rw [bne_iff_ne]; omega
    subst hae
    rw [h0] at HCY
    clear hsl hr hbad h0 hne
    go_enter Try.func12, Try.ntmps12
    go_upto_region 1 with fail
    rw [HW0.out]
    go_wp2_with fail
    refine HCY.out.mono ?_
    rintro e w1 ⟨rfl, hb1⟩
    have HB1 := Lib.hid hb1
    have HB01 : Hid (Below w.heap.size w w1) := HB0.out.trans (hb1.mono HB0.out.size)
    clear y0 y1 y2 hb1
    obtain ⟨y0, y1, y2⟩ := bx_cells3 (bx_keep Y0.out HB1.out)
    have q0 := (HB1.out.cell (lt_of_cell c0)).trans c0
    have k1 := aft_cell y2
    have k2 := aft_cell q0
    have HSY1 := Lib.hid (fun W (hb : Below w1.heap.size w1 W) => HSY.out W (HB01.out.trans (hb.mono HB01.out.size)))
    go_upto_region 4 with fail
    clear y0 y1 y2 q0
    refine wp_region_after (by kernel_rfl) (by kernel_rfl) ?_
    repeat (go_big_quiet_step (with_reducible exact Calls.after (HSY1.out _ (Aft.bel _))))
    refine wpQuiet_nil ?_
    rintro w7 ⟨⟨_, hb7⟩, rfl⟩
    have HFF := Lib.hid (HFI.out w7 (HB1.out.trans (hb7.mono HB1.out.size)))
    rw [HR1.out] at HFF
    clear hb7 k1 k2
    go_wp2_with fail
    first | exact HFF.out | (refine bodyPost_ret (results_tmp3 Try.results12 _ _ _) rfl ?_; exact HFF.out)
  · have HR1 : Hid (R = E) := by have := HWT.out; rw [if_neg h0] at this; exact this
    have hE : (E != 0) = true := by simpa using h0
    go_enter Try.func12, Try.ntmps12
    go_upto_region 1 with fail
    rw [HW0.out]
    go_wp2_with fail
    refine HCY.out.mono ?_
    rintro e w1 ⟨rfl, hb1⟩
    have HFF := Lib.hid (HFI.out w1 hb1)
    rw [HR1.out] at HFF
    clear y0 y1 y2 hb1
    go_wp2_with fail
    first | exact HFF.out | (refine bodyPost_ret (results_tmp3 Try.results12 _ _ _) rfl ?_; exact HFF.out)

/-- Equal, of a valid automaton of the teacher's width -/
def EqualPost (x y : Dfa) (tb : Nat) (va vn : Value) (m e0 : Int) (w : World) (e : Ending) (w' : World) : Prop :=
  TeachB tb x va vn m (e0 + 1) w' ∧ Below tb w w' ∧ ((∃ u a n cap, LeastW x y u ∧ u.length ≤ 40804 ∧ e = .returned (.tuple #[.bool false, .slice a n cap, .int .i64 0]) ∧ Sl w' (.slice a n cap) (ints (List.map (fun (n : Nat) => (n : Int)) u))) ∨ (Alike x y ∧ e = .returned (.tuple #[.bool true, .slice none 0 0, .int .i64 0])))
theorem differ_form {x y : Dfa} {w w' : World} {e : Ending} (h : DifferPost x y w e w') : ∃ (sb : Bool) (a : Option Addr) (n cap : Nat), e = .returned (.tuple #[.slice a n cap, .bool (!sb)]) ∧ Below w.heap.size w w' ∧
    (sb = false → ∃ u, LeastW x y u ∧ u.length ≤ 40804 ∧ Sl w' (.slice a n cap) (ints (List.map (fun (n : Nat) => (n : Int)) u))) ∧ (sb = true → Alike x y ∧ a = none ∧ n = 0 ∧ cap = 0) := by
  obtain ⟨hb, ⟨u, a, n, cap, h1, h2, rfl, h3⟩ | ⟨h1, rfl⟩⟩ := h
  · exact ⟨false, a, n, cap, rfl, hb, fun _ => ⟨u, h1, h2, h3⟩, (fun e => by cases e)⟩
  · exact ⟨true, none, 0, 0, rfl, hb, (fun e => by cases e), fun _ => ⟨h1, rfl, rfl, rfl⟩⟩
set_option maxHeartbeats 4000000 in
set_option maxRecDepth 100000 in
theorem equalE (x y : Dfa) (hx0 : dfaErr x = 0) (hgood : wantE x y = 0) (tb : Nat) (m : Int) (aa an ba bn : Option Addr) (ca cn da dn : Nat) (w : World) (hT : TeachB tb x (.slice aa x.acc.length ca) (.slice an x.next.length cn) m 0 w) (hX : DfA x aa an ca cn w) (hY : DfA y ba bn da dn w) (hXT : ∀ W, Below tb w W → DfA x aa an ca cn W) (hYT : ∀ W, Below tb w W → DfA y ba bn da dn W) :
    Calls Try.prog 12 #[.pointer (some ⟨tb, 0, none⟩), .agg #[.int .i64 y.start, .slice ba y.acc.length da, .slice bn y.next.length dn]] w (EqualPost x y tb (.slice aa x.acc.length ca) (.slice an x.next.length cn) m 0 w) := by
  have hy0 : dfaErr y = 0 := by
    by_cases h : dfaErr y = 0
    · exact h
    · unfold wantE at hgood; rw [if_neg h] at hgood; exact absurd hgood h
  have hwd : y.width = x.width := by
    by_cases h : y.width = x.width
    · exact h
    · unfold wantE at hgood; rw [if_pos hy0, if_neg h] at hgood; cases hgood
  have htb : tb < w.heap.size := by obtain ⟨T, h⟩ := hT; exact (Array.getElem?_eq_some_iff.1 h).1
  obtain ⟨w0, HW0⟩ := nameIt (w.alloc (.cells #[.int .i64 y.start, .slice ba y.acc.length da, .slice bn y.next.length dn] 25))
  have hb0 : Below w.heap.size w w0 := by rw [← HW0.out]; exact (Below.refl _ _).alloc (Nat.le_refl _) _
  have HB0 := Lib.hid hb0
  have Y0 : Hid (w0.heap[w.heap.size]? = some (.cells #[.int .i64 y.start, .slice ba y.acc.length da, .slice bn y.next.length dn] 25 (0, 0))) := by rw [← HW0.out]; exact bx_new _ _ _ rfl
  have HY := Lib.hid (hY.below hb0)
  have hcy := checkE y ba bn da dn w0 HY.out.A HY.out.N
  rw [hy0] at hcy
  have HCY := Lib.hid hcy
  have HSY : Hid (∀ W, Below w.heap.size w W → Calls Try.prog 6 #[.pointer (some ⟨tb, 0, none⟩)] W fun e w' => e = .returned (.int .i64 (x.width : Int)) ∧ Below W.heap.size W w') := fun W hb =>
    symbolsE x (right_of hx0) tb _ an cn m 0 W (hT.keep hb) (hX.N.below hb)
  have HDI : Hid (∀ W, Below tb w W → Calls Try.prog 20 #[.agg #[.int .i64 x.start, .slice aa x.acc.length ca, .slice an x.next.length cn], .agg #[.int .i64 y.start, .slice ba y.acc.length da, .slice bn y.next.length dn]] W (DifferPost x y W)) := fun W hb =>
    differE x y hx0 hy0 hwd.symm aa an ba bn ca cn da dn W (hXT W hb) (hYT W hb)
  have hr := right_of hy0
  obtain ⟨b, off, vr, hae, c0, hsl⟩ := Rd.rowI_at HY.out.N hr.states.1
  obtain ⟨r0, k0, rfl⟩ := hsl.form
  rw [ints_len, width_at hr.states.1, Nat.add_zero] at c0
  have hnn := hr.states.1
  obtain ⟨T, hTT⟩ := hT
  have HTT := Lib.hid hTT
  obtain ⟨PST, HP⟩ := nameIt (EqualPost x y tb (.slice aa x.acc.length ca) (.slice an x.next.length cn) m 0 w)
  have HFI : Hid (∀ (sb : Bool) a n cap w7 W, W.heap[tb]? = some (.cells #[.int .i64 x.start, .slice aa x.acc.length ca, .slice an x.next.length cn, .int .i64 m, .int .i64 1] T (0, 0)) → Below tb w W → DifferPost x y w7 (.returned (.tuple #[.slice a n cap, .bool (!sb)])) W → (sb = false → ∃ u, LeastW x y u ∧ u.length ≤ 40804 ∧ Sl W (.slice a n cap) (ints (List.map (fun (n : Nat) => (n : Int)) u))) → (sb = true → Alike x y ∧ a = none ∧ n = 0 ∧ cap = 0) → PST (.returned (.tuple #[.bool sb, .slice a n cap, .int .i64 0])) W) := by
    intro sb a n cap w7 W h1 h2 _ h3 h4
    rw [← HP.out]
    refine ⟨⟨T, h1⟩, h2, ?_⟩
    cases sb with
    | false =>
      obtain ⟨u, k1, k2, k3⟩ := h3 rfl
      exact .inl ⟨u, a, n, cap, k1, k2, rfl, k3⟩
    | true =>
      obtain ⟨k1, rfl, rfl, rfl⟩ := h4 rfl
      exact .inr ⟨k1, rfl⟩
  rw [HP.out]
  obtain ⟨wx, HWX⟩ := nameIt x.width
  rw [hwd, HWX.out] at c0
  rw [HWX.out] at HSY
  obtain ⟨la, HLA⟩ := nameIt x.acc.length
  obtain ⟨n, HN⟩ := nameIt x.next.length
  obtain ⟨st, HST⟩ := nameIt x.start
  obtain ⟨la', HLA'⟩ := nameIt y.acc.length
  obtain ⟨n', HN'⟩ := nameIt y.next.length
  obtain ⟨st', HST'⟩ := nameIt y.start
  simp only [HLA.out, HN.out, HST.out, HLA'.out, HN'.out, HST'.out] at HW0 Y0 HCY HDI HTT HFI hnn
  rw [HLA'.out, HN'.out, HST'.out]
  have hnn' : (0 : Int) < (n' : Int) := by omega
  obtain ⟨y0, y1, y2⟩ := bx_cells3 Y0.out
  have hne : ((wx : Int) != (wx : Int)) = false := by simp
  subst hae
  have HTB := Lib.hid htb
  clear hX hb0 hx0 hY hTT hsl hr hcy hy0 hgood hwd hXT hYT
  go_enter Try.func12, Try.ntmps12
  go_upto_region 1 with fail
  rw [HW0.out]
  go_wp2_with fail
  refine HCY.out.mono ?_
  rintro e w1 ⟨rfl, hb1⟩
  have HB1 := Lib.hid hb1
  have HB01 : Hid (Below w.heap.size w w1) := HB0.out.trans (hb1.mono HB0.out.size)
  clear y0 y1 y2 hb1
  obtain ⟨y0, y1, y2⟩ := bx_cells3 (bx_keep Y0.out HB1.out)
  have q0 := (HB1.out.cell (lt_of_cell c0)).trans c0
  have k1 := aft_cell y2
  have k2 := aft_cell q0
  have HSY1 := Lib.hid (fun W (hb : Below w1.heap.size w1 W) => HSY.out W (HB01.out.trans (hb.mono HB01.out.size)))
  go_upto_region 4 with fail
  clear y0 y1 y2 q0
  refine wp_region_after (by kernel_rfl) (by kernel_rfl) ?_
  repeat (go_big_quiet_step (with_reducible exact Calls.after (HSY1.out _ (Aft.bel _))))
  refine wpQuiet_nil ?_
  rintro w7 ⟨⟨_, hb7⟩, rfl⟩
  have HB7 : Hid (Below w.heap.size w w7) := HB01.out.trans (hb7.mono HB01.out.size)
  have Y7 := Lib.hid (bx_keep (bx_keep Y0.out HB1.out) hb7)
  have T7 := Lib.hid (bx_keep HTT.out HB7.out)
  clear hb7 k1 k2
  obtain ⟨t0, t1, t2, t3, t4⟩ := bx_cells5D T7.out
  have f4 : w7.frozen? ⟨tb, 4, none⟩ = false := by simp [World.frozen?, T7.out]
  have f4' : w7.frozen? ⟨tb, 0 + 4, none⟩ = false := by simp [World.frozen?, T7.out]
  obtain ⟨w8, HW8⟩ := nameIt (w7.setCell ⟨tb, 4, none⟩ (.int .i64 1))
  have T8 : Hid (w8.heap[tb]? = some (.cells #[.int .i64 st, .slice aa la ca, .slice an n cn, .int .i64 m, .int .i64 1] T (0, 0))) := by
    rw [← HW8.out]; exact bx_set T7.out 4 (.int .i64 1)
  have Y8 : Hid (w8.heap[w.heap.size]? = some (.cells #[.int .i64 st', .slice ba la' da, .slice (some ⟨b, off, none⟩) n' dn] 25 (0, 0))) := by
    rw [← HW8.out]; exact bx_other Y7.out (by have := HTB.out; omega) _ _
  have HB8 : Hid (Below tb w w8) := by rw [← HW8.out]; exact (HB7.out.mono (Nat.le_of_lt HTB.out)).setCell (p := ⟨tb, 4, none⟩) (Nat.le_refl _) _
  try simp only [hne]
  go_upto_region 7 with fail
  rw [HW8.out]
  clear t0 t1 t2 t3 t4 f4 f4'
  go_region_held3 (fun w' => w'.cell? ⟨tb, 0, none⟩ = some (.int .i64 st) ∧ w'.cell? ⟨tb, 0 + 1, none⟩ = some (.slice aa la ca) ∧ w'.cell? ⟨tb, 0 + 2, none⟩ = some (.slice an n cn) ∧ w'.cell? ⟨w.heap.size, 0, none⟩ = some (.int .i64 st') ∧ w'.cell? ⟨w.heap.size, 0 + 1, none⟩ = some (.slice ba la' da) ∧ w'.cell? ⟨w.heap.size, 0 + 2, none⟩ = some (.slice (some ⟨b, off, none⟩) n' dn))
    (first | exact cells53 T8.out Y8.out HBX9.out | exact cells53 T8.out Y8.out (Below.refl _ _).drew | fail)
    (first
      | (go_at_call 20; (with_reducible refine (HDI.out _ HB8.out.drew).mono ?_); rintro e w9 hd9; obtain ⟨sb, a5, n5, c5, rfl, hb9, hsm, hsm2⟩ := differ_form hd9; have HBX9 : Hid (Below w8.heap.size w8 w9) := (Below.refl _ _).drew.trans hb9; have HSP := Lib.hid hsm; have HSP2 := Lib.hid hsm2; have HD9 := Lib.hid hd9; clear hb9 hsm hsm2 hd9)
      | fail)
  all_goals
    have HF := Lib.hid (HFI.out sb a5 n5 c5 _ w9 (bx_keep T8.out HBX9.out) (HB8.out.trans (HBX9.out.mono (Nat.le_trans (Nat.le_of_lt HTB.out) HB8.out.size))) HD9.out HSP.out HSP2.out)
    go_wp2_with fail
    first | exact HF.out | (refine bodyPost_ret (results_tmp3 Try.results12 _ _ _) rfl ?_; first | exact HF.out | (rw [Bool.not_not]; exact HF.out))
end Df
end Go.Proofs.Ytenkhjmedolknaa
