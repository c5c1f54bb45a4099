/- For every input of bulk at most 1048576 the law RankRefuses returns true, and its arguments read afterwards as before. Condition: the bulk of the arguments. -/
import Derived.Test.YtbnpemgmdnghgaaJRankRefusesRow7
import Derived.Test.YtbnpemgmdnghgaaJRankRefusesRow3
import Derived.Deep.RegionHeld3
import Derived.Test.YtbnpemgmdnghgaaJRankRefusesRow1
import Derived.Test.YtbnpemgmdnghgaaJRankRefusesRow6
import Derived.Test.YtbnpemgmdnghgaaRows
import Derived.ChangeArms
import Derived.ChangeSame
import Derived.SizedLaws
import Derived.Deep.Slices
import Derived.Lib.SmallJoins
import Derived.Test.YtbnpemgmdnghgaaJRankRefusesRow2
import Derived.OpenShut
import Derived.ChangeOld
import Derived.Carry
import Derived.JoinedCond
namespace Go.Proofs.Ytbnpemgmdnghgaa
open Go.RowKit
namespace Cs

/-- what rank.Of answers -/
def RkV (g : Gram) (t : Tree) (n i c : Int) : Prop :=
  (checkT g t ≠ 0 ∧ n = 0 ∧ i = 0 ∧ c = checkT g t) ∨ (checkT g t = 0 ∧ rootS g t ≠ ⟨false, g.start⟩ ∧ n = 0 ∧ i = 0 ∧ c = 3) ∨
  (checkT g t = 0 ∧ rootS g t = ⟨false, g.start⟩ ∧ ((errC g (wl t) ≠ 0 ∧ n = 0 ∧ i = 0 ∧ c = errC g (wl t)) ∨
    (errC g (wl t) = 0 ∧ ((c = 9 ∧ n = 0 ∧ i = 0) ∨ (c = 2 ∧ n = 0 ∧ i = 0) ∨ (c = 0 ∧ n = (wl t : Int))))))
def RkPost (g : Gram) (t : Tree) (w : World) (e : Ending) (w' : World) : Prop := Below w.heap.size w w' ∧ ∃ n i c : Int, e = .returned (.tuple #[.int .i64 n, .int .i64 i, .int .i64 c]) ∧ RkV g t n i c
/-- rank.count's answer, one form -/
def CntF (g : Gram) (vr : Value) (n : Int) (w : World) (p : Value) (c : Int) (w' : World) : Prop :=
  (errC g n ≠ 0 ∧ c = errC g n) ∨ (errC g n = 0 ∧ (c = 9 ∨ c = 2 ∨ (c = 0 ∧ ∃ (N n' : Nat) (S : Nat → Nat → Bool) (d : Cid) (w1 : World), OkC g N ∧ n = (n' : Int) ∧ n' ≤ 24 ∧ p = .pointer (some ⟨d.cb, 0, none⟩) ∧ Below w.heap.size w w1 ∧ CntR g vr N n' d S w1 w')))
theorem cntF_of {g : Gram} {vr : Value} {n : Int} {w w' : World} {e : Ending} (h : CntPost g vr n w e w') : Below w.heap.size w w' ∧ ∃ (p : Value) (k c : Int), e = .returned (.tuple #[p, .int .i64 k, .int .i64 c]) ∧ CntF g vr n w p c w' := by
  obtain ⟨hb, ⟨h1, rfl⟩ | ⟨h1, N, n', S, h2, h3, h4, h5, ⟨h6, rfl⟩ | ⟨h6, h7, rfl⟩ | ⟨h6, h7, d, w1, rfl, h8, h9⟩⟩⟩ := h
  · exact ⟨hb, _, _, _, rfl, .inl ⟨h1, rfl⟩⟩
  · exact ⟨hb, _, _, _, rfl, .inr ⟨h1, .inl rfl⟩⟩
  · exact ⟨hb, _, _, _, rfl, .inr ⟨h1, .inr (.inl rfl)⟩⟩
  · exact ⟨hb, _, _, _, rfl, .inr ⟨h1, .inr (.inr ⟨rfl, N, n', S, d, w1, h2, h3, h4, rfl, h8, h9⟩)⟩⟩
theorem CntR.cbl {g : Gram} {vr : Value} {N n : Nat} {d : Cid} {S : Nat → Nat → Bool} {w1 W : World} (h : CntR g vr N n d S w1 W) : d.cb < W.heap.size := by
  obtain ⟨C, hc⟩ := h
  exact hc.ci.lt
/-- between the regions: the counter or an error -/
def OfMid (g : Gram) (vr : Value) (n : Int) (w0 : World) (p c : Value) (wx : World) : Prop := Below w0.heap.size w0 wx ∧ ∃ (ww : World) (cc : Int), c = .int .i64 cc ∧ Below w0.heap.size w0 ww ∧ CntF g vr n ww p cc wx
theorem okT_of {g : Gram} {t : Tree} (h : checkT g t = 0) : OkT g t ∧ (nodes t).length ≤ 5000 := by
  unfold checkT at h
  by_cases h1 : checkG g ≠ 0
  · rw [if_pos h1] at h; exact absurd h h1
  · rw [if_neg h1] at h
    by_cases h2 : 5000 < (nodes t).length
    · rw [if_pos h2] at h; cases h
    · rw [if_neg h2] at h
      cases hv : validT g t with
      | false => rw [hv] at h; cases h
      | true =>
        unfold validT at hv
        rw [List.all_eq_true] at hv
        exact ⟨hv, by omega⟩

set_option maxHeartbeats 8000000 in
set_option maxRecDepth 100000 in
theorem rankOfE (g : Gram) (ra : Option Addr) (rcap : Nat) (t : Tree) (at' : Option Addr) (ct : Nat) (w : World) (hr : Rd AnyB w (.sl (g.rules.map Rule.d)) [.slice ra g.rules.length rcap]) (hk : Rd AnyB w (.sl (t.kids.map Tree.d)) [.slice at' t.kids.length ct]) (hN : (nodes t).length ≤ 1099511627776) :
    Calls Try.prog 18 #[.agg #[.int .i64 g.terms, .int .i64 g.nons, .int .i64 g.start, .slice ra g.rules.length rcap], .agg #[.int .i64 t.rule, .int .i64 t.term, .slice at' t.kids.length ct]] w (RkPost g t w) := by
  obtain ⟨w0, HW0⟩ := nameIt ((w.alloc (.cells #[.int .i64 g.terms, .int .i64 g.nons, .int .i64 g.start, .slice ra g.rules.length rcap] 24)).alloc (.cells #[.int .i64 t.rule, .int .i64 t.term, .slice at' t.kids.length ct] 42))
  have hb0 : Below w.heap.size w w0 := by rw [← HW0.out]; exact ((Below.refl _ _).alloc (Nat.le_refl _) _).alloc (by simp) _
  have X1 : Hid (w0.heap[w.heap.size]? = some (.cells #[.int .i64 g.terms, .int .i64 g.nons, .int .i64 g.start, .slice ra g.rules.length rcap] 24 (0, 0))) := by
    rw [← HW0.out]; exact bx_keep (bx_new _ _ _ rfl) ((Below.refl _ _).alloc (Nat.le_refl _) _)
  have X2 : Hid (w0.heap[w.heap.size + 1]? = some (.cells #[.int .i64 t.rule, .int .i64 t.term, .slice at' t.kids.length ct] 42 (0, 0))) := by
    rw [← HW0.out]; exact bx_new _ _ _ (by simp)
  have HR := Lib.hid (hr.below hb0)
  have HK := Lib.hid (hk.below hb0)
  have HCK := Lib.hid (treeCheckE g ra rcap t at' ct w0 HR.out HK.out hN)
  have HRT : Hid (∀ W, Below w0.heap.size w0 W → Calls Try.prog 37 #[.agg #[.int .i64 g.terms, .int .i64 g.nons, .int .i64 g.start, .slice ra g.rules.length rcap], .agg #[.int .i64 t.rule, .int .i64 t.term, .slice at' t.kids.length ct]] W fun e w' => e = .returned (.agg #[.bool (rootS g t).term, .int .i64 (rootS g t).n]) ∧ Below W.heap.size W w') :=
    fun W hb => rootE g ra rcap t at' t.kids.length ct W (HR.out.below hb)
  have HWD : Hid (∀ W, Below w0.heap.size w0 W → Calls Try.prog 20 #[.agg #[.int .i64 t.rule, .int .i64 t.term, .slice at' t.kids.length ct]] W (IntsPost (leavesOf (nodes t)) W)) :=
    fun W hb => wordT t _ W (HK.out.below hb) (by omega)
  have HCN : Hid (∀ W, Below w0.heap.size w0 W → Calls Try.prog 36 #[.agg #[.int .i64 g.terms, .int .i64 g.nons, .int .i64 g.start, .slice ra g.rules.length rcap], .int .i64 ((wl t : Nat) : Int)] W (fun e w' => Below W.heap.size W w' ∧ ∃ (p : Value) (k c : Int), e = .returned (.tuple #[p, .int .i64 k, .int .i64 c]) ∧ CntF g (.slice ra g.rules.length rcap) (wl t : Int) W p c w')) :=
    fun W hb => (countE g ra rcap _ W (HR.out.below hb)).mono fun _ _ h => cntF_of h
  have HLW : Hid ((leavesOf (nodes t)).length = wl t) := rfl
  have HOF : Hid (checkT g t = 0 → ∀ (N : Nat) (d : Cid) (S : Nat → Nat → Bool) (w1 W : World) (xb : Nat), OkC g N → wl t ≤ 24 → Below w0.heap.size w0 w1 → CntR g (.slice ra g.rules.length rcap) N (wl t) d S w1 W → d.cb < xb →
      W.heap[xb]? = some (.cells #[.int .i64 g.terms, .int .i64 g.nons, .int .i64 g.start, .slice ra g.rules.length rcap, .pointer (some ⟨d.cb, 0, none⟩)] 85 (0, 0)) →
      Calls Try.prog 38 #[.pointer (some ⟨xb, 0, none⟩), .agg #[.int .i64 t.rule, .int .i64 t.term, .slice at' t.kids.length ct]] W (OfTPost g (.slice ra g.rules.length rcap) N (wl t) d S w1 t W)) := by
    intro hck N d S w1 W xb hok h24 hb hc hxb hx
    obtain ⟨hv, h5⟩ := okT_of hck
    exact ofTE hok h24 (HR.out.below hb) hxb 5000 t h5 (by omega) hv (Nat.le_refl _) at' ct W (HK.out.below hb) hc hx
  obtain ⟨PST, HP⟩ := nameIt (RkPost g t w)
  rw [HP.out]
  have HFIN : Hid (∀ w', Below w0.heap.size w0 w' → ∀ n i c : Int, RkV g t n i c → PST (.returned (.tuple #[.int .i64 n, .int .i64 i, .int .i64 c])) w') := by
    intro w' h n i c hv
    rw [← HP.out]
    exact ⟨hb0.trans (h.mono hb0.size), n, i, c, rfl, hv⟩
  have HCL : Hid (∀ W', Below w0.heap.size w0 W' → W'.cell? ⟨w.heap.size, 0, none⟩ = some (.int .i64 g.terms) ∧ W'.cell? ⟨w.heap.size, 0 + 1, none⟩ = some (.int .i64 g.nons) ∧ W'.cell? ⟨w.heap.size, 0 + 2, none⟩ = some (.int .i64 g.start) ∧ W'.cell? ⟨w.heap.size, 0 + 3, none⟩ = some (.slice ra g.rules.length rcap) ∧ W'.cell? ⟨w.heap.size + 1, 0, none⟩ = some (.int .i64 t.rule) ∧ W'.cell? ⟨w.heap.size + 1, 0 + 1, none⟩ = some (.int .i64 t.term) ∧ W'.cell? ⟨w.heap.size + 1, 0 + 2, none⟩ = some (.slice at' t.kids.length ct)) :=
    fun W' h => cells7 h X1.out X2.out
  obtain ⟨CK, HCKN⟩ := nameIt (checkT g t)
  obtain ⟨RS, HRSN⟩ := nameIt (rootS g t)
  obtain ⟨rst, rsn⟩ := RS
  obtain ⟨L, HL⟩ := nameIt (wl t)
  have HV1 : Hid (CK ≠ 0 → RkV g t 0 0 CK) := by intro h; rw [← HCKN.out] at h ⊢; exact .inl ⟨h, rfl, rfl, rfl⟩
  have HV2 : Hid (CK = 0 → (rst == false && rsn == g.start) = false → RkV g t 0 0 3) := by
    intro h h'
    refine .inr (.inl ⟨by rw [HCKN.out]; exact h, ?_, rfl, rfl, rfl⟩)
    rw [HRSN.out]
    intro e
    cases e
    simp at h'
  have HV3 : Hid (CK = 0 → (rst == false && rsn == g.start) = true → ∀ n i c : Int, ((errC g L ≠ 0 ∧ n = 0 ∧ i = 0 ∧ c = errC g L) ∨
    (errC g L = 0 ∧ ((c = 9 ∧ n = 0 ∧ i = 0) ∨ (c = 2 ∧ n = 0 ∧ i = 0) ∨ (c = 0 ∧ n = (L : Int))))) → RkV g t n i c) := by
    intro h h' n i c hh
    refine .inr (.inr ⟨by rw [HCKN.out]; exact h, ?_, by rw [HL.out]; exact hh⟩)
    rw [HRSN.out]
    simp at h'
    obtain ⟨rfl, rfl⟩ := h'
    rfl
  rw [HCKN.out] at HCK HOF
  rw [HRSN.out] at HRT
  rw [HL.out] at HCN HLW HOF
  have hnb : (nodes t).length ≤ 1099511627776 := hN
  have HLL : Hid (L ≤ (nodes t).length) := by
    show L ≤ _
    rw [← HLW.out]; unfold leavesOf; exact List.length_filterMap_le _ _
  have hL := HLL.out
  have hLb : L ≤ 1099511627776 := by omega
  clear hL HLL hnb hN
  obtain ⟨gt, HGT⟩ := nameIt g.terms
  obtain ⟨gn, HGN⟩ := nameIt g.nons
  obtain ⟨gs, HGS⟩ := nameIt g.start
  obtain ⟨rl, HRL⟩ := nameIt g.rules.length
  obtain ⟨tr, HTR⟩ := nameIt t.rule
  obtain ⟨tm, HTM⟩ := nameIt t.term
  obtain ⟨tk, HTK⟩ := nameIt t.kids.length
  rw [HGT.out, HGN.out, HGS.out, HRL.out, HTR.out, HTM.out, HTK.out] at HW0 HCK HRT HCL
  rw [HTR.out, HTM.out, HTK.out] at HWD
  rw [HGT.out, HGN.out, HGS.out, HRL.out] at HCN
  simp only [HGT.out, HGN.out, HGS.out, HRL.out, HTR.out, HTM.out, HTK.out] at HOF
  rw [HGS.out] at HV2 HV3
  rw [HGT.out, HGN.out, HGS.out, HRL.out, HTR.out, HTM.out, HTK.out]
  clear hr hk HR HK hb0 HP X1 X2
  obtain ⟨x0, x1, x2, x3, y0, y1, y2⟩ := HCL.out w0 (Below.refl _ _)
  go_enter Try.func18, Try.ntmps18
  go_upto_region 1 with fail
  rw [HW0.out]
  go_wp2_with fail
  refine HCK.out.mono ?_
  rintro e w1 ⟨rfl, hb1⟩
  have HB1 := Lib.hid hb1
  clear hb1 x0 x1 x2 x3 y0 y1 y2
  by_cases hck : CK = 0
  · subst hck
    have HCNE := Lib.hid (gramN gs)
    have HNE := symNe rst false rsn gs
    obtain ⟨x0, x1, x2, x3, y0, y1, y2⟩ := HCL.out w1 HB1.out
    have k0 := aft_cell x0
    have k1 := aft_cell x1
    have k2 := aft_cell x2
    have k3 := aft_cell x3
    have k4 := aft_cell y0
    have k5 := aft_cell y1
    have k6 := aft_cell y2
    clear x0 x1 x2 x3 y0 y1 y2
    have HRT1 := Lib.hid (fun W (hb : Below w1.heap.size w1 W) => HRT.out W (HB1.out.trans (hb.mono HB1.out.size)))
    obtain ⟨eq, HEQ⟩ := nameIt (rst == false && rsn == gs)
    simp only [HEQ.out] at HNE
    rw [HEQ.out] at HV2 HV3
    go_upto_region 4 with fail
    refine wp_region_after (by kernel_rfl) (by kernel_rfl) ?_
    repeat (go_big_quiet_step (first | (with_reducible exact Calls.after (HRT1.out _ (Aft.bel _))) | (with_reducible exact Calls.after (HCNE.out _))))
    refine wpQuiet_nil ?_
    rintro w2 ⟨⟨_, hb2⟩, rfl⟩
    have HB2 := Lib.hid (HB1.out.trans (hb2.mono HB1.out.size))
    clear hb2 k0 k1 k2 k3 k4 k5 k6 HNE HCNE HRT1 HRT
    cases eq with
    | false =>
      have HF := Lib.hid (HFIN.out w2 HB2.out _ _ _ (HV2.out (by simp) rfl))
      go_wp2_with fail
      first | exact HF.out | (refine bodyPost_ret (results_tmp3 Try.results18 _ _ _) rfl ?_; exact HF.out)
    | true =>
      have HV4 := Lib.hid (HV3.out (by simp) rfl)
      obtain ⟨x0, x1, x2, x3, y0, y1, y2⟩ := HCL.out w2 HB2.out
      go_upto_region 6 with fail
      go_cut [8, 10] (fun x y wx => Hid (OfMid g (.slice ra rl rcap) (L : Int) w0 x y wx))
      case first =>
        go_region_held3 (fun w' => w'.cell? ⟨w.heap.size, 0, none⟩ = some (.int .i64 gt) ∧ w'.cell? ⟨w.heap.size, 0 + 1, none⟩ = some (.int .i64 gn) ∧ w'.cell? ⟨w.heap.size, 0 + 2, none⟩ = some (.int .i64 gs) ∧ w'.cell? ⟨w.heap.size, 0 + 3, none⟩ = some (.slice ra rl rcap) ∧ w'.cell? ⟨w.heap.size + 1, 0, none⟩ = some (.int .i64 tr) ∧ w'.cell? ⟨w.heap.size + 1, 0 + 1, none⟩ = some (.int .i64 tm) ∧ w'.cell? ⟨w.heap.size + 1, 0 + 2, none⟩ = some (.slice at' tk ct))
          (first | exact HCL.out _ HB2.out.drew | exact HCL.out _ HB4.out | exact HCL.out _ HB3.out | fail)
          (first
            | (go_at_call 20; (with_reducible refine (HWD.out _ HB2.out.drew).mono ?_); rintro e w3 ⟨v3, rfl, hs3, hb3⟩; have HB3 : Hid (Below w0.heap.size w0 w3) := HB2.out.drew.trans (hb3.mono HB2.out.size); obtain ⟨a3, c3, rfl⟩ := hs3.form; rw [ints_len, HLW.out]; clear hs3 hb3)
            | (go_at_call 36; (with_reducible refine (HCN.out _ HB3.out).mono ?_); rintro e w4 ⟨hb4, p4, q4, c4, rfl, hc4⟩; have HB4 : Hid (Below w0.heap.size w0 w4) := HB3.out.trans (hb4.mono HB3.out.size); have HC4 := Lib.hid hc4; have HB3' := Lib.hid HB3.out; clear hb4 hc4)
            | fail)
        go_wp2_with fail
        go_meet
        exact ⟨HB4.out, w3, c4, rfl, HB3.out, HC4.out⟩
      case rest =>
        clear x0 x1 x2 x3 y0 y1 y2
        obtain ⟨hb4, ww, cc, rfl, hbw, hcf⟩ := hcut.out
        obtain ⟨w4, rfl⟩ : ∃ ww : World, ww = wc := ⟨_, rfl⟩
        have HB4 := Lib.hid hb4
        have HBW := Lib.hid hbw
        have HCF := Lib.hid hcf
        clear hcut hb4 hbw hcf
        obtain ⟨x0, x1, x2, x3, y0, y1, y2⟩ := HCL.out w4 HB4.out
        by_cases hcc : cc = 0
        · subst hcc
          rcases HCF.out with ⟨h1, h2⟩ | ⟨he, h2 | h2 | ⟨_, N, n', S, d, w1', hok, hnl, hn24, rfl, hbw1, hcr⟩⟩
          · exact absurd h2.symm h1
          · cases h2
          · cases h2
          obtain rfl : L = n' := by omega
          have HB1' : Hid (Below w0.heap.size w0 w1') := HBW.out.trans (hbw1.mono HBW.out.size)
          have HCR := Lib.hid hcr
          obtain ⟨w5, HW5⟩ := nameIt (w4.alloc (.cells #[.int .i64 gt, .int .i64 gn, .int .i64 gs, .slice ra rl rcap, .pointer (some ⟨d.cb, 0, none⟩)] 85))
          have HB45 : Hid (Below w4.heap.size w4 w5) := by rw [← HW5.out]; exact (Below.refl _ _).alloc (Nat.le_refl _) _
          have X5 : Hid (w5.heap[w4.heap.size]? = some (.cells #[.int .i64 gt, .int .i64 gn, .int .i64 gs, .slice ra rl rcap, .pointer (some ⟨d.cb, 0, none⟩)] 85 (0, 0))) := by rw [← HW5.out]; exact bx_new _ _ _ rfl
          have HC5 := Lib.hid (hcr.keep HB45.out)
          have HB5 := Lib.hid (HB4.out.trans (HB45.out.mono HB4.out.size))
          have HOF1 := Lib.hid (HOF.out (by simp) N d S w1' w5 w4.heap.size hok hn24 HB1'.out HC5.out hcr.cbl X5.out)
          have HFE : Hid (∀ w', Below w1'.heap.size w1' w' → ∀ i : Int, PST (.returned (.tuple #[.int .i64 (L : Int), .int .i64 i, .int .i64 0])) w') := by
            intro w' hb' i
            exact HFIN.out w' (HB1'.out.trans (hb'.mono HB1'.out.size)) (L : Int) i 0 (HV4.out (L : Int) i 0 (.inr ⟨he, .inr (.inr ⟨rfl, rfl⟩)⟩))
          obtain ⟨xb, HXB⟩ := nameIt w4.heap.size
          rw [HXB.out] at HOF1 X5
          clear hok hbw1 hcr HCF he hnl
          obtain ⟨z0, z1, z2, z3, z4, z5, z6⟩ := HCL.out w5 HB5.out
          clear x0 x1 x2 x3 y0 y1 y2
          obtain ⟨x0, x1, x2, x3, y0, y1, y2⟩ := HCL.out w4 HB4.out
          have hs1 : w.heap.size < w4.heap.size := lt_of_cell x0
          have hs2 : w.heap.size + 1 < w4.heap.size := lt_of_cell y0
          go_upto_region 9 with fail
          go_wp2_with fail
          simp only [HW5.out, HXB.out]
          with_reducible refine HOF1.out.mono ?_
          rintro e w6 ⟨i, rfl, hf6, hc6⟩
          rw [HL.out]
          have HF := Lib.hid (HFE.out w6 hc6.bel i)
          clear hf6 hc6
          go_wp2_with fail
          first | exact HF.out | (refine bodyPost_ret (results_tmp3 Try.results18 _ _ _) rfl ?_; exact HF.out)
        · have hcc' : (cc != 0) = true := by simpa using hcc
          have HF := Lib.hid (HFIN.out w4 HB4.out 0 0 cc (HV4.out 0 0 cc (by
            rcases HCF.out with ⟨h1, h2⟩ | ⟨h1, h2 | h2 | ⟨h2, _⟩⟩
            · exact .inl ⟨h1, rfl, rfl, h2⟩
            · exact .inr ⟨h1, .inl ⟨h2, rfl, rfl⟩⟩
            · exact .inr ⟨h1, .inr (.inl ⟨h2, rfl, rfl⟩)⟩
            · exact absurd h2 hcc)))
          go_wp2_with fail
          first | exact HF.out | (refine bodyPost_ret (results_tmp3 Try.results18 _ _ _) rfl ?_; exact HF.out)
  · have HF := Lib.hid (HFIN.out w1 HB1.out _ _ _ (HV1.out hck))
    have hck' : (CK != 0) = true := by simpa using hck
    go_wp2_with fail
    first | exact HF.out | (refine bodyPost_ret (results_tmp3 Try.results18 _ _ _) rfl ?_; exact HF.out)
end Cs
end Go.Proofs.Ytbnpemgmdnghgaa
namespace Go.Proofs.Ytbnpemgmdnghgaa
open Go.RowKit

/-- a block that is known whole is a row -/
theorem own_of_block {w : World} {g : Nat} {e : TypeId} {size n : Nat} {cur : Array Value} (h : w.heap[g]? = some (.cells cur e (0, 0))) (hn : cur.size = n * size) (hm : n ≤ maxLen) : w.ownsRow 0 e size (.slice (some ⟨g, 0, none⟩) n n) n cur.toList :=
  ⟨by simpa using hn, .inr ⟨_, n, cur, rfl, Nat.zero_le _, h, Nat.le_refl _, hm, hn, by rw [← hn]; exact List.take_of_length_le (by simp)⟩⟩
end Go.Proofs.Ytbnpemgmdnghgaa
namespace Go.Proofs.Ytbnpemgmdnghgaa
open Go.RowKit
namespace Cs

def GramPostC (g : Gram) (w : World) (e : Ending) (w' : World) : Prop := ∃ v, e = .returned (.agg #[.int .i64 g.terms, .int .i64 g.nons, .int .i64 g.start, v]) ∧ Rd AnyB w' (.sl (g.rules.map Rule.d)) [v] ∧ Below w.heap.size w w'
def plG : Gram := ⟨2, 1, 0, [⟨0, [⟨true, 0⟩]⟩, ⟨0, [⟨true, 1⟩, ⟨false, 0⟩]⟩]⟩
set_option maxHeartbeats 1000000 in
theorem plE (w : World) : Calls Try.prog 8 #[] w (GramPostC plG w) := by
  go_enter Try.func8, Try.ntmps8
  go_wp2_with fail
  refine bodyPost_ret (v := .agg #[.int .i64 2, .int .i64 1, .int .i64 0, .slice (some ⟨w.heap.size + 1 + 1 + 1, 0, none⟩) 2 2]) (by simp [results, Try.results8, go_sem]) rfl ?_
  refine ⟨_, rfl, ?_, ((((Below.refl _ _).alloc (Nat.le_refl _) _).alloc (by simp) _).alloc (by simp; omega) _).alloc (by simp; omega) _⟩
  refine rd_of_own (own_of_block (bx_new _ _ _ (by simp)) (n := 2) (size := 2) rfl (by simp [maxLen])) ?_ rfl (fun _ _ => trivial)
  refine ⟨[.int .i64 0, .slice (some ⟨w.heap.size + 1, 0, none⟩) 1 1], [.int .i64 0, .slice (some ⟨w.heap.size + 1 + 1, 0, none⟩) 2 2], rfl, ?_, RdAll.one ?_⟩
  · refine rd_rule (r := ⟨0, [⟨true, 0⟩]⟩) ?_
    exact rd_of_own (own_of_block (bx_keep (bx_keep (bx_new _ _ _ (by simp)) ((Below.refl _ _).alloc (Nat.le_refl _) _)) ((Below.refl _ _).alloc (Nat.le_refl _) _)) (n := 1) (size := 2) rfl (by simp [maxLen])) (RdAll.one (rd_sym ⟨true, 0⟩)) rfl (fun _ _ => trivial)
  · refine rd_rule (r := ⟨0, [⟨true, 1⟩, ⟨false, 0⟩]⟩) ?_
    refine rd_of_own (own_of_block (bx_keep (bx_new _ _ _ (by simp)) ((Below.refl _ _).alloc (Nat.le_refl _) _)) (n := 2) (size := 2) rfl (by simp [maxLen])) ?_ rfl (fun _ _ => trivial)
    exact ⟨[.bool true, .int .i64 1], [.bool false, .int .i64 0], rfl, rd_sym ⟨true, 1⟩, RdAll.one (rd_sym ⟨false, 0⟩)⟩
theorem plain_fix : (p3 4 plG.rules (itP 4 plG.rules 1 (fun _ _ => false))).2 = false := by decide +kernel
theorem plain_start : startC plG (itP 4 plG.rules 1 (fun _ _ => false)) 1 4 = 1 := by decide +kernel
theorem plain_err : errC plG 4 = 0 := by decide +kernel
def CountPost (g : Gram) (n : Int) (w : World) (e : Ending) (w' : World) : Prop :=
  Below w.heap.size w w' ∧ ((errC g n ≠ 0 ∧ e = .returned (.tuple #[.int .i64 0, .int .i64 (errC g n)])) ∨
    (errC g n = 0 ∧ ∃ (N n' : Nat) (S : Nat → Nat → Bool), OkC g N ∧ n = (n' : Int) ∧ n' ≤ 24 ∧ DoneC g n' S ∧
      ((startC g S N n' = -1 ∧ e = .returned (.tuple #[.int .i64 0, .int .i64 9])) ∨
       (startC g S N n' ≠ -1 ∧ MaxC ≤ startC g S N n' ∧ e = .returned (.tuple #[.int .i64 0, .int .i64 2])) ∨
       (startC g S N n' ≠ -1 ∧ startC g S N n' < MaxC ∧ e = .returned (.tuple #[.int .i64 (startC g S N n'), .int .i64 0])))))
set_option maxHeartbeats 4000000 in
set_option maxRecDepth 100000 in
theorem rankCountE (g : Gram) (ra : Option Addr) (rcap : Nat) (n : Int) (w : World) (hr : Rd AnyB w (.sl (g.rules.map Rule.d)) [.slice ra g.rules.length rcap]) :
    Calls Try.prog 17 #[.agg #[.int .i64 g.terms, .int .i64 g.nons, .int .i64 g.start, .slice ra g.rules.length rcap], .int .i64 n] w (CountPost g n w) := by
  obtain ⟨w0, HW0⟩ := nameIt (w.alloc (.cells #[.int .i64 g.terms, .int .i64 g.nons, .int .i64 g.start, .slice ra g.rules.length rcap] 24))
  have hb0 : Below w.heap.size w w0 := by rw [← HW0.out]; exact (Below.refl _ _).alloc (Nat.le_refl _) _
  have X0 : Hid (w0.heap[w.heap.size]? = some (.cells #[.int .i64 g.terms, .int .i64 g.nons, .int .i64 g.start, .slice ra g.rules.length rcap] 24 (0, 0))) := by rw [← HW0.out]; exact bx_new _ _ _ rfl
  have HCN := Lib.hid (countE g ra rcap n w0 (hr.below hb0))
  obtain ⟨PST, HP⟩ := nameIt (CountPost g n w)
  rw [HP.out]
  have HF : Hid (∀ w', Below w0.heap.size w0 w' → ∀ x y : Int, ((errC g n ≠ 0 ∧ x = 0 ∧ y = errC g n) ∨
    (errC g n = 0 ∧ ∃ (N n' : Nat) (S : Nat → Nat → Bool), OkC g N ∧ n = (n' : Int) ∧ n' ≤ 24 ∧ DoneC g n' S ∧
      ((startC g S N n' = -1 ∧ x = 0 ∧ y = 9) ∨ (startC g S N n' ≠ -1 ∧ MaxC ≤ startC g S N n' ∧ x = 0 ∧ y = 2) ∨ (startC g S N n' ≠ -1 ∧ startC g S N n' < MaxC ∧ x = startC g S N n' ∧ y = 0)))) → PST (.returned (.tuple #[.int .i64 x, .int .i64 y])) w') := by
    intro w' h x y hh
    rw [← HP.out]
    refine ⟨hb0.trans (h.mono hb0.size), ?_⟩
    rcases hh with ⟨h1, rfl, rfl⟩ | ⟨h1, N, n', S, h2, h3, h4, h5, ⟨h6, rfl, rfl⟩ | ⟨h6, h7, rfl, rfl⟩ | ⟨h6, h7, rfl, rfl⟩⟩
    · exact .inl ⟨h1, rfl⟩
    · exact .inr ⟨h1, N, n', S, h2, h3, h4, h5, .inl ⟨h6, rfl⟩⟩
    · exact .inr ⟨h1, N, n', S, h2, h3, h4, h5, .inr (.inl ⟨h6, h7, rfl⟩)⟩
    · exact .inr ⟨h1, N, n', S, h2, h3, h4, h5, .inr (.inr ⟨h6, h7, rfl⟩)⟩
  obtain ⟨gt, HGT⟩ := nameIt g.terms
  obtain ⟨gn, HGN⟩ := nameIt g.nons
  obtain ⟨gs, HGS⟩ := nameIt g.start
  obtain ⟨rl, HRL⟩ := nameIt g.rules.length
  rw [HGT.out, HGN.out, HGS.out, HRL.out] at HW0 X0 HCN
  rw [HGT.out, HGN.out, HGS.out, HRL.out]
  obtain ⟨x0, x1, x2, x3⟩ := bx_cells4 X0.out
  clear hb0 hr HP
  go_enter Try.func17, Try.ntmps17
  go_upto_region 1 with fail
  rw [HW0.out]
  go_wp2_with fail
  with_reducible refine HCN.out.mono ?_
  clear x0 x1 x2 x3
  rintro e w1 ⟨hb1, ⟨h1, rfl⟩ | ⟨h1, N, n', S, h2, h3, h4, h5, ⟨h6, rfl⟩ | ⟨h6, h7, rfl⟩ | ⟨h6, h7, d, w2, rfl, -, -⟩⟩⟩
  · have HE := Lib.hid (HF.out w1 hb1 _ _ (.inl ⟨h1, rfl, rfl⟩))
    obtain ⟨c, HC⟩ := nameIt (errC g n)
    rw [HC.out] at HE
    rw [HC.out]
    clear hb1 h1 HF
    go_wp2_with fail
    first | exact HE.out | (refine bodyPost_ret (results_tmp2 Try.results17 _ _ _) rfl ?_; exact HE.out)
  · have HE := Lib.hid (HF.out w1 hb1 _ _ (.inr ⟨h1, N, n', S, h2, h3, h4, h5, .inl ⟨h6, rfl, rfl⟩⟩))
    clear hb1 h1 h2 h3 h4 h5 h6 HF
    go_wp2_with fail
    first | exact HE.out | (refine bodyPost_ret (results_tmp2 Try.results17 _ _ _) rfl ?_; exact HE.out)
  · have HE := Lib.hid (HF.out w1 hb1 _ _ (.inr ⟨h1, N, n', S, h2, h3, h4, h5, .inr (.inl ⟨h6, h7, rfl, rfl⟩)⟩))
    clear hb1 h1 h2 h3 h4 h5 h6 h7 HF
    go_wp2_with fail
    first | exact HE.out | (refine bodyPost_ret (results_tmp2 Try.results17 _ _ _) rfl ?_; exact HE.out)
  · have HE := Lib.hid (HF.out w1 hb1 _ _ (.inr ⟨h1, N, n', S, h2, h3, h4, h5, .inr (.inr ⟨h6, h7, rfl, rfl⟩)⟩))
    obtain ⟨c, HC⟩ := nameIt (startC g S N n')
    rw [HC.out] at HE
    rw [HC.out]
    clear hb1 h1 h2 h3 h4 h5 h6 h7 HF
    go_wp2_with fail
    first | exact HE.out | (refine bodyPost_ret (results_tmp2 Try.results17 _ _ _) rfl ?_; exact HE.out)
/-- at the plain grammar -/
theorem countPlainE (ra : Option Addr) (rcap : Nat) (w : World) (hr : Rd AnyB w (.sl (plG.rules.map Rule.d)) [.slice ra plG.rules.length rcap]) :
    Calls Try.prog 17 #[.agg #[.int .i64 2, .int .i64 1, .int .i64 0, .slice ra 2 rcap], .int .i64 4] w (fun e w' => e = .returned (.tuple #[.int .i64 1, .int .i64 0]) ∧ Below w.heap.size w w') := by
  refine (rankCountE plG ra rcap 4 w hr).mono ?_
  rintro e w' ⟨hb, ⟨h1, _⟩ | ⟨h1, N, n', S, h2, h3, h4, h5, h6⟩⟩
  · exact absurd plain_err h1
  · obtain rfl : n' = 4 := by omega
    obtain rfl : N = 1 := by have := h2.nons; simp [plG] at this; omega
    obtain ⟨⟨q, hq⟩, hp⟩ := h5
    have hS := done_eq (p := 1) (N := 1) (fun r hr => (h2.l r hr).2) hq hp plain_fix
    rw [hS, plain_start] at h6
    rcases h6 with ⟨h6, _⟩ | ⟨_, h6, _⟩ | ⟨_, _, he⟩
    · cases h6
    · exact absurd h6 (by decide)
    · exact ⟨he, hb⟩
end Cs
end Go.Proofs.Ytbnpemgmdnghgaa
namespace Go.Proofs.Ytbnpemgmdnghgaa
open Go.RowKit
namespace Cs

theorem rr_start {g : Gram} {t : Tree} (h : checkT g t = 0) : (t.rule < 0 ∧ rootS g t ≠ ⟨false, g.start⟩) ∨ ∃ (j : Nat) (hj : j < g.rules.length), t.rule = (j : Int) ∧ (rootS g t = ⟨false, g.start⟩ ↔ g.rules[j].left = g.start) := by
  rcases (okT_of h).1.cases with hr | ⟨j, hj, hr, _⟩
  · refine .inl ⟨by omega, ?_⟩
    unfold rootS
    rw [if_pos (by omega)]
    intro e
    cases e
  · refine .inr ⟨j, hj, hr, ?_⟩
    unfold rootS
    rw [if_neg (by omega), hr, Int.toNat_natCast, List.getElem?_eq_getElem hj]
    simp
theorem errC_of {g : Gram} {t : Tree} (h : checkT g t = 0) : errC g (wl t : Int) = if 24 < wl t then 1 else 0 := by
  have hg : checkG g = 0 := by
    unfold checkT at h
    by_cases h1 : checkG g ≠ 0
    · rw [if_pos h1] at h; exact absurd h h1
    · simpa using h1
  unfold errC
  rw [if_neg (by simpa using hg)]
  by_cases h2 : 24 < wl t
  · rw [if_pos (by omega), if_pos h2]
  · rw [if_neg (by omega), if_neg h2]

set_option maxHeartbeats 8000000 in
set_option maxRecDepth 100000 in
theorem lawRR (g : Gram) (vr : Value) (t : Tree) (vt : Value) (w : World) (hr : Rd AnyB w (.sl (g.rules.map Rule.d)) [vr]) (hk : Rd AnyB w (.sl (t.kids.map Tree.d)) [vt]) (hN : (nodes t).length ≤ 1099511627776) :
    Calls Try.prog 4 #[.agg #[.int .i64 g.terms, .int .i64 g.nons, .int .i64 g.start, vr], .agg #[.int .i64 t.rule, .int .i64 t.term, vt]] w fun e w' => e = .returned (.bool true) ∧ Below w.heap.size w w' := by
  obtain ⟨ra, rcap, rfl, hrc1, hrc2⟩ := hr.form
  obtain ⟨at', ct, rfl, -, -⟩ := hk.form
  rw [List.length_map] at hr hk hrc1
  rw [List.length_map, List.length_map]
  unfold maxLen at hrc2
  obtain ⟨w0, HW0⟩ := nameIt ((w.alloc (.cells #[.int .i64 g.terms, .int .i64 g.nons, .int .i64 g.start, .slice ra g.rules.length rcap] 24)).alloc (.cells #[.int .i64 t.rule, .int .i64 t.term, .slice at' t.kids.length ct] 42))
  have hb0 : Below w.heap.size w w0 := by rw [← HW0.out]; exact ((Below.refl _ _).alloc (Nat.le_refl _) _).alloc (by simp) _
  have X1 : Hid (w0.heap[w.heap.size]? = some (.cells #[.int .i64 g.terms, .int .i64 g.nons, .int .i64 g.start, .slice ra g.rules.length rcap] 24 (0, 0))) := by
    rw [← HW0.out]; exact bx_keep (bx_new _ _ _ rfl) ((Below.refl _ _).alloc (Nat.le_refl _) _)
  have X2 : Hid (w0.heap[w.heap.size + 1]? = some (.cells #[.int .i64 t.rule, .int .i64 t.term, .slice at' t.kids.length ct] 42 (0, 0))) := by
    rw [← HW0.out]; exact bx_new _ _ _ (by simp)
  have HR := Lib.hid (hr.below hb0)
  have HK := Lib.hid (hk.below hb0)
  have HRK : Hid (∀ W, Below w0.heap.size w0 W → Calls Try.prog 18 #[.agg #[.int .i64 g.terms, .int .i64 g.nons, .int .i64 g.start, .slice ra g.rules.length rcap], .agg #[.int .i64 t.rule, .int .i64 t.term, .slice at' t.kids.length ct]] W (RkPost g t W)) :=
    fun W hb => rankOfE g ra rcap t at' ct W (HR.out.below hb) (HK.out.below hb) hN
  have HCK : Hid (∀ W, Below w0.heap.size w0 W → Calls Try.prog 19 #[.agg #[.int .i64 g.terms, .int .i64 g.nons, .int .i64 g.start, .slice ra g.rules.length rcap], .agg #[.int .i64 t.rule, .int .i64 t.term, .slice at' t.kids.length ct]] W fun e w' => e = .returned (.int .i64 (checkT g t)) ∧ Below W.heap.size W w') :=
    fun W hb => treeCheckE g ra rcap t at' ct W (HR.out.below hb) (HK.out.below hb) hN
  have HWD : Hid (∀ W, Below w0.heap.size w0 W → Calls Try.prog 20 #[.agg #[.int .i64 t.rule, .int .i64 t.term, .slice at' t.kids.length ct]] W (IntsPost (leavesOf (nodes t)) W)) :=
    fun W hb => wordT t _ W (HK.out.below hb) (by omega)
  have HPL := Lib.hid (fun W => plE W)
  have HLW : Hid ((leavesOf (nodes t)).length = wl t) := rfl
  obtain ⟨PST, HP⟩ := nameIt (fun (e : Ending) (w' : World) => e = .returned (.bool true) ∧ Below w.heap.size w w')
  rw [HP.out]
  have HFIN : Hid (∀ w', Below w0.heap.size w0 w' → PST (.returned (.bool true)) w') := by
    intro w' h
    rw [← HP.out]
    exact ⟨rfl, hb0.trans (h.mono hb0.size)⟩
  have HCL : Hid (∀ W', Below w0.heap.size w0 W' → W'.cell? ⟨w.heap.size, 0, none⟩ = some (.int .i64 g.terms) ∧ W'.cell? ⟨w.heap.size, 0 + 1, none⟩ = some (.int .i64 g.nons) ∧ W'.cell? ⟨w.heap.size, 0 + 2, none⟩ = some (.int .i64 g.start) ∧ W'.cell? ⟨w.heap.size, 0 + 3, none⟩ = some (.slice ra g.rules.length rcap) ∧ W'.cell? ⟨w.heap.size + 1, 0, none⟩ = some (.int .i64 t.rule) ∧ W'.cell? ⟨w.heap.size + 1, 0 + 1, none⟩ = some (.int .i64 t.term) ∧ W'.cell? ⟨w.heap.size + 1, 0 + 2, none⟩ = some (.slice at' t.kids.length ct)) :=
    fun W' h => cells7 h X1.out X2.out
  have HLL : Hid (wl t ≤ (nodes t).length) := by
    show wl t ≤ _
    unfold wl leavesOf; exact List.length_filterMap_le _ _
  have HER := Lib.hid (errC_of (g := g) (t := t))
  have HRS : Hid (checkT g t = 0 → (t.rule < 0 ∧ rootS g t ≠ ⟨false, g.start⟩) ∨ ∃ (j : Nat) (hj : j < g.rules.length), t.rule = (j : Int) ∧ (rootS g t = ⟨false, g.start⟩ ↔ g.rules[j].left = g.start)) := rr_start
  have HRV : Hid (∀ n i c, RkV g t n i c → (checkT g t ≠ 0 ∧ n = 0 ∧ i = 0 ∧ c = checkT g t) ∨ (checkT g t = 0 ∧ rootS g t ≠ ⟨false, g.start⟩ ∧ n = 0 ∧ i = 0 ∧ c = 3) ∨
  (checkT g t = 0 ∧ rootS g t = ⟨false, g.start⟩ ∧ ((errC g (wl t) ≠ 0 ∧ n = 0 ∧ i = 0 ∧ c = errC g (wl t)) ∨
    (errC g (wl t) = 0 ∧ ((c = 9 ∧ n = 0 ∧ i = 0) ∨ (c = 2 ∧ n = 0 ∧ i = 0) ∨ (c = 0 ∧ n = (wl t : Int))))))) := fun _ _ _ h => h
  have HRA : Hid (∀ j, (hj : j < g.rules.length) → ∀ W', Below w0.heap.size w0 W' → ∃ rb ro, ra = some ⟨rb, ro, none⟩ ∧ W'.cell? ⟨rb, ro + j * 2, none⟩ = some (.int .i64 g.rules[j].left)) := by
    intro j hj W' hb
    obtain ⟨rbk, ro, rv, hae, -, hrb, r0, r1, hrr⟩ := (HR.out.below hb).rule_at hj
    exact ⟨rbk, ro, hae, r0⟩
  have hL := HLL.out
  have hLb : wl t ≤ 1099511627776 := by omega
  obtain ⟨CK, HCKN⟩ := nameIt (checkT g t)
  obtain ⟨L, HL⟩ := nameIt (wl t)
  rw [HCKN.out] at HCK HER HRS HRV
  rw [HL.out] at HER HRV hLb HLW
  clear hL HLL hN
  obtain ⟨gt, HGT⟩ := nameIt g.terms
  obtain ⟨gn, HGN⟩ := nameIt g.nons
  obtain ⟨gs, HGS⟩ := nameIt g.start
  obtain ⟨rl, HRL⟩ := nameIt g.rules.length
  obtain ⟨tr, HTR⟩ := nameIt t.rule
  obtain ⟨tm, HTM⟩ := nameIt t.term
  obtain ⟨tk, HTK⟩ := nameIt t.kids.length
  rw [HGT.out, HGN.out, HGS.out, HRL.out, HTR.out, HTM.out, HTK.out] at HW0 HRK HCK HCL
  rw [HTR.out, HTM.out, HTK.out] at HWD
  rw [HTR.out, HGS.out] at HRS
  rw [HRL.out] at hrc1
  rw [HGT.out, HGN.out, HGS.out, HRL.out, HTR.out, HTM.out, HTK.out]
  rw [HGS.out] at HRV
  clear hr hk HR HK hb0 HP X1 X2
  obtain ⟨x0, x1, x2, x3, y0, y1, y2⟩ := HCL.out w0 (Below.refl _ _)
  go_enter Try.func4, Try.ntmps4
  go_upto_region 1 with fail
  rw [HW0.out]
  clear x0 x1 x2 x3 y0 y1 y2
  go_wp2_with fail
  refine (HPL.out _).mono ?_
  rintro e w1 ⟨v1, rfl, hr1, hb1⟩
  obtain ⟨a1, c1, rfl, -, -⟩ := hr1.form
  have HPC := Lib.hid (countPlainE a1 c1 w1 hr1)
  have HB1 := Lib.hid hb1
  clear hr1 hb1
  change Hid (Calls _ _ #[.agg #[.int .i64 2, .int .i64 1, .int .i64 0, .slice a1 2 c1], .int .i64 4] w1 _) at HPC
  rw [show plG.terms = 2 from rfl, show plG.nons = 1 from rfl, show plG.start = 0 from rfl, show (plG.rules.map Rule.d).length = 2 from rfl]
  go_wp2_with fail
  refine HPC.out.mono ?_
  rintro e w2 ⟨rfl, hb2⟩
  have HB2 := Lib.hid (HB1.out.trans (hb2.mono HB1.out.size))
  clear hb2 HPC HPL HB1
  obtain ⟨x0, x1, x2, x3, y0, y1, y2⟩ := HCL.out w2 HB2.out
  go_wp2_with fail
  refine (HRK.out _ HB2.out).mono ?_
  rintro e w3 ⟨hb3, n, i, c, rfl, hrv⟩
  have HV := Lib.hid (HRV.out n i c hrv)
  have HB3 := Lib.hid (HB2.out.trans (hb3.mono HB2.out.size))
  clear hrv hb3 x0 x1 x2 x3 y0 y1 y2 HRV
  obtain ⟨x0, x1, x2, x3, y0, y1, y2⟩ := HCL.out w3 HB3.out
  go_wp2_with fail
  refine (HCK.out _ HB3.out).mono ?_
  rintro e w4 ⟨rfl, hb4⟩
  have HB4 := Lib.hid (HB3.out.trans (hb4.mono HB3.out.size))
  clear hb4 x0 x1 x2 x3 y0 y1 y2
  have HF4 := Lib.hid (HFIN.out w4 HB4.out)
  by_cases hck : CK = 0
  · subst hck
    obtain ⟨x0, x1, x2, x3, y0, y1, y2⟩ := HCL.out w4 HB4.out
    have HR5 := Lib.hid (HRS.out rfl)
    have HE5 := Lib.hid (HER.out rfl)
    clear HRS HER
    rcases HR5.out with ⟨h1, h2⟩ | ⟨j, hj, rfl, hiff⟩
    · have hv : n = 0 ∧ i = 0 ∧ c = 3 := by
        rcases HV.out with ⟨h, _⟩ | ⟨_, _, h⟩ | ⟨_, h, _⟩
        · exact absurd rfl h
        · exact h
        · exact absurd h h2
      obtain ⟨rfl, rfl, rfl⟩ := hv
      have b0 : decide (tr < 0) = true := by simpa using h1
      clear h1 h2 HR5 HV
      go_upto_region 8 with fail
      go_quiet (fail)
      have HF5 := Lib.hid (HFIN.out _ (HB4.out.trans ((below_drewN w4 nq).mono HB4.out.size)))
      go_wp2_with fail
      first | exact HF5.out | (refine bodyPost_ret (v := .bool true) (by simp [results, Try.results4, go_sem]) rfl ?_; exact HF5.out)
    · have b0 : decide ((j : Int) < 0) = false := by simp
      obtain ⟨rb, ro, rfl, r0⟩ := HRA.out j hj w4 HB4.out
      have hj1 : j < rl := by rw [← HRL.out]; exact hj
      have hj2 : (j : Int) < (rl : Int) := by omega
      have hj3 : (0 : Int) ≤ (j : Int) := by omega
      obtain ⟨lf, HLF⟩ := nameIt (g.rules[j]'hj).left
      rw [HLF.out] at r0 hiff
      obtain ⟨bq, HBQ⟩ : ∃ bq : Bool, Hid ((lf != gs) = bq) := ⟨_, rfl⟩
      have hbq := HBQ.out
      have HIFF := Lib.hid hiff
      clear hiff HRA HR5
      go_upto_region 8 with fail
      go_quiet (fail)
      obtain ⟨w5, HW5⟩ := nameIt (w4.drewN nq)
      have HB5 : Hid (Below w0.heap.size w0 w5) := by rw [← HW5.out]; exact HB4.out.trans ((below_drewN w4 nq).mono HB4.out.size)
      rw [HW5.out]
      have HF5 := Lib.hid (HFIN.out w5 HB5.out)
      clear x0 x1 x2 x3 y0 y1 y2 r0 HW5
      cases bq with
      | true =>
        have hv : n = 0 ∧ i = 0 ∧ c = 3 := by
          rcases HV.out with ⟨h, _⟩ | ⟨_, _, h⟩ | ⟨_, h, _⟩
          · exact absurd rfl h
          · exact h
          · rw [HIFF.out.1 h] at hbq; simp at hbq
        obtain ⟨rfl, rfl, rfl⟩ := hv
        clear HV HIFF hbq
        go_wp2_with fail
        first | exact HF5.out | (refine bodyPost_ret (v := .bool true) (by simp [results, Try.results4, go_sem]) rfl ?_; exact HF5.out)
      | false =>
        have hv : (24 < L ∧ c = 1) ∨ (¬ 24 < L ∧ (c = 9 ∨ c = 2 ∨ (c = 0 ∧ n = (L : Int)))) := by
          rcases HV.out with ⟨h, _⟩ | ⟨_, h, _⟩ | ⟨_, _, ⟨h1, _, _, h2⟩ | ⟨h1, h2⟩⟩
          · exact absurd rfl h
          · exact absurd (HIFF.out.2 (by simpa using hbq)) h
          · rw [HE5.out] at h1 h2
            by_cases h24 : 24 < L
            · rw [if_pos h24] at h2; exact .inl ⟨h24, h2⟩
            · rw [if_neg h24] at h1; exact absurd rfl h1
          · rw [HE5.out] at h1
            by_cases h24 : 24 < L
            · rw [if_pos h24] at h1; cases h1
            · refine .inr ⟨h24, ?_⟩
              rcases h2 with ⟨h, _⟩ | ⟨h, _⟩ | ⟨h, h'⟩
              · exact .inl h
              · exact .inr (.inl h)
              · exact .inr (.inr ⟨h, h'⟩)
        have HV2 := Lib.hid hv
        clear HV HIFF hbq hv HE5
        obtain ⟨x0, x1, x2, x3, y0, y1, y2⟩ := HCL.out w5 HB5.out
        go_wp2_with fail
        refine (HWD.out _ HB5.out).mono ?_
        rintro e w6 ⟨v6, rfl, hs6, hb6⟩
        obtain ⟨a6, c6, rfl⟩ := hs6.form
        rw [ints_len, HLW.out]
        have HB6 := Lib.hid (HB5.out.trans (hb6.mono HB5.out.size))
        have HF6 := Lib.hid (HFIN.out w6 HB6.out)
        clear hs6 hb6 x0 x1 x2 x3 y0 y1 y2
        rcases HV2.out with ⟨h24, rfl⟩ | ⟨h24, h⟩
        · have b24 : decide ((24 : Int) < (L : Int)) = true := by simp; omega
          clear HV2
          go_wp2_with fail
          first | exact HF6.out | (refine bodyPost_ret (v := .bool true) (by simp [results, Try.results4, go_sem]) rfl ?_; exact HF6.out)
        · have b24 : decide ((24 : Int) < (L : Int)) = false := by simp; omega
          clear HV2
          obtain ⟨x0, x1, x2, x3, y0, y1, y2⟩ := HCL.out w6 HB6.out
          rcases h with rfl | rfl | ⟨rfl, rfl⟩
          · clear h24
            go_wp2_with fail
            first | exact HF6.out | (refine bodyPost_ret (v := .bool true) (by simp [results, Try.results4, go_sem]) rfl ?_; exact HF6.out)
          · clear h24
            go_wp2_with fail
            first | exact HF6.out | (refine bodyPost_ret (v := .bool true) (by simp [results, Try.results4, go_sem]) rfl ?_; exact HF6.out)
          · clear h24
            go_wp2_with fail
            refine (HWD.out _ HB6.out).mono ?_
            rintro e w7 ⟨v7, rfl, hs7, hb7⟩
            obtain ⟨a7, c7, rfl⟩ := hs7.form
            rw [ints_len, HLW.out]
            have HF7 := Lib.hid (HFIN.out w7 (HB6.out.trans (hb7.mono HB6.out.size)))
            clear hs7 hb7 x0 x1 x2 x3 y0 y1 y2
            go_wp2_with fail
            first | exact HF7.out | (refine bodyPost_ret (v := .bool true) (by simp [results, Try.results4, go_sem]) rfl ?_; exact HF7.out)
  · have hck' : (CK != 0) = true := by simpa using hck
    have hv : n = 0 ∧ i = 0 ∧ c = CK := by
      rcases HV.out with ⟨_, h⟩ | ⟨h, _⟩ | ⟨h, _⟩
      · exact h
      · exact absurd h hck
      · exact absurd h hck
    obtain ⟨rfl, rfl, rfl⟩ := hv
    clear HV hck
    go_wp2_with fail
    first | exact HF4.out | (refine bodyPost_ret (v := .bool true) (by simp [results, Try.results4, go_sem]) rfl ?_; exact HF4.out)
end Cs
end Go.Proofs.Ytbnpemgmdnghgaa
namespace Go.Proofs.Ytbnpemgmdnghgaa
open Go.RowKit Go.ChangeShapes Go.WideShapes Go.Deep

/-- data of a type read as plain data, as far as the fuel N goes: sz: at most its bulk; ok: what its numbers keep; lim: what the reach gives -/
def OpensF {α : Type} (P : Program) (t : TypeId) (e : α → D) (sz : α → Nat) (ok lim : α → Prop) (N : Nat) : Prop :=
  ∀ (H : Type) (enc : TypeId × Value → H) (w : World) (n : Nat) (cs : List Value) (x : DataW H × List MemPlace), n ≤ N → DataW.trod enc P w 0 (fun _ => true) true n t cs = some x →
    ∃ a : α, Rd AnyB w (e a) cs ∧ sz a ≤ Rows.uptoBulk x.1 ∧ ok a ∧ ((∀ y ∈ DataW.weights P t x.1, y ≤ reachBytes) → lim a)
def Opens {α : Type} (P : Program) (t : TypeId) (e : α → D) (sz : α → Nat) (ok lim : α → Prop) : Prop := ∀ N, OpensF P t e sz ok lim N

def i64 (n : Int) : Prop := -9223372036854775808 ≤ n ∧ n ≤ 9223372036854775807
def one {α : Type} (_ : α) : Nat := 1
def any {α : Type} (_ : α) : Prop := True

theorem opens_int {P : Program} {t : TypeId} (ht : P.underlying t = some (.int .i64)) : Opens P t D.int one i64 any := by
  intro N H enc w n cs x _ h
  obtain ⟨z, h1, h2, h3⟩ := DataW.trod_int ht h
  subst h1 h2
  refine ⟨z, rfl, by simp [Rows.uptoBulk, one], ?_, fun _ => trivial⟩
  simpa [Lit.wf, IntKind.min, IntKind.max, IntKind.signed, IntKind.bits, i64] using h3
theorem opens_bool {P : Program} {t : TypeId} (ht : P.underlying t = some .bool) : Opens P t D.bool one any any := by
  intro N H enc w n cs x _ h
  obtain ⟨z, h1, h2⟩ := DataW.trod_bool ht h
  subst h1 h2
  exact ⟨z, rfl, by simp [Rows.uptoBulk, one], trivial, fun _ => trivial⟩

theorem bulkAll_append {H : Type} (l r : List (DataW H)) : Rows.uptoBulkAll (l ++ r) = Rows.uptoBulkAll l + Rows.uptoBulkAll r := by
  induction l with
  | nil => simp [Rows.uptoBulkAll]
  | cons x l ih => simp only [List.cons_append, Rows.uptoBulkAll, ih]; omega
theorem weightsAll_append {H : Type} (P : Program) (e : TypeId) (l r : List (DataW H)) : DataW.weightsAll P e (l ++ r) = DataW.weightsAll P e l ++ DataW.weightsAll P e r := by
  induction l with
  | nil => simp [DataW.weightsAll]
  | cons x l ih => simp [DataW.weightsAll, ih]

def slD {α : Type} (e : α → D) (l : List α) : D := .sl (l.map e)
def slSz {α : Type} (sz : α → Nat) (l : List α) : Nat := (l.map sz).sum + 1
def slOk {α : Type} (ok : α → Prop) (l : List α) : Prop := ∀ a ∈ l, ok a
def slLim {α : Type} (b : Nat) (lim : α → Prop) (l : List α) : Prop := l.length * b ≤ reachBytes ∧ ∀ a ∈ l, lim a

theorem opens_slice {α : Type} {P : Program} {t el : TypeId} {e : α → D} {sz : α → Nat} {ok lim : α → Prop} {N b : Nat} (ht : P.underlying t = some (.slice el)) (hby : P.bytesOf el = b) (ho : OpensF P el e sz ok lim N) :
    OpensF P t (slD e) (slSz sz) (slOk ok) (slLim b lim) N := by
  intro H enc w n cs x hn h
  rcases DataW.trod_slice ht h with ⟨rfl, rfl⟩ | ⟨a, len, cap, elems, rest, n', hf, rfl, rfl, hb, hl, hm, hlen, hel, _, _⟩
  · exact ⟨[], ⟨none, 0, [], rfl, by simp, by simp [maxLen], fun _ => rfl, fun i hi => by simp at hi, rfl⟩, by simp [Rows.uptoBulk, slSz], by simp [slOk], fun _ => ⟨by simp, by simp⟩⟩
  · have key : ∀ k, k ≤ len → ∃ (l : List α) (L : List Value), l.length = k ∧ RdAll AnyB w (l.map e) L ∧ L.length = k * P.cellsOf el ∧ (∀ j (hj : j < L.length), w.cell? (a.add j) = some L[j]) ∧
        (l.map sz).sum ≤ Rows.uptoBulkAll ((elems.take k).map (·.1)) ∧ slOk ok l ∧ ((∀ y ∈ DataW.weightsAll P el ((elems.take k).map (·.1)), y ≤ reachBytes) → ∀ a ∈ l, lim a) := by
      intro k
      induction k with
      | zero => intro _; exact ⟨[], [], rfl, by simp [RdAll], by simp, fun j hj => by simp at hj, by simp, by simp [slOk], fun _ => by simp⟩
      | succ k ih =>
        intro hk
        obtain ⟨l, L, h1, h2, h3, h4, h5, h6, h7⟩ := ih (by omega)
        have hk' : k < elems.length := by omega
        have he := hel k (by omega)
        rw [List.getElem?_eq_getElem hk'] at he
        obtain ⟨cs', hc1, hc2⟩ := Option.bind_eq_some_iff.1 he
        obtain ⟨a', r1, r2, r3, r4⟩ := ho H enc w n' cs' elems[k] (by omega) hc2
        obtain ⟨_, hcl, hcc⟩ := World.cells?_some hc1
        refine ⟨l ++ [a'], L ++ cs', by simp [h1], by rw [List.map_append]; exact RdAll.append h2 (RdAll.one r1), by simp [h3, hcl, Nat.add_mul], ?_, ?_, ?_, ?_⟩
        · intro j hj
          by_cases hjl : j < L.length
          · rw [List.getElem_append_left hjl]; exact h4 j hjl
          · simp at hj
            rw [List.getElem_append_right (by omega)]
            have := hcc (j - L.length) (by omega)
            rw [Deep.add_add, ← h3, show L.length + (j - L.length) = j by omega] at this
            rw [this, List.getElem?_eq_getElem (by omega)]
        · rw [List.take_succ_eq_append_getElem hk', List.map_append, List.map_append, bulkAll_append]
          simp [Rows.uptoBulkAll]
          simp at h5
          omega
        · intro y hy
          rcases List.mem_append.1 hy with h | h
          · exact h6 y h
          · simp at h; subst h; exact r3
        · intro hw y hy
          rw [List.take_succ_eq_append_getElem hk', List.map_append, weightsAll_append] at hw
          rcases List.mem_append.1 hy with h | h
          · exact h7 (fun z hz => hw z (List.mem_append_left _ hz)) y h
          · simp at h; subst h
            exact r4 (fun z hz => hw z (List.mem_append_right _ (by simpa [DataW.weightsAll] using hz)))
    obtain ⟨l, L, h1, h2, h3, h4, h5, h6, h7⟩ := key len (Nat.le_refl _)
    rw [List.take_of_length_le (by omega)] at h5 h7
    refine ⟨l, ⟨some a, cap, L, by simp [h1], by simpa [h1] using hl, hm, (fun h => by cases h), fun i hi => ⟨a, rfl, trivial, h4 i hi⟩, h2⟩, ?_, h6, ?_⟩
    · simp only [Rows.uptoBulk, slSz]; omega
    · intro hw
      simp only [DataW.weights, ht] at hw
      refine ⟨?_, h7 fun y hy => hw y (by simp [hy])⟩
      have := hw ((elems.map (·.1)).length + (rest.map (·.1)).length |>.mul (P.bytesOf el)) (by left)
      rw [h1, ← hlen, ← hby]
      have h8 : elems.length * P.bytesOf el ≤ ((elems.map (·.1)).length + (rest.map (·.1)).length) * P.bytesOf el := Nat.mul_le_mul_right _ (by simp)
      exact Nat.le_trans h8 this

theorem split2 {cs : List Value} {c0 c1 : Nat} (h : cs.length = c0 + c1) : cs = (cs.drop 0).take c0 ++ (cs.drop c0).take c1 := by
  rw [List.drop_zero, List.take_of_length_le (l := cs.drop c0) (by simp; omega), List.take_append_drop]
theorem split3 {cs : List Value} {c0 c1 c2 : Nat} (h : cs.length = c0 + c1 + c2) : cs = (cs.drop 0).take c0 ++ ((cs.drop c0).take c1 ++ (cs.drop (c0 + c1)).take c2) := by
  rw [← List.drop_drop, ← split2' (cs := cs.drop c0) (by simp; omega)]
  simp
where
  split2' {cs : List Value} {c1 c2 : Nat} (h : cs.length = c1 + c2) : cs = cs.take c1 ++ (cs.drop c1).take c2 := by
    have := split2 h
    simpa using this
theorem split4 {cs : List Value} {c0 c1 c2 c3 : Nat} (h : cs.length = c0 + c1 + c2 + c3) : cs = (cs.drop 0).take c0 ++ ((cs.drop c0).take c1 ++ ((cs.drop (c0 + c1)).take c2 ++ (cs.drop (c0 + c1 + c2)).take c3)) := by
  have h3 := split3 (cs := cs.drop c0) (c0 := c1) (c1 := c2) (c2 := c3) (by simp; omega)
  simp only [List.drop_drop, List.drop_zero] at h3 ⊢
  rw [← Nat.add_assoc, Nat.add_zero] at h3
  rw [← h3, List.take_append_drop]

theorem opens_struct2 {α β δ : Type} {P : Program} {t : TypeId} {f0 f1 : Field} {e0 : α → D} {e1 : β → D} {s0 : α → Nat} {s1 : β → Nat} {k0 l0 : α → Prop} {k1 l1 : β → Prop} {N c0 c1 : Nat} (mk : α → β → δ) {e : δ → D} {sz : δ → Nat} {ok lim : δ → Prop}
    (ht : P.underlying t = some (.struct #[f0, f1])) (ho : f0.offset = 0 ∧ f1.offset = c0 ∧ P.cellsOf f0.type = c0 ∧ P.cellsOf f1.type = c1 ∧ P.cellsOf t = c0 + c1)
    (h0 : OpensF P f0.type e0 s0 k0 l0 N) (h1 : OpensF P f1.type e1 s1 k1 l1 N)
    (he : ∀ a b, e (mk a b) = .agg [e0 a, e1 b]) (hs : ∀ a b, sz (mk a b) ≤ s0 a + s1 b + 1) (hk : ∀ a b, k0 a → k1 b → ok (mk a b)) (hl : ∀ a b, l0 a → l1 b → lim (mk a b)) : OpensF P t e sz ok lim (N + 1) := by
  intro H enc w n cs x hn h
  obtain ⟨xs, n', hf, rfl, hcl, hlen, hfs⟩ := DataW.trod_struct ht h
  obtain ⟨o0, o1, p0, p1, p2⟩ := ho
  match xs, hlen with
  | [y0, y1], _ =>
    have g0 : DataW.trod enc P w 0 (fun _ => true) true n' f0.type ((cs.drop f0.offset).take (P.cellsOf f0.type)) = some y0 := by simpa using hfs 0 f0 rfl
    have g1 : DataW.trod enc P w 0 (fun _ => true) true n' f1.type ((cs.drop f1.offset).take (P.cellsOf f1.type)) = some y1 := by simpa using hfs 1 f1 rfl
    obtain ⟨a, r1, r2, r3, r4⟩ := h0 H enc w n' _ _ (by omega) g0
    obtain ⟨b, q1, q2, q3, q4⟩ := h1 H enc w n' _ _ (by omega) g1
    rw [o0, p0] at r1
    rw [o1, p1] at q1
    refine ⟨mk a b, ?_, ?_, hk a b r3 q3, fun hw => ?_⟩
    · rw [he, split2 (hcl.trans p2)]
      exact ⟨_, _, rfl, r1, RdAll.one q1⟩
    · have := hs a b
      simp [Rows.uptoBulk, Rows.uptoBulkAll]; omega
    · simp [DataW.weights, ht, DataW.weightsEach] at hw
      exact hl a b (r4 fun y hy => hw y (by simp [hy])) (q4 fun y hy => hw y (by simp [hy]))

theorem opens_struct3 {α β γ δ : Type} {P : Program} {t : TypeId} {f0 f1 f2 : Field} {e0 : α → D} {e1 : β → D} {e2 : γ → D} {s0 : α → Nat} {s1 : β → Nat} {s2 : γ → Nat} {k0 l0 : α → Prop} {k1 l1 : β → Prop} {k2 l2 : γ → Prop} {N c0 c1 c2 : Nat} (mk : α → β → γ → δ) {e : δ → D} {sz : δ → Nat} {ok lim : δ → Prop}
    (ht : P.underlying t = some (.struct #[f0, f1, f2])) (ho : f0.offset = 0 ∧ f1.offset = c0 ∧ f2.offset = c0 + c1 ∧ P.cellsOf f0.type = c0 ∧ P.cellsOf f1.type = c1 ∧ P.cellsOf f2.type = c2 ∧ P.cellsOf t = c0 + c1 + c2)
    (h0 : OpensF P f0.type e0 s0 k0 l0 N) (h1 : OpensF P f1.type e1 s1 k1 l1 N) (h2 : OpensF P f2.type e2 s2 k2 l2 N)
    (he : ∀ a b c, e (mk a b c) = .agg [e0 a, e1 b, e2 c]) (hs : ∀ a b c, sz (mk a b c) ≤ s0 a + s1 b + s2 c + 1) (hk : ∀ a b c, k0 a → k1 b → k2 c → ok (mk a b c)) (hl : ∀ a b c, l0 a → l1 b → l2 c → lim (mk a b c)) : OpensF P t e sz ok lim (N + 1) := by
  intro H enc w n cs x hn h
  obtain ⟨xs, n', hf, rfl, hcl, hlen, hfs⟩ := DataW.trod_struct ht h
  obtain ⟨o0, o1, o2, p0, p1, p2, p3⟩ := ho
  match xs, hlen with
  | [y0, y1, y2], _ =>
    have g0 : DataW.trod enc P w 0 (fun _ => true) true n' f0.type ((cs.drop f0.offset).take (P.cellsOf f0.type)) = some y0 := by simpa using hfs 0 f0 rfl
    have g1 : DataW.trod enc P w 0 (fun _ => true) true n' f1.type ((cs.drop f1.offset).take (P.cellsOf f1.type)) = some y1 := by simpa using hfs 1 f1 rfl
    have g2 : DataW.trod enc P w 0 (fun _ => true) true n' f2.type ((cs.drop f2.offset).take (P.cellsOf f2.type)) = some y2 := by simpa using hfs 2 f2 rfl
    obtain ⟨a, r1, r2, r3, r4⟩ := h0 H enc w n' _ _ (by omega) g0
    obtain ⟨b, q1, q2, q3, q4⟩ := h1 H enc w n' _ _ (by omega) g1
    obtain ⟨c, u1, u2, u3, u4⟩ := h2 H enc w n' _ _ (by omega) g2
    rw [o0, p0] at r1
    rw [o1, p1] at q1
    rw [o2, p2] at u1
    refine ⟨mk a b c, ?_, ?_, hk a b c r3 q3 u3, fun hw => ?_⟩
    · rw [he, split3 (hcl.trans p3)]
      exact ⟨_, _, rfl, r1, _, _, rfl, q1, RdAll.one u1⟩
    · have := hs a b c
      simp [Rows.uptoBulk, Rows.uptoBulkAll]; omega
    · simp [DataW.weights, ht, DataW.weightsEach] at hw
      exact hl a b c (r4 fun y hy => hw y (by simp [hy])) (q4 fun y hy => hw y (by simp [hy])) (u4 fun y hy => hw y (by simp [hy]))

theorem opens_struct4 {α β γ ε δ : Type} {P : Program} {t : TypeId} {f0 f1 f2 f3 : Field} {e0 : α → D} {e1 : β → D} {e2 : γ → D} {e3 : ε → D} {s0 : α → Nat} {s1 : β → Nat} {s2 : γ → Nat} {s3 : ε → Nat} {k0 l0 : α → Prop} {k1 l1 : β → Prop} {k2 l2 : γ → Prop} {k3 l3 : ε → Prop} {N c0 c1 c2 c3 : Nat} (mk : α → β → γ → ε → δ) {e : δ → D} {sz : δ → Nat} {ok lim : δ → Prop}
    (ht : P.underlying t = some (.struct #[f0, f1, f2, f3])) (ho : f0.offset = 0 ∧ f1.offset = c0 ∧ f2.offset = c0 + c1 ∧ f3.offset = c0 + c1 + c2 ∧ P.cellsOf f0.type = c0 ∧ P.cellsOf f1.type = c1 ∧ P.cellsOf f2.type = c2 ∧ P.cellsOf f3.type = c3 ∧ P.cellsOf t = c0 + c1 + c2 + c3)
    (h0 : OpensF P f0.type e0 s0 k0 l0 N) (h1 : OpensF P f1.type e1 s1 k1 l1 N) (h2 : OpensF P f2.type e2 s2 k2 l2 N) (h3 : OpensF P f3.type e3 s3 k3 l3 N)
    (he : ∀ a b c d, e (mk a b c d) = .agg [e0 a, e1 b, e2 c, e3 d]) (hs : ∀ a b c d, sz (mk a b c d) ≤ s0 a + s1 b + s2 c + s3 d + 1) (hk : ∀ a b c d, k0 a → k1 b → k2 c → k3 d → ok (mk a b c d)) (hl : ∀ a b c d, l0 a → l1 b → l2 c → l3 d → lim (mk a b c d)) : OpensF P t e sz ok lim (N + 1) := by
  intro H enc w n cs x hn h
  obtain ⟨xs, n', hf, rfl, hcl, hlen, hfs⟩ := DataW.trod_struct ht h
  obtain ⟨o0, o1, o2, o3, p0, p1, p2, p3, p4⟩ := ho
  match xs, hlen with
  | [y0, y1, y2, y3], _ =>
    have g0 : DataW.trod enc P w 0 (fun _ => true) true n' f0.type ((cs.drop f0.offset).take (P.cellsOf f0.type)) = some y0 := by simpa using hfs 0 f0 rfl
    have g1 : DataW.trod enc P w 0 (fun _ => true) true n' f1.type ((cs.drop f1.offset).take (P.cellsOf f1.type)) = some y1 := by simpa using hfs 1 f1 rfl
    have g2 : DataW.trod enc P w 0 (fun _ => true) true n' f2.type ((cs.drop f2.offset).take (P.cellsOf f2.type)) = some y2 := by simpa using hfs 2 f2 rfl
    have g3 : DataW.trod enc P w 0 (fun _ => true) true n' f3.type ((cs.drop f3.offset).take (P.cellsOf f3.type)) = some y3 := by simpa using hfs 3 f3 rfl
    obtain ⟨a, r1, r2, r3, r4⟩ := h0 H enc w n' _ _ (by omega) g0
    obtain ⟨b, q1, q2, q3, q4⟩ := h1 H enc w n' _ _ (by omega) g1
    obtain ⟨c, u1, u2, u3, u4⟩ := h2 H enc w n' _ _ (by omega) g2
    obtain ⟨d, v1, v2, v3, v4⟩ := h3 H enc w n' _ _ (by omega) g3
    rw [o0, p0] at r1
    rw [o1, p1] at q1
    rw [o2, p2] at u1
    rw [o3, p3] at v1
    refine ⟨mk a b c d, ?_, ?_, hk a b c d r3 q3 u3 v3, fun hw => ?_⟩
    · rw [he, split4 (hcl.trans p4)]
      exact ⟨_, _, rfl, r1, _, _, rfl, q1, _, _, rfl, u1, RdAll.one v1⟩
    · have := hs a b c d
      simp [Rows.uptoBulk, Rows.uptoBulkAll]; omega
    · simp [DataW.weights, ht, DataW.weightsEach] at hw
      exact hl a b c d (r4 fun y hy => hw y (by simp [hy])) (q4 fun y hy => hw y (by simp [hy])) (u4 fun y hy => hw y (by simp [hy])) (v4 fun y hy => hw y (by simp [hy]))

/-- the argument j -/
theorem open_arg {α : Type} {P : Program} {t : TypeId} {e : α → D} {sz : α → Nat} {ok lim : α → Prop} (ho : Opens P t e sz ok lim) {H : Type} {enc : TypeId × Value → H} {W : World} {v : Value} {d : DataW H} {p : List MemPlace} (h : DataW.Trod enc P W 0 (fun _ => true) true t v d p) :
    ∃ a : α, Rd AnyB W (e a) v.cells.toList ∧ sz a ≤ Rows.uptoBulk d ∧ ok a ∧ ((∀ y ∈ DataW.weights P t d, y ≤ reachBytes) → lim a) := by
  obtain ⟨n, hn⟩ := h
  exact ho n H enc W n _ _ (Nat.le_refl _) hn
end Go.Proofs.Ytbnpemgmdnghgaa
namespace Go.Proofs.Ytbnpemgmdnghgaa
open Go.RowKit Go.ChangeShapes Go.WideShapes Go.Deep Go.Joins

def okSym (s : Sym) : Prop := i64 s.n
def okRule (r : Rule) : Prop := i64 r.left ∧ ∀ s ∈ r.right, okSym s
def okGram (g : Gram) : Prop := i64 g.terms ∧ i64 g.nons ∧ i64 g.start ∧ ∀ r ∈ g.rules, okRule r
def szSym (_ : Sym) : Nat := 1
def szRule (r : Rule) : Nat := slSz szSym r.right
def szGram (g : Gram) : Nat := slSz szRule g.rules

set_option maxRecDepth 100000 in
theorem opens_symF (N : Nat) : OpensF Try.prog 65 Sym.d szSym okSym any (N + 1) :=
  opens_struct2 (c0 := 1) (c1 := 1) (fun a b => Sym.mk a b) Try.underlying65 ⟨rfl, rfl, by kernel_rfl, by kernel_rfl, by kernel_rfl⟩ (opens_bool Try.underlying4 N) (opens_int Try.underlying3 N)
    (fun _ _ => rfl) (fun _ _ => by simp [szSym]) (fun _ _ _ h => h) (fun _ _ _ _ => trivial)
set_option maxRecDepth 100000 in
theorem opens_ruleF (N : Nat) : OpensF Try.prog 48 Rule.d szRule okRule any (N + 1 + 1) :=
  opens_struct2 (c0 := 1) (c1 := 1) (fun a b => Rule.mk a b) Try.underlying48 ⟨rfl, rfl, by kernel_rfl, by kernel_rfl, by kernel_rfl⟩ (opens_int Try.underlying3 (N + 1)) (opens_slice Try.underlying46 (b := 16) (by kernel_rfl) (opens_symF N))
    (fun _ _ => rfl) (fun _ _ => by simp [szRule]; omega) (fun _ _ h k => ⟨h, k⟩) (fun _ _ _ _ => trivial)
set_option maxRecDepth 100000 in
theorem opens_gramF (N : Nat) : OpensF Try.prog 24 Gram.d szGram okGram any (N + 1 + 1 + 1) :=
  opens_struct4 (c0 := 1) (c1 := 1) (c2 := 1) (c3 := 1) (fun a b c d => Gram.mk a b c d) Try.underlying24 ⟨rfl, rfl, rfl, rfl, by kernel_rfl, by kernel_rfl, by kernel_rfl, by kernel_rfl, by kernel_rfl⟩ (opens_int Try.underlying3 (N + 1 + 1)) (opens_int Try.underlying3 (N + 1 + 1)) (opens_int Try.underlying3 (N + 1 + 1)) (opens_slice Try.underlying22 (b := 32) (by kernel_rfl) (opens_ruleF N))
    (fun _ _ _ _ => rfl) (fun _ _ _ _ => by simp [szGram]; omega) (fun _ _ _ _ h1 h2 h3 h4 => ⟨h1, h2, h3, h4⟩) (fun _ _ _ _ _ _ _ _ => trivial)
theorem opens_gram : Opens Try.prog 24 Gram.d szGram okGram any := by
  intro N H enc w n cs x hn h
  exact opens_gramF N H enc w n cs x (by omega) h

set_option maxRecDepth 100000 in
theorem open_gramV {W : World} {base : Nat} {v : Value} {g : Gram} (hv : Value.okWide Try.prog W .any base 24 v) (h : Rd AnyB W g.d v.cells.toList) : ∃ u, v = .agg #[.int .i64 g.terms, .int .i64 g.nons, .int .i64 g.start, u] ∧ Rd AnyB W (.sl (g.rules.map Rule.d)) [u] := by
  obtain ⟨cs, rfl, hsz⟩ := okWide_struct Try.underlying24 hv
  obtain ⟨c1, r1, e1, h1, h2⟩ := h
  obtain ⟨c2, r2, rfl, h2, h3⟩ := h2
  obtain ⟨c3, r3, rfl, h3, h4⟩ := h3
  rw [RdAll.one_iff] at h4
  simp [Rd] at h1 h2 h3
  subst h1 h2 h3
  have h5 := h4
  obtain ⟨a, cap, L, e, _⟩ := h4
  subst e
  refine ⟨_, ?_, h5⟩
  congr 1
  exact Array.toList_inj.1 e1
end Go.Proofs.Ytbnpemgmdnghgaa
namespace Go.Proofs.Ytbnpemgmdnghgaa
open Go.RowKit Go.ChangeShapes Go.WideShapes Go.Deep Go.Joins

theorem opens_ints : Opens Try.prog 33 (slD D.int) (slSz one) (slOk i64) (slLim 8 any) := fun N => opens_slice Try.underlying33 (by kernel_rfl) (opens_int Try.underlying3 N)
theorem slSz_one {α : Type} (l : List α) : slSz one l = l.length + 1 := by
  induction l with
  | nil => simp [slSz]
  | cons x l ih => simp [slSz, one] at ih ⊢; omega
theorem sl_slD {w : World} {v : Value} {l : List Int} (h : Rd AnyB w (slD D.int l) [v]) : Sl w v (ints l) := sl_rd h

theorem slSz_size (ks : List Tree) : slSz Tree.size ks = sizeL ks + 1 := by
  induction ks with
  | nil => simp [slSz, sizeL]
  | cons k ks ih => simp [slSz, sizeL] at ih ⊢; omega

set_option maxRecDepth 100000 in
theorem opens_treeF : ∀ N, OpensF Try.prog 42 Tree.d Tree.size any any N := by
  intro N
  induction N with
  | zero =>
    intro H enc w n cs x hn h
    obtain rfl : n = 0 := by omega
    simp [DataW.trod] at h
  | succ N ih =>
    exact opens_struct3 (c0 := 1) (c1 := 1) (c2 := 1) (fun r t ks => Tree.node r t ks) Try.underlying42 ⟨rfl, rfl, rfl, by kernel_rfl, by kernel_rfl, by kernel_rfl, by kernel_rfl⟩ (opens_int Try.underlying3 N) (opens_int Try.underlying3 N)
      (opens_slice Try.underlying40 (b := 40) (by kernel_rfl) ih) (fun a b c => by rw [Tree.d_eq]; rfl) (fun a b c => by rw [Tree.size, slSz_size]; simp [one]; omega) (fun _ _ _ _ _ _ => trivial) (fun _ _ _ _ _ _ => trivial)
theorem opens_tree : Opens Try.prog 42 Tree.d Tree.size any any := opens_treeF

set_option maxRecDepth 100000 in
theorem open_treeV {W : World} {base : Nat} {v : Value} {t : Tree} (hv : Value.okWide Try.prog W .any base 42 v) (h : Rd AnyB W t.d v.cells.toList) : ∃ u, v = .agg #[.int .i64 t.rule, .int .i64 t.term, u] ∧ Rd AnyB W (.sl (t.kids.map Tree.d)) [u] := by
  obtain ⟨cs, rfl, hsz⟩ := okWide_struct Try.underlying42 hv
  obtain ⟨u, e, hu⟩ := h.tree
  refine ⟨u, ?_, hu⟩
  have e' : cs.toList = [.int .i64 t.rule, .int .i64 t.term, u] := e
  congr 1
  exact Array.toList_inj.1 e'
end Go.Proofs.Ytbnpemgmdnghgaa
namespace Go.Proofs.Ytbnpemgmdnghgaa
open Go.RowKit

mutual
theorem nodes_size : ∀ t : Tree, (nodes t).length ≤ t.size
  | .node r tm ks => by
    have := nodesL_size ks
    rw [nodes, Tree.size]
    by_cases h : r = -1 <;> simp [h] <;> omega
theorem nodesL_size : ∀ ks : List Tree, (nodesL ks).length ≤ sizeL ks
  | [] => by simp [nodesL, sizeL]
  | k :: ks => by
    have := nodes_size k
    have := nodesL_size ks
    simp [nodesL, sizeL]; omega
end

def twoT : Tree := .node 0 0 [.node 1 0 [.node (-1) 0 []], .node (-1) 0 []]
def ReadPost (t : Tree) (w : World) (e : Ending) (w' : World) : Prop := ∃ v, e = .returned (.agg #[.int .i64 t.rule, .int .i64 t.term, v]) ∧ Rd AnyB w' (.sl (t.kids.map Tree.d)) [v] ∧ Below w.heap.size w w'

end Go.Proofs.Ytbnpemgmdnghgaa
namespace Go.Proofs.Ytbnpemgmdnghgaa.RowRankRefuses
open Go.ChangeShapes Go.WideShapes Go.ChangeAt Go.RowKit
theorem own : ownKnob Try.prog.godebug = none := by kernel_rfl
theorem laidOut : laidOutB Try.prog = true := by kernel_rfl

set_option maxRecDepth 100000 in
theorem contract (H : Type) (enc : TypeId × Value → H) (W : World) (base : Nat) (args : Array Value) (ds gs : List (DataW H)) (before : List MemPlace)
    (hval0 : ∀ (j : Nat) t v, Try.f4.params[j]? = some t → args[j]? = some v → Value.okWide Try.prog W .any base t v)
    (hW : DataW.Whole enc Try.prog Try.f4.params.toList Rows.rankRefusesSpec.vars false W args.toList ds gs before)
    (hk : Rows.uptoSmall H (ds ++ gs) = true) :
    Calls Try.prog 4 args W fun e W' => ∃ v, e = .returned v ∧ Rows.rankRefusesSpec.post enc Try.prog Try.f4 false true false false W args v W' := by
  have hval : ∀ (j : Nat) t v, Try.f4.params[j]? = some t → args[j]? = some v → Value.okWide Try.prog W .any base t v := hval0
  have hW' := hW
  obtain ⟨p, q, hA0, hV, rfl, hfz, hnd⟩ := hW
  have hA : DataW.TrodAll enc Try.prog W 0 (fun _ => true) true Try.f4.params.toList args.toList ds p := hA0
  rw [Try.params4] at hA hval
  obtain ⟨v0, vs0, d0, ds0, p0, q0, hargs, rfl, rfl, h0, r0'⟩ := trodAll_cons hA
  obtain ⟨v1, vs1, d1, ds1, p1, q1, rfl, rfl, rfl, h1, r1'⟩ := trodAll_cons r0'
  obtain ⟨rfl, rfl, rfl⟩ := trodAll_nil r1'
  obtain rfl : args = #[v0, v1] := by cases args; simp_all
  obtain ⟨rfl, rfl⟩ := trodVars_none hV
  have lt0 : ∀ x ∈ p0, x.block < W.heap.size := by obtain ⟨m, hm⟩ := h0; exact DataW.trod_lt m _ _ _ hm
  have tr0 := h0
  have lt1 : ∀ x ∈ p1, x.block < W.heap.size := by obtain ⟨m, hm⟩ := h1; exact DataW.trod_lt m _ _ _ hm
  have tr1 := h1
  have hbulk : Rows.uptoBulk d0 + (Rows.uptoBulk d1 + 0) ≤ 1048576 := by
    have h := of_decide_eq_true hk
    simpa only [Rows.uptoBulkAll, List.append_nil] using h
  obtain ⟨a0, rd0, sz0, k0, li0⟩ := open_arg opens_gram h0
  obtain ⟨u0, rfl, r0⟩ := open_gramV (hval 0 24 v0 rfl rfl) rd0
  obtain ⟨t1, rd1, sz1, _, _⟩ := open_arg opens_tree h1
  obtain ⟨u1, rfl, r1⟩ := open_treeV (hval 1 42 v1 rfl rfl) rd1
  have z1 : t1.size ≤ 1048576 := by omega
  clear hA0 hval0
  refine (Cs.lawRR a0 u0 t1 u1 W r0 r1 (by have := nodes_size t1; omega)).mono fun e W' ⟨he, bel⟩ => ?_
  subst he
  exact ⟨_, rfl, _, _, _, [], _, [], hW', trodAll_mk1 (shut_bool Try.underlying4 _), (trodAll_cons_mk (Below.trod laidOut (by kernel_rfl) (of_decide_eq_true (by kernel_rfl)) tr0 bel lt0) (trodAll_cons_mk (Below.trod laidOut (by kernel_rfl) (of_decide_eq_true (by kernel_rfl)) tr1 bel lt1) trodAll_mk0)), rfl, bel.frame _, fun h => by cases h⟩

set_option maxRecDepth 100000 in
theorem lifted (os : Os) (started : os.Started) (H : Type) (enc : TypeId × Value → H) (F : Stop.Interp) :
    ReturnsInHanded {} Try.checked os 4 .any ((Rows.OpenSpec.upto Rows.rankRefusesSpec).pre6 enc Try.prog Try.f4 Rows.rankRefusesUptoRow.domain false) (((Rows.OpenSpec.upto Rows.rankRefusesSpec).at F).post enc Try.prog Try.f4 false true false false) := by
  refine returnsInHanded_of_cond (C := Try.checked) (s := Rows.OpenSpec.upto Rows.rankRefusesSpec) (k := Rows.uptoSmall) rfl own started (by kernel_rfl) Try.func4
    (OpenSpec.witness (enc := enc) (C := Try.checked) (s := Rows.OpenSpec.upto Rows.rankRefusesSpec) (k := Rows.uptoSmall) rfl false ⟨#[], #[.agg #[.int .i64 0, .int .i64 0, .int .i64 0, .slice none 0 0], .agg #[.int .i64 0, .int .i64 0, .slice none 0 0]], []⟩ 8 (by kernel_rfl) (by kernel_rfl) (by kernel_rfl)
      (x := ([.agg [.lit (.int .i64 0), .lit (.int .i64 0), .lit (.int .i64 0), .nil], .agg [.lit (.int .i64 0), .lit (.int .i64 0), .nil]], [], [])) (by kernel_rfl) rfl (by kernel_rfl)) ?_
  intro W base args ds gs before hval hW _ hk _
  exact contract H enc W base args ds gs before hval hW hk

theorem over : Rows.rankRefusesUptoRow.holds Try.pinned (Rows.OpenSpec.upto Rows.rankRefusesSpec) :=
  OpenClaim.holds_of_cond 4 Try.f4 rfl rfl rfl rfl rfl rfl rfl ⟨rfl, rfl, rfl, rfl, rfl⟩ rfl rfl rfl rfl rfl (by kernel_rfl) Try.func4 (by kernel_rfl)
    (of_decide_eq_true (by kernel_rfl)) (by unfold Func.isWrapper; first | (rw [if_pos (by decide +kernel)]; kernel_rfl) | (rw [if_neg (by decide +kernel)]; exact ⟨rfl, rfl⟩))
    (fun os started H enc _ F => lifted os started H enc F)
end Go.Proofs.Ytbnpemgmdnghgaa.RowRankRefuses
namespace Go.Proofs.Ytbnpemgmdnghgaa
theorem rankRefusesUpto_holds : Rows.RankRefusesUptoSaid := RowRankRefuses.over
#print axioms rankRefusesUpto_holds
end Go.Proofs.Ytbnpemgmdnghgaa
