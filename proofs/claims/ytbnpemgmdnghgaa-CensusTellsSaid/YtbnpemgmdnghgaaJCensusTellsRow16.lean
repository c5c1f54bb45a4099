/- rank.Of. The lengths of a census are those of the second implementation; parlref5.Listed. Plain: what has infinitely many trees has trees of many levels, and the other way round. What rank.numberer.tree and list answer. rank.numberer.tree. -/
import Derived.Test.YtbnpemgmdnghgaaJCensusTellsRow15
import Derived.Test.YtbnpemgmdnghgaaJCensusTellsRow4
import Derived.Deep.RegionHeld3
import Derived.Test.YtbnpemgmdnghgaaJCensusTellsRow13
import Derived.Test.YtbnpemgmdnghgaaJCensusTellsRow14
import Derived.Test.YtbnpemgmdnghgaaJCensusTellsRow9
import Derived.Test.YtbnpemgmdnghgaaJCensusTellsRow5
import Derived.Test.YtbnpemgmdnghgaaJCensusTellsRow2
import Derived.Test.YtbnpemgmdnghgaaJCensusTellsRow12
import Derived.Test.YtbnpemgmdnghgaaJCensusTellsRow3
import Derived.Test.YtbnpemgmdnghgaaJCensusTellsRow6
import Derived.BigQuiet
namespace Go.Proofs.Ytbnpemgmdnghgaa
open Go.RowKit
namespace Cs

/-- what rank.Of answers -/
def RkV (g : Gram) (t : Tree) (n i c : Int) : Prop :=
  (checkT g t ≠ 0 ∧ n = 0 ∧ i = 0 ∧ c = checkT g t) ∨ (checkT g t = 0 ∧ rootS g t ≠ ⟨false, g.start⟩ ∧ n = 0 ∧ i = 0 ∧ c = 3) ∨
  (checkT g t = 0 ∧ rootS g t = ⟨false, g.start⟩ ∧ ((errC g (wl t) ≠ 0 ∧ n = 0 ∧ i = 0 ∧ c = errC g (wl t)) ∨
    (errC g (wl t) = 0 ∧ ((c = 9 ∧ n = 0 ∧ i = 0) ∨ (c = 2 ∧ n = 0 ∧ i = 0) ∨ (c = 0 ∧ n = (wl t : Int))))))
def RkPost (g : Gram) (t : Tree) (w : World) (e : Ending) (w' : World) : Prop := Below w.heap.size w w' ∧ ∃ n i c : Int, e = .returned (.tuple #[.int .i64 n, .int .i64 i, .int .i64 c]) ∧ RkV g t n i c
/-- rank.count's answer, one form -/
def CntF (g : Gram) (vr : Value) (n : Int) (w : World) (p : Value) (c : Int) (w' : World) : Prop :=
  (errC g n ≠ 0 ∧ c = errC g n) ∨ (errC g n = 0 ∧ (c = 9 ∨ c = 2 ∨ (c = 0 ∧ ∃ (N n' : Nat) (S : Nat → Nat → Bool) (d : Cid) (w1 : World), OkC g N ∧ n = (n' : Int) ∧ n' ≤ 24 ∧ p = .pointer (some ⟨d.cb, 0, none⟩) ∧ Below w.heap.size w w1 ∧ CntR g vr N n' d S w1 w')))
theorem cntF_of {g : Gram} {vr : Value} {n : Int} {w w' : World} {e : Ending} (h : CntPost g vr n w e w') : Below w.heap.size w w' ∧ ∃ (p : Value) (k c : Int), e = .returned (.tuple #[p, .int .i64 k, .int .i64 c]) ∧ CntF g vr n w p c w' := by
  obtain ⟨hb, ⟨h1, rfl⟩ | ⟨h1, N, n', S, h2, h3, h4, h5, ⟨h6, rfl⟩ | ⟨h6, h7, rfl⟩ | ⟨h6, h7, d, w1, rfl, h8, h9⟩⟩⟩ := h
  · exact ⟨hb, _, _, _, rfl, .inl ⟨h1, rfl⟩⟩
  · exact ⟨hb, _, _, _, rfl, .inr ⟨h1, .inl rfl⟩⟩
  · exact ⟨hb, _, _, _, rfl, .inr ⟨h1, .inr (.inl rfl)⟩⟩
  · exact ⟨hb, _, _, _, rfl, .inr ⟨h1, .inr (.inr ⟨rfl, N, n', S, d, w1, h2, h3, h4, rfl, h8, h9⟩)⟩⟩
theorem CntR.cbl {g : Gram} {vr : Value} {N n : Nat} {d : Cid} {S : Nat → Nat → Bool} {w1 W : World} (h : CntR g vr N n d S w1 W) : d.cb < W.heap.size := by
  obtain ⟨C, hc⟩ := h
  exact hc.ci.lt
/-- between the regions: the counter or an error -/
def OfMid (g : Gram) (vr : Value) (n : Int) (w0 : World) (p c : Value) (wx : World) : Prop := Below w0.heap.size w0 wx ∧ ∃ (ww : World) (cc : Int), c = .int .i64 cc ∧ Below w0.heap.size w0 ww ∧ CntF g vr n ww p cc wx
theorem okT_of {g : Gram} {t : Tree} (h : checkT g t = 0) : OkT g t ∧ (nodes t).length ≤ 5000 := by
  unfold checkT at h
  by_cases h1 : checkG g ≠ 0
  · rw [if_pos h1] at h; exact absurd h h1
  · rw [if_neg h1] at h
    by_cases h2 : 5000 < (nodes t).length
    · rw [if_pos h2] at h; cases h
    · rw [if_neg h2] at h
      cases hv : validT g t with
      | false => rw [hv] at h; cases h
      | true =>
        unfold validT at hv
        rw [List.all_eq_true] at hv
        exact ⟨hv, by omega⟩

set_option maxHeartbeats 8000000 in
set_option maxRecDepth 100000 in
theorem rankOfE (g : Gram) (ra : Option Addr) (rcap : Nat) (t : Tree) (at' : Option Addr) (ct : Nat) (w : World) (hr : Rd AnyB w (.sl (g.rules.map Rule.d)) [.slice ra g.rules.length rcap]) (hk : Rd AnyB w (.sl (t.kids.map Tree.d)) [.slice at' t.kids.length ct]) (hN : (nodes t).length ≤ 1099511627776) :
    Calls Try.prog 18 #[.agg #[.int .i64 g.terms, .int .i64 g.nons, .int .i64 g.start, .slice ra g.rules.length rcap], .agg #[.int .i64 t.rule, .int .i64 t.term, .slice at' t.kids.length ct]] w (RkPost g t w) := by
  obtain ⟨w0, HW0⟩ := nameIt ((w.alloc (.cells #[.int .i64 g.terms, .int .i64 g.nons, .int .i64 g.start, .slice ra g.rules.length rcap] 24)).alloc (.cells #[.int .i64 t.rule, .int .i64 t.term, .slice at' t.kids.length ct] 42))
  have hb0 : Below w.heap.size w w0 := by rw [← HW0.out]; exact ((Below.refl _ _).alloc (Nat.le_refl _) _).alloc (by simp) _
  have X1 : Hid (w0.heap[w.heap.size]? = some (.cells #[.int .i64 g.terms, .int .i64 g.nons, .int .i64 g.start, .slice ra g.rules.length rcap] 24 (0, 0))) := by
    rw [← HW0.out]; exact bx_keep (bx_new _ _ _ rfl) ((Below.refl _ _).alloc (Nat.le_refl _) _)
  have X2 : Hid (w0.heap[w.heap.size + 1]? = some (.cells #[.int .i64 t.rule, .int .i64 t.term, .slice at' t.kids.length ct] 42 (0, 0))) := by
    rw [← HW0.out]; exact bx_new _ _ _ (by simp)
  have HR := Lib.hid (hr.below hb0)
  have HK := Lib.hid (hk.below hb0)
  have HCK := Lib.hid (treeCheckE g ra rcap t at' ct w0 HR.out HK.out hN)
  have HRT : Hid (∀ W, Below w0.heap.size w0 W → Calls Try.prog 37 #[.agg #[.int .i64 g.terms, .int .i64 g.nons, .int .i64 g.start, .slice ra g.rules.length rcap], .agg #[.int .i64 t.rule, .int .i64 t.term, .slice at' t.kids.length ct]] W fun e w' => e = .returned (.agg #[.bool (rootS g t).term, .int .i64 (rootS g t).n]) ∧ Below W.heap.size W w') :=
    fun W hb => rootE g ra rcap t at' t.kids.length ct W (HR.out.below hb)
  have HWD : Hid (∀ W, Below w0.heap.size w0 W → Calls Try.prog 20 #[.agg #[.int .i64 t.rule, .int .i64 t.term, .slice at' t.kids.length ct]] W (IntsPost (leavesOf (nodes t)) W)) :=
    fun W hb => wordT t _ W (HK.out.below hb) (by omega)
  have HCN : Hid (∀ W, Below w0.heap.size w0 W → Calls Try.prog 36 #[.agg #[.int .i64 g.terms, .int .i64 g.nons, .int .i64 g.start, .slice ra g.rules.length rcap], .int .i64 ((wl t : Nat) : Int)] W (fun e w' => Below W.heap.size W w' ∧ ∃ (p : Value) (k c : Int), e = .returned (.tuple #[p, .int .i64 k, .int .i64 c]) ∧ CntF g (.slice ra g.rules.length rcap) (wl t : Int) W p c w')) :=
    fun W hb => (countE g ra rcap _ W (HR.out.below hb)).mono fun _ _ h => cntF_of h
  have HLW : Hid ((leavesOf (nodes t)).length = wl t) := rfl
  have HOF : Hid (checkT g t = 0 → ∀ (N : Nat) (d : Cid) (S : Nat → Nat → Bool) (w1 W : World) (xb : Nat), OkC g N → wl t ≤ 24 → Below w0.heap.size w0 w1 → CntR g (.slice ra g.rules.length rcap) N (wl t) d S w1 W → d.cb < xb →
      W.heap[xb]? = some (.cells #[.int .i64 g.terms, .int .i64 g.nons, .int .i64 g.start, .slice ra g.rules.length rcap, .pointer (some ⟨d.cb, 0, none⟩)] 85 (0, 0)) →
      Calls Try.prog 38 #[.pointer (some ⟨xb, 0, none⟩), .agg #[.int .i64 t.rule, .int .i64 t.term, .slice at' t.kids.length ct]] W (OfTPost g (.slice ra g.rules.length rcap) N (wl t) d S w1 t W)) := by
    intro hck N d S w1 W xb hok h24 hb hc hxb hx
    obtain ⟨hv, h5⟩ := okT_of hck
    exact ofTE hok h24 (HR.out.below hb) hxb 5000 t h5 (by omega) hv (Nat.le_refl _) at' ct W (HK.out.below hb) hc hx
  obtain ⟨PST, HP⟩ := nameIt (RkPost g t w)
  rw [HP.out]
  have HFIN : Hid (∀ w', Below w0.heap.size w0 w' → ∀ n i c : Int, RkV g t n i c → PST (.returned (.tuple #[.int .i64 n, .int .i64 i, .int .i64 c])) w') := by
    intro w' h n i c hv
    rw [← HP.out]
    exact ⟨hb0.trans (h.mono hb0.size), n, i, c, rfl, hv⟩
  have HCL : Hid (∀ W', Below w0.heap.size w0 W' → W'.cell? ⟨w.heap.size, 0, none⟩ = some (.int .i64 g.terms) ∧ W'.cell? ⟨w.heap.size, 0 + 1, none⟩ = some (.int .i64 g.nons) ∧ W'.cell? ⟨w.heap.size, 0 + 2, none⟩ = some (.int .i64 g.start) ∧ W'.cell? ⟨w.heap.size, 0 + 3, none⟩ = some (.slice ra g.rules.length rcap) ∧ W'.cell? ⟨w.heap.size + 1, 0, none⟩ = some (.int .i64 t.rule) ∧ W'.cell? ⟨w.heap.size + 1, 0 + 1, none⟩ = some (.int .i64 t.term) ∧ W'.cell? ⟨w.heap.size + 1, 0 + 2, none⟩ = some (.slice at' t.kids.length ct)) :=
    fun W' h => cells7 h X1.out X2.out
  obtain ⟨CK, HCKN⟩ := nameIt (checkT g t)
  obtain ⟨RS, HRSN⟩ := nameIt (rootS g t)
  obtain ⟨rst, rsn⟩ := RS
  obtain ⟨L, HL⟩ := nameIt (wl t)
  have HV1 : Hid (CK ≠ 0 → RkV g t 0 0 CK) := by intro h; rw [← HCKN.out] at h ⊢; exact .inl ⟨h, rfl, rfl, rfl⟩
  have HV2 : Hid (CK = 0 → (rst == false && rsn == g.start) = false → RkV g t 0 0 3) := by
    intro h h'
    refine .inr (.inl ⟨by rw [HCKN.out]; exact h, ?_, rfl, rfl, rfl⟩)
    rw [HRSN.out]
    intro e
    cases e
    simp at h'
  have HV3 : Hid (CK = 0 → (rst == false && rsn == g.start) = true → ∀ n i c : Int, ((errC g L ≠ 0 ∧ n = 0 ∧ i = 0 ∧ c = errC g L) ∨
    (errC g L = 0 ∧ ((c = 9 ∧ n = 0 ∧ i = 0) ∨ (c = 2 ∧ n = 0 ∧ i = 0) ∨ (c = 0 ∧ n = (L : Int))))) → RkV g t n i c) := by
    intro h h' n i c hh
    refine .inr (.inr ⟨by rw [HCKN.out]; exact h, ?_, by rw [HL.out]; exact hh⟩)
    rw [HRSN.out]
    simp at h'
    obtain ⟨rfl, rfl⟩ := h'
    rfl
  rw [HCKN.out] at HCK HOF
  rw [HRSN.out] at HRT
  rw [HL.out] at HCN HLW HOF
  have hnb : (nodes t).length ≤ 1099511627776 := hN
  have HLL : Hid (L ≤ (nodes t).length) := by
    show L ≤ _
    rw [← HLW.out]; unfold leavesOf; exact List.length_filterMap_le _ _
  have hL := HLL.out
  have hLb : L ≤ 1099511627776 := by omega
  clear hL HLL hnb hN
  obtain ⟨gt, HGT⟩ := nameIt g.terms
  obtain ⟨gn, HGN⟩ := nameIt g.nons
  obtain ⟨gs, HGS⟩ := nameIt g.start
  obtain ⟨rl, HRL⟩ := nameIt g.rules.length
  obtain ⟨tr, HTR⟩ := nameIt t.rule
  obtain ⟨tm, HTM⟩ := nameIt t.term
  obtain ⟨tk, HTK⟩ := nameIt t.kids.length
  rw [HGT.out, HGN.out, HGS.out, HRL.out, HTR.out, HTM.out, HTK.out] at HW0 HCK HRT HCL
  rw [HTR.out, HTM.out, HTK.out] at HWD
  rw [HGT.out, HGN.out, HGS.out, HRL.out] at HCN
  simp only [HGT.out, HGN.out, HGS.out, HRL.out, HTR.out, HTM.out, HTK.out] at HOF
  rw [HGS.out] at HV2 HV3
  rw [HGT.out, HGN.out, HGS.out, HRL.out, HTR.out, HTM.out, HTK.out]
  clear hr hk HR HK hb0 HP X1 X2
  obtain ⟨x0, x1, x2, x3, y0, y1, y2⟩ := HCL.out w0 (Below.refl _ _)
  go_enter Try.func18, Try.ntmps18
  go_upto_region 1 with fail
  rw [HW0.out]
  go_wp2_with fail
  refine HCK.out.mono ?_
  rintro e w1 ⟨rfl, hb1⟩
  have HB1 := Lib.hid hb1
  clear hb1 x0 x1 x2 x3 y0 y1 y2
  by_cases hck : CK = 0
  · subst hck
    have HCNE := Lib.hid (gramN gs)
    have HNE := symNe rst false rsn gs
    obtain ⟨x0, x1, x2, x3, y0, y1, y2⟩ := HCL.out w1 HB1.out
    have k0 := aft_cell x0
    have k1 := aft_cell x1
    have k2 := aft_cell x2
    have k3 := aft_cell x3
    have k4 := aft_cell y0
    have k5 := aft_cell y1
    have k6 := aft_cell y2
    clear x0 x1 x2 x3 y0 y1 y2
    have HRT1 := Lib.hid (fun W (hb : Below w1.heap.size w1 W) => HRT.out W (HB1.out.trans (hb.mono HB1.out.size)))
    obtain ⟨eq, HEQ⟩ := nameIt (rst == false && rsn == gs)
    simp only [HEQ.out] at HNE
    rw [HEQ.out] at HV2 HV3
    go_upto_region 4 with fail
    refine wp_region_after (by kernel_rfl) (by kernel_rfl) ?_
    repeat (go_big_quiet_step (first | (with_reducible exact Calls.after (HRT1.out _ (Aft.bel _))) | (with_reducible exact Calls.after (HCNE.out _))))
    refine wpQuiet_nil ?_
    rintro w2 ⟨⟨_, hb2⟩, rfl⟩
    have HB2 := Lib.hid (HB1.out.trans (hb2.mono HB1.out.size))
    clear hb2 k0 k1 k2 k3 k4 k5 k6 HNE HCNE HRT1 HRT
    cases eq with
    | false =>
      have HF := Lib.hid (HFIN.out w2 HB2.out _ _ _ (HV2.out (by simp) rfl))
      go_wp2_with fail
      first | exact HF.out | (refine bodyPost_ret (results_tmp3 Try.results18 _ _ _) rfl ?_; exact HF.out)
    | true =>
      have HV4 := Lib.hid (HV3.out (by simp) rfl)
      obtain ⟨x0, x1, x2, x3, y0, y1, y2⟩ := HCL.out w2 HB2.out
      go_upto_region 6 with fail
      go_cut [8, 10] (fun x y wx => Hid (OfMid g (.slice ra rl rcap) (L : Int) w0 x y wx))
      case first =>
        go_region_held3 (fun w' => w'.cell? ⟨w.heap.size, 0, none⟩ = some (.int .i64 gt) ∧ w'.cell? ⟨w.heap.size, 0 + 1, none⟩ = some (.int .i64 gn) ∧ w'.cell? ⟨w.heap.size, 0 + 2, none⟩ = some (.int .i64 gs) ∧ w'.cell? ⟨w.heap.size, 0 + 3, none⟩ = some (.slice ra rl rcap) ∧ w'.cell? ⟨w.heap.size + 1, 0, none⟩ = some (.int .i64 tr) ∧ w'.cell? ⟨w.heap.size + 1, 0 + 1, none⟩ = some (.int .i64 tm) ∧ w'.cell? ⟨w.heap.size + 1, 0 + 2, none⟩ = some (.slice at' tk ct))
          (first | exact HCL.out _ HB2.out.drew | exact HCL.out _ HB4.out | exact HCL.out _ HB3.out | fail)
          (first
            | (go_at_call 20; (with_reducible refine (HWD.out _ HB2.out.drew).mono ?_); rintro e w3 ⟨v3, rfl, hs3, hb3⟩; have HB3 : Hid (Below w0.heap.size w0 w3) := HB2.out.drew.trans (hb3.mono HB2.out.size); obtain ⟨a3, c3, rfl⟩ := hs3.form; rw [ints_len, HLW.out]; clear hs3 hb3)
            | (go_at_call 36; (with_reducible refine (HCN.out _ HB3.out).mono ?_); rintro e w4 ⟨hb4, p4, q4, c4, rfl, hc4⟩; have HB4 : Hid (Below w0.heap.size w0 w4) := HB3.out.trans (hb4.mono HB3.out.size); have HC4 := Lib.hid hc4; have HB3' := Lib.hid HB3.out; clear hb4 hc4)
            | fail)
        go_wp2_with fail
        go_meet
        exact ⟨HB4.out, w3, c4, rfl, HB3.out, HC4.out⟩
      case rest =>
        clear x0 x1 x2 x3 y0 y1 y2
        obtain ⟨hb4, ww, cc, rfl, hbw, hcf⟩ := hcut.out
        obtain ⟨w4, rfl⟩ : ∃ ww : World, ww = wc := ⟨_, rfl⟩
        have HB4 := Lib.hid hb4
        have HBW := Lib.hid hbw
        have HCF := Lib.hid hcf
        clear hcut hb4 hbw hcf
        obtain ⟨x0, x1, x2, x3, y0, y1, y2⟩ := HCL.out w4 HB4.out
        by_cases hcc : cc = 0
        · subst hcc
          rcases HCF.out with ⟨h1, h2⟩ | ⟨he, h2 | h2 | ⟨_, N, n', S, d, w1', hok, hnl, hn24, rfl, hbw1, hcr⟩⟩
          · exact absurd h2.symm h1
          · cases h2
          · cases h2
          obtain rfl : L = n' := by omega
          have HB1' : Hid (Below w0.heap.size w0 w1') := HBW.out.trans (hbw1.mono HBW.out.size)
          have HCR := Lib.hid hcr
          obtain ⟨w5, HW5⟩ := nameIt (w4.alloc (.cells #[.int .i64 gt, .int .i64 gn, .int .i64 gs, .slice ra rl rcap, .pointer (some ⟨d.cb, 0, none⟩)] 85))
          have HB45 : Hid (Below w4.heap.size w4 w5) := by rw [← HW5.out]; exact (Below.refl _ _).alloc (Nat.le_refl _) _
          have X5 : Hid (w5.heap[w4.heap.size]? = some (.cells #[.int .i64 gt, .int .i64 gn, .int .i64 gs, .slice ra rl rcap, .pointer (some ⟨d.cb, 0, none⟩)] 85 (0, 0))) := by rw [← HW5.out]; exact bx_new _ _ _ rfl
          have HC5 := Lib.hid (hcr.keep HB45.out)
          have HB5 := Lib.hid (HB4.out.trans (HB45.out.mono HB4.out.size))
          have HOF1 := Lib.hid (HOF.out (by simp) N d S w1' w5 w4.heap.size hok hn24 HB1'.out HC5.out hcr.cbl X5.out)
          have HFE : Hid (∀ w', Below w1'.heap.size w1' w' → ∀ i : Int, PST (.returned (.tuple #[.int .i64 (L : Int), .int .i64 i, .int .i64 0])) w') := by
            intro w' hb' i
            exact HFIN.out w' (HB1'.out.trans (hb'.mono HB1'.out.size)) (L : Int) i 0 (HV4.out (L : Int) i 0 (.inr ⟨he, .inr (.inr ⟨rfl, rfl⟩)⟩))
          obtain ⟨xb, HXB⟩ := nameIt w4.heap.size
          rw [HXB.out] at HOF1 X5
          clear hok hbw1 hcr HCF he hnl
          obtain ⟨z0, z1, z2, z3, z4, z5, z6⟩ := HCL.out w5 HB5.out
          clear x0 x1 x2 x3 y0 y1 y2
          obtain ⟨x0, x1, x2, x3, y0, y1, y2⟩ := HCL.out w4 HB4.out
          have hs1 : w.heap.size < w4.heap.size := lt_of_cell x0
          have hs2 : w.heap.size + 1 < w4.heap.size := lt_of_cell y0
          go_upto_region 9 with fail
          go_wp2_with fail
          simp only [HW5.out, HXB.out]
          with_reducible refine HOF1.out.mono ?_
          rintro e w6 ⟨i, rfl, hf6, hc6⟩
          rw [HL.out]
          have HF := Lib.hid (HFE.out w6 hc6.bel i)
          clear hf6 hc6
          go_wp2_with fail
          first | exact HF.out | (refine bodyPost_ret (results_tmp3 Try.results18 _ _ _) rfl ?_; exact HF.out)
        · have hcc' : (cc != 0) = true := by simpa using hcc
          have HF := Lib.hid (HFIN.out w4 HB4.out 0 0 cc (HV4.out 0 0 cc (by
            rcases HCF.out with ⟨h1, h2⟩ | ⟨h1, h2 | h2 | ⟨h2, _⟩⟩
            · exact .inl ⟨h1, rfl, rfl, h2⟩
            · exact .inr ⟨h1, .inl ⟨h2, rfl, rfl⟩⟩
            · exact .inr ⟨h1, .inr (.inl ⟨h2, rfl, rfl⟩)⟩
            · exact absurd h2 hcc)))
          go_wp2_with fail
          first | exact HF.out | (refine bodyPost_ret (results_tmp3 Try.results18 _ _ _) rfl ?_; exact HF.out)
  · have HF := Lib.hid (HFIN.out w1 HB1.out _ _ _ (HV1.out hck))
    have hck' : (CK != 0) = true := by simpa using hck
    go_wp2_with fail
    first | exact HF.out | (refine bodyPost_ret (results_tmp3 Try.results18 _ _ _) rfl ?_; exact HF.out)
end Cs
end Go.Proofs.Ytbnpemgmdnghgaa
namespace Go.Proofs.Ytbnpemgmdnghgaa
open Go.RowKit
namespace Cs

theorem fold_still {α β : Type} {f : β × Bool → α → β × Bool} (hf : ∀ st a, (f st a).2 = false → f st a = st) : ∀ (l : List α) (st : β × Bool), (l.foldl f st).2 = false → l.foldl f st = st ∧ ∀ a ∈ l, f st a = st
  | [], st, _ => ⟨rfl, fun a h => by cases h⟩
  | a :: l, st, h => by
    rw [List.foldl_cons] at h
    obtain ⟨h1, h2⟩ := fold_still hf l _ h
    rw [h1] at h
    have h3 := hf st a h
    rw [h3] at h1 h2
    refine ⟨by rw [List.foldl_cons, h3]; exact h1, fun b hb => ?_⟩
    rcases List.mem_cons.1 hb with rfl | hb
    · exact h3
    · exact h2 b hb
theorem p1_still {r : Rule} (st : (Nat → Nat → Bool) × Bool) (k : Nat) (h : (p1 r st k).2 = false) : p1 r st k = st := by
  unfold p1 at h ⊢
  split
  · rename_i hc; rw [if_pos hc] at h; cases h
  · rfl
theorem p3_closed {n : Nat} {l : List Rule} {S : Nat → Nat → Bool} (h : (p3 n l S).2 = false) {r : Rule} (hr : r ∈ l) {k : Nat} (hk : k ≤ n) (hc : canK S r.right k = true) : S r.left.toNat k = true := by
  have h2 := (fold_still (f := p2 n) (fun st r hf => (fold_still (f := p1 r) p1_still _ st hf).1) l (S, false) h).2 r hr
  have h3 := (fold_still (f := p1 r) p1_still (List.range (n + 1)) (S, false) (by show (p2 n (S, false) r).2 = false; rw [h2])).2 k (List.mem_range.2 (by omega))
  cases hS : S r.left.toNat k with
  | true => rfl
  | false =>
    unfold p1 at h3
    simp only at h3
    rw [if_pos (by rw [hS, hc]; rfl)] at h3
    have := congrArg Prod.snd h3
    cases this
theorem itP_sound {g : Gram} {N n : Nat} (hok : OkC g N) : ∀ q, Ln.Sound g.rules (itP n g.rules q (fun _ _ => false)) := by
  have hp : ∀ i, i < g.rules.length → ∀ s ∈ Ln.rt g.rules i, s.term = false → 0 ≤ s.n := by
    intro i hi s hs ht
    rw [Ln.rt_eq hi] at hs
    exact (hok.r _ (List.getElem_mem hi) s hs ht).1
  intro q
  induction q with
  | zero => intro a k h; cases h
  | succ q ih =>
    rw [itP_snoc]
    have key : Ln.Sound g.rules (p3 n g.rules (itP n g.rules q (fun _ _ => false))).1 := by
      unfold p3
      refine fold_inv (P := fun st : (Nat → Nat → Bool) × Bool => Ln.Sound g.rules st.1) g.rules _ (fun r hr st h => ?_) ih
      unfold p2
      refine fold_inv (P := fun st : (Nat → Nat → Bool) × Bool => Ln.Sound g.rules st.1) _ _ (fun k hk st h => ?_) h
      have hkn : k ≤ n := by have := List.mem_range.1 hk; omega
      unfold p1
      split
      · rename_i hc
        rw [Bool.and_eq_true] at hc
        intro a j hj
        have hj' : updB st.1 r.left.toNat k a j = true := hj
        unfold updB at hj'
        by_cases e : a = r.left.toNat ∧ j = k
        · obtain ⟨rfl, rfl⟩ := e
          obtain ⟨i, hi, rfl⟩ := List.getElem_of_mem hr
          have h1 : Ln.atR st.1 n ((Ln.rt g.rules i).take (Ln.rt g.rules i).length) j = true := by
            rw [atR_canK st.1 n _ _ (Nat.le_refl _) j hkn, List.take_length, Ln.rt_eq hi]; exact hc.2
          have h2 := Ln.at_sound h hp hi _ j (Nat.le_refl _) h1
          exact ⟨i, h2, by rw [Ln.lft_eq hi]; have := (hok.l _ hr).1; omega⟩
        · rw [if_neg e] at hj'
          exact h a j hj'
      · exact h
    exact key
theorem done_has {g : Gram} {N n : Nat} {S : Nat → Nat → Bool} (hok : OkC g N) (h : DoneC g n S) {a k : Nat} (hk : k ≤ n) : S a k = true ↔ Ln.Has g.rules (a : Int) k := by
  obtain ⟨⟨q, hq⟩, hp⟩ := h
  have hs : Ln.Sound g.rules S := by rw [hq]; exact itP_sound hok q
  refine Ln.set_right hs (fun i hi m hm ha => ?_) (fun i hi => by rw [Ln.lft_eq hi]; exact (hok.l _ (List.getElem_mem hi)).1) hk
  have h1 : canK S (Ln.rt g.rules i) m = true := by
    have := atR_canK S n (Ln.rt g.rules i) (Ln.rt g.rules i).length (Nat.le_refl _) m hm
    rw [List.take_length] at this
    rw [← this]; exact ha
  rw [Ln.rt_eq hi] at h1
  rw [Ln.lft_eq hi]
  exact p3_closed hp (List.getElem_mem hi) hm h1
theorem okC_len4 {g : Gram} (h : checkG g = 0) : ∀ r ∈ g.rules, r.right.length ≤ 1000 := by
  unfold checkG at h
  by_cases hb : badHead g = true
  · rw [if_pos hb] at h; cases h
  · rw [if_neg hb] at h
    by_cases hl : 32 < g.rules.length
    · rw [if_pos hl] at h; cases h
    · rw [if_neg hl] at h
      intro r hr
      have := (faultsFrom_zero h r hr).2.2.1
      omega
theorem treesAll {g : Gram} {ra : Option Addr} {rcap N n : Nat} {lb most bt : Nat} {rb : Nat → Nat} {H : Nat → Nat → Bool} {w1 : World} (h : LE g ra rcap N n lb most bt rb H w1) (hn : n ≤ 400) (hm1 : 1 ≤ most) (hm2 : most ≤ 1000) (hok : ∀ r ∈ g.rules, ∀ s ∈ r.right, okS N s) (h4 : ∀ r ∈ g.rules, r.right.length ≤ 1000) :
    ∀ d, d ≤ 1000 → TsP g N n lb most H w1 d
  | 0, hd => treesL h hn hm1 hm2 hok h4 trivial 0 hd fun d0 e => by omega
  | d + 1, hd => treesL h hn hm1 hm2 hok h4 trivial (d + 1) hd fun d0 e => by
    obtain rfl : d = d0 := by omega
    exact rowsL h hn hm1 hm2 d (treesAll h hn hm1 hm2 hok h4 d (by omega))
end Cs
end Go.Proofs.Ytbnpemgmdnghgaa
namespace Go.Proofs.Ytbnpemgmdnghgaa
open Go.RowKit
namespace Cs

theorem nodupN_le : ∀ (l m : List Nat), l.Nodup → (∀ x ∈ l, x ∈ m) → l.length ≤ m.length
  | [], m, _, _ => by simp
  | a :: l, m, hn, hs => by
    have ha := hs a List.mem_cons_self
    rw [List.nodup_cons] at hn
    have := nodupN_le l (m.erase a) hn.2 fun x hx => by
      have hne : x ≠ a := fun e => hn.1 (e ▸ hx)
      exact (List.mem_erase_of_ne hne).2 (hs x (List.mem_cons_of_mem _ hx))
    rw [List.length_erase_of_mem ha] at this
    have : 0 < m.length := List.length_pos_of_mem ha
    simp; omega
theorem nodup_map_range {f : Nat → Nat} : ∀ n, (∀ a b, a < b → b < n → f a ≠ f b) → ((List.range n).map f).Nodup
  | 0, _ => by simp
  | n + 1, h => by
    rw [List.range_succ, List.map_append, List.nodup_append]
    refine ⟨nodup_map_range n fun a b h1 h2 => h a b h1 (by omega), by simp, ?_⟩
    intro x hx y hy
    simp at hx hy
    obtain ⟨a, ha, rfl⟩ := hx
    subst hy
    exact h a n ha (by omega)
/-- more nodes than there are: two are the same -/
theorem pigeon {size : Nat} {f : Nat → Nat} (h : ∀ i, i ≤ size → f i < size) : ∃ a b, a < b ∧ b ≤ size ∧ f a = f b := by
  refine Classical.byContradiction fun hn => ?_
  have h1 : ((List.range (size + 1)).map f).Nodup := nodup_map_range (size + 1) fun a b hab hb e => hn ⟨a, b, hab, by omega, e⟩
  have h2 := nodupN_le _ (List.range size) h1 fun x hx => by
    obtain ⟨i, hi, rfl⟩ := List.mem_map.1 hx
    exact List.mem_range.2 (h i (by have := List.mem_range.1 hi; omega))
  simp at h2
  omega
/-- an edge: a symbol of a rule, between others that have trees -/
def Ed (rules : List Rule) (S : Nat → Nat → Bool) (A k B j : Nat) : Prop :=
  ∃ r ∈ rules, r.left = (A : Int) ∧ ∃ (p : Nat) (s : Sym) (a : Nat), r.right[p]? = some s ∧ s.term = false ∧ s.n.toNat = B ∧ a + j ≤ k ∧ S B j = true ∧ canK S (r.right.take p) a = true ∧ canK S (r.right.drop (p + 1)) (k - a - j) = true
section
variable {rules : List Rule} {S : Nat → Nat → Bool} {N n : Nat}
theorem e5_inv (hl : ∀ r ∈ rules, 0 ≤ r.left) {u v : Nat} (h : e5 S n rules u v = true) : ∃ A k B j, k ≤ n ∧ j ≤ n ∧ u = A * (n + 1) + k ∧ v = B * (n + 1) + j ∧ Ed rules S A k B j := by
  let Q : Nat → Nat → Prop := fun u v => ∃ A k B j, k ≤ n ∧ j ≤ n ∧ u = A * (n + 1) + k ∧ v = B * (n + 1) + j ∧ Ed rules S A k B j
  have key : ∀ u v, e5 S n rules u v = true → Q u v := by
    unfold e5
    refine fold_inv (P := fun F : Nat → Nat → Bool => ∀ u v, F u v = true → Q u v) rules _ (fun r hr F hF => ?_) (fun u v h => by cases h)
    unfold e4
    refine fold_inv (P := fun F : Nat → Nat → Bool => ∀ u v, F u v = true → Q u v) _ _ (fun k hk F hF => ?_) hF
    have hkn : k ≤ n := by have := List.mem_range.1 hk; omega
    unfold e3
    refine fold_inv (P := fun F : Nat → Nat → Bool => ∀ u v, F u v = true → Q u v) _ _ (fun i hi F hF => ?_) hF
    have hil := List.mem_range.1 hi
    have hg : r.right.getD i ⟨true, 0⟩ = r.right[i] := by rw [List.getD_eq_getElem?_getD, List.getElem?_eq_getElem hil]; rfl
    show ∀ u v, (if (r.right.getD i ⟨true, 0⟩).term then F else e2 S n r k i F (k + 1)) u v = true → Q u v
    rw [hg]
    cases ht : (r.right[i]).term with
    | true => exact hF
    | false =>
      simp only [Bool.false_eq_true, if_false]
      unfold e2
      refine fold_inv (P := fun F : Nat → Nat → Bool => ∀ u v, F u v = true → Q u v) _ _ (fun j hj F hF => ?_) hF
      have hjk : j ≤ k := by have := List.mem_range.1 hj; omega
      unfold e1
      rw [hg]
      split
      · rename_i hc
        rw [Bool.and_eq_true] at hc
        intro u v huv
        unfold updB at huv
        by_cases e : u = r.left.toNat * (n + 1) + k ∧ v = r.right[i].n.toNat * (n + 1) + j
        · obtain ⟨a, ha, h1, h2⟩ := splitK_iff.1 hc.2
          exact ⟨r.left.toNat, k, r.right[i].n.toNat, j, hkn, by omega, e.1, e.2, r, hr, by have := hl r hr; omega, i, r.right[i], a, List.getElem?_eq_getElem hil, ht, rfl, by omega, hc.1, h1, by rw [show k - a - j = k - j - a by omega]; exact h2⟩
        · rw [if_neg e] at huv
          exact hF u v huv
      · exact hF
  exact key u v h
theorem pair_eq {n A k B j : Nat} (hk : k ≤ n) (hj : j ≤ n) (h : A * (n + 1) + k = B * (n + 1) + j) : A = B ∧ k = j := by
  have h1 : (A * (n + 1) + k) / (n + 1) = A := by rw [Nat.mul_comm, Nat.mul_add_div (by omega), Nat.div_eq_of_lt (by omega)]; omega
  have h2 : (B * (n + 1) + j) / (n + 1) = B := by rw [Nat.mul_comm, Nat.mul_add_div (by omega), Nat.div_eq_of_lt (by omega)]; omega
  have : A = B := by rw [← h1, ← h2, h]
  subst this
  exact ⟨rfl, by omega⟩
/-- a tree of just so many levels -/
def Ex (rules : List Rule) (h A k : Nat) : Prop := 1 ≤ h ∧ cnt rules (h - 1) A k < cnt rules h A k
theorem oN_lt {c c' : Nat → Nat → Nat} {s : Sym} {i : Nat} (h : oN c' s i < oN c s i) : s.term = false ∧ c' s.n.toNat i < c s.n.toNat i := by
  unfold oN at h
  cases ht : s.term with
  | true => rw [ht] at h; exact absurd h (Nat.lt_irrefl _)
  | false => rw [ht] at h; exact ⟨rfl, h⟩
theorem cR_lt {o o' : Sym → Nat → Nat} (hm : ∀ s i, o' s i ≤ o s i) {A : Int} {k : Nat} : ∀ (rs : List Rule), cR o' A k rs < cR o A k rs → ∃ r ∈ rs, r.left = A ∧ cN o' r.right k < cN o r.right k
  | [], h => absurd h (Nat.lt_irrefl _)
  | r :: rs, h => by
    rw [cR, cR] at h
    by_cases c : r.left = A ∧ cN o' r.right k < cN o r.right k
    · exact ⟨r, List.mem_cons_self, c⟩
    · have : cR o' A k rs < cR o A k rs := by
        by_cases e : r.left = A
        · rw [if_pos e, if_pos e] at h
          have := cN_mono hm r.right k
          have : ¬ cN o' r.right k < cN o r.right k := fun hh => c ⟨e, hh⟩
          omega
        · rw [if_neg e, if_neg e] at h; omega
      obtain ⟨r', h1, h2⟩ := cR_lt hm rs this
      exact ⟨r', List.mem_cons_of_mem _ h1, h2⟩
theorem cR_lt_of {o o' : Sym → Nat → Nat} (hm : ∀ s i, o' s i ≤ o s i) {A : Int} {k : Nat} : ∀ (rs : List Rule) (r : Rule), r ∈ rs → r.left = A → cN o' r.right k < cN o r.right k → cR o' A k rs < cR o A k rs
  | r' :: rs, r, hr, hl, hlt => by
    rw [cR, cR]
    have h1 : (if r'.left = A then cN o' r'.right k else 0) ≤ (if r'.left = A then cN o r'.right k else 0) := by
      by_cases e : r'.left = A
      · rw [if_pos e, if_pos e]; exact cN_mono hm _ _
      · rw [if_neg e, if_neg e]; exact Nat.le_refl _
    rcases List.mem_cons.1 hr with rfl | hr
    · rw [if_pos hl, if_pos hl]
      have := cR_mono hm (A := A) (k := k) rs
      omega
    · have := cR_lt_of hm rs r hr hl hlt
      omega
variable (hclo : ∀ r ∈ rules, ∀ k, k ≤ n → canK S r.right k = true → S r.left.toNat k = true)
include hclo
/-- where there are trees at all -/
theorem cnt_S {h A k : Nat} (hk : k ≤ n) (hp : 0 < cnt rules h A k) : S A k = true := (enF_cnt hclo h A k hk).2 hp
theorem oN_has {h : Nat} {s : Sym} {i : Nat} (hi : i ≤ n) (hp : 0 < oN (cnt rules h) s i) : hasK S s i = true := by
  unfold oN at hp
  unfold hasK
  cases ht : s.term with
  | true =>
    rw [ht] at hp
    simp only [if_true] at hp ⊢
    by_cases e : i = 1
    · simp [e]
    · rw [if_neg e] at hp; exact absurd hp (Nat.lt_irrefl _)
  | false =>
    rw [ht] at hp
    simp only [Bool.false_eq_true, if_false] at hp ⊢
    exact cnt_S hclo hi hp
theorem ex_fwd {h A k : Nat} (hk : k ≤ n) (h1 : 1 ≤ h) (he : Ex rules (h + 1) A k) : ∃ B j, j ≤ n ∧ Ed rules S A k B j ∧ Ex rules h B j := by
  obtain ⟨_, hlt⟩ := he
  obtain ⟨g, rfl⟩ : ∃ g, h = g + 1 := ⟨h - 1, by omega⟩
  have e1 : g + 1 + 1 - 1 = g + 1 := by omega
  rw [e1] at hlt
  rw [cnt, cnt] at hlt
  have hm := oN_mono (c := cnt rules (g + 1)) (c' := cnt rules g) (fun A i => cnt_mono1 g A i)
  obtain ⟨r, hr, hl, hlt⟩ := cR_lt hm _ hlt
  obtain ⟨p, s, i, a, hp, ha, h2, h3, h4⟩ := (cN_lt_iff hm r.right k).1 hlt
  obtain ⟨ht, h5⟩ := oN_lt h3
  have hpos : ∀ s i, i ≤ n → 0 < oN (cnt rules (g + 1)) s i → hasK S s i = true := fun s i hi hp => oN_has hclo hi hp
  refine ⟨s.n.toNat, i, by omega, ⟨r, hr, hl, p, s, a, hp, ht, rfl, ha, cnt_S hclo (by omega) (Nat.lt_of_le_of_lt (Nat.zero_le _) h5), cN_pos hpos _ _ (by omega) h2, cN_pos hpos _ _ (by omega) h4⟩, by omega, by rw [Nat.add_sub_cancel]; exact h5⟩
theorem ed_S {A k B j : Nat} (hk : k ≤ n) (h : Ed rules S A k B j) : S A k = true ∧ S B j = true := by
  obtain ⟨r, hr, hl, p, s, a, hp, ht, hB, ha, hS, h1, h2⟩ := h
  refine ⟨?_, hS⟩
  have hc : canK S r.right k = true := by
    have key : ∀ (l : List Sym) (p : Nat) (s : Sym) (k a : Nat), l[p]? = some s → hasK S s j = true → a + j ≤ k → canK S (l.take p) a = true → canK S (l.drop (p + 1)) (k - a - j) = true → canK S l k = true := by
      intro l
      induction l with
      | nil => intro p s k a hp; simp at hp
      | cons x l ih =>
        intro p s k a hp hh ha h1 h2
        cases p with
        | zero =>
          simp at hp
          subst hp
          have : a = 0 := by simpa [canK] using h1
          subst this
          exact canK_cons.2 ⟨j, by omega, hh, by simpa using h2⟩
        | succ p =>
          rw [List.take_succ_cons] at h1
          obtain ⟨i, hi, h3, h4⟩ := canK_cons.1 h1
          exact canK_cons.2 ⟨i, by omega, h3, ih p s (k - i) (a - i) (by simpa using hp) hh (by omega) h4 (by rw [List.drop_succ_cons] at h2; rw [show k - i - (a - i) - j = k - a - j by omega]; exact h2)⟩
    exact key r.right p s k a hp (by unfold hasK; rw [ht, hB]; exact hS) ha h1 h2
  have := hclo r hr k hk hc
  rw [hl, Int.toNat_natCast] at this
  exact this
omit hclo in
/-- an edge, backwards: where all that has trees has some of at most g levels -/
theorem ed_back {g h A k B j : Nat} (hk : k ≤ n) (hg : ∀ A k, k ≤ n → S A k = true → 0 < cnt rules g A k) (hgh : h ≤ g + 1) (hd : Ed rules S A k B j) (hx : cnt rules (h - 1) B j < cnt rules g B j) (h1 : 1 ≤ h) : cnt rules h A k < cnt rules (g + 1) A k := by
  obtain ⟨r, hr, hl, p, s, a, hp, ht, hB, ha, hS, h2, h3⟩ := hd
  obtain ⟨h0, rfl⟩ : ∃ h0, h = h0 + 1 := ⟨h - 1, by omega⟩
  rw [cnt, cnt]
  rw [Nat.add_sub_cancel] at hx
  have hm := oN_mono (c := cnt rules g) (c' := cnt rules h0) (fun A i => cnt_mono (by omega) A i)
  refine cR_lt_of hm _ r hr hl ((cN_lt_iff hm r.right k).2 ⟨p, s, j, a, hp, ha, ?_, ?_, ?_⟩)
  · refine canK_cN (S := S) (n := n) _ (fun s' _ i hi hh => ?_) _ (by omega) h2
    unfold hasK at hh
    unfold oN
    cases ht' : s'.term with
    | true => rw [ht'] at hh; simp at hh; simp [hh]
    | false => rw [ht'] at hh; simp only [Bool.false_eq_true, if_false] at hh ⊢; exact hg _ _ hi hh
  · unfold oN; rw [ht, hB]; exact hx
  · refine canK_cN (S := S) (n := n) _ (fun s' _ i hi hh => ?_) _ (by omega) h3
    unfold hasK at hh
    unfold oN
    cases ht' : s'.term with
    | true => rw [ht'] at hh; simp at hh; simp [hh]
    | false => rw [ht'] at hh; simp only [Bool.false_eq_true, if_false] at hh ⊢; exact hg _ _ hi hh
omit hclo
theorem ex_between {A k : Nat} : ∀ (b a : Nat), a ≤ b → cnt rules a A k < cnt rules b A k → ∃ h, a < h ∧ h ≤ b ∧ Ex rules h A k
  | 0, a, hab, h => by obtain rfl : a = 0 := by omega
                       exact absurd h (Nat.lt_irrefl _)
  | b + 1, a, hab, h => by
    by_cases e : a = b + 1
    · subst e; exact absurd h (Nat.lt_irrefl _)
    · by_cases hx : cnt rules b A k < cnt rules (b + 1) A k
      · exact ⟨b + 1, by omega, Nat.le_refl _, by omega, by rw [Nat.add_sub_cancel]; exact hx⟩
      · have hba : a ≤ b := by omega
        have hlt : cnt rules a A k < cnt rules b A k := Nat.lt_of_lt_of_le h (Nat.le_of_not_lt hx)
        obtain ⟨g, h1, h2, h3⟩ := ex_between b a hba hlt
        exact ⟨g, h1, by omega, h3⟩
/-- a longer tree, one edge up -/
theorem ex_up {g h A k B j : Nat} (hk : k ≤ n) (hg : ∀ A k, k ≤ n → S A k = true → 0 < cnt rules g A k) (hd : Ed rules S A k B j) (hx : Ex rules h B j) : ∃ h', h + 1 ≤ h' ∧ Ex rules h' A k := by
  obtain ⟨h1, h2⟩ := hx
  have hG : ∀ A k, k ≤ n → S A k = true → 0 < cnt rules (max g h) A k := fun A k hk hS => Nat.lt_of_lt_of_le (hg A k hk hS) (cnt_mono (Nat.le_max_left _ _) _ _)
  have h3 := ed_back (g := max g h) (h := h) hk hG (by omega) hd (Nat.lt_of_lt_of_le h2 (cnt_mono (Nat.le_max_right _ _) _ _)) h1
  obtain ⟨h', e1, e2, e3⟩ := ex_between (max g h + 1) h (by omega) h3
  exact ⟨h', e1, e3⟩
/-- just one level more -/
theorem ex_up1 {g h A k B j : Nat} (hk : k ≤ n) (hg : ∀ A k, k ≤ n → S A k = true → 0 < cnt rules g A k) (hgh : g ≤ h) (hd : Ed rules S A k B j) (hx : Ex rules h B j) : Ex rules (h + 1) A k := by
  obtain ⟨h1, h2⟩ := hx
  have hG : ∀ A k, k ≤ n → S A k = true → 0 < cnt rules h A k := fun A k hk hS => Nat.lt_of_lt_of_le (hg A k hk hS) (cnt_mono hgh _ _)
  exact ⟨by omega, by rw [Nat.add_sub_cancel]; exact ed_back hk hG (by omega) hd h2 h1⟩
end
end Cs
end Go.Proofs.Ytbnpemgmdnghgaa
namespace Go.Proofs.Ytbnpemgmdnghgaa
open Go.RowKit
namespace Cs

def SE (g : Gram) (S : Nat → Nat → Bool) (N n : Nat) : Sym → Nat → List Tree := symE S (EN g.rules S (sizeK N n))
def GdN (g : Gram) (S : Nat → Nat → Bool) (N n f : Nat) : Nat → Nat → Prop := Gd (MK g.rules S N n) (clK g.rules S N n) N n (sizeK N n) f
def TrPost (g : Gram) (vr : Value) (N n : Nat) (d : Cid) (S : Nat → Nat → Bool) (w1 : World) (t : Tree) (W : World) (e : Ending) (W' : World) : Prop :=
  ∃ v, e = .returned (.agg #[.int .i64 t.rule, .int .i64 t.term, v]) ∧ Rd (fun b => W.heap.size ≤ b) W' (.sl (t.kids.map Tree.d)) [v] ∧ Fr N d W W' ∧ CntR g vr N n d S w1 W'
def TsPost (g : Gram) (vr : Value) (N n : Nat) (d : Cid) (S : Nat → Nat → Bool) (w1 : World) (ks : List Tree) (W : World) (e : Ending) (W' : World) : Prop :=
  ∃ v, e = .returned v ∧ Rd (fun b => W.heap.size ≤ b) W' (.sl (ks.map Tree.d)) [v] ∧ Fr N d W W' ∧ CntR g vr N n d S w1 W'
def nbox (g : Gram) (vr : Value) (d : Cid) : Obj := .cells #[.int .i64 g.terms, .int .i64 g.nons, .int .i64 g.start, vr, .pointer (some ⟨d.cb, 0, none⟩)] 85 (0, 0)
def TreeP (g : Gram) (vr : Value) (N n : Nat) (d : Cid) (S : Nat → Nat → Bool) (w1 : World) (xb f : Nat) : Prop :=
  ∀ (s : Sym), okS N s → ∀ k, k ≤ n → (s.term = false → GdN g S N n f s.n.toNat k) → ∀ (i : Nat) (t : Tree), (SE g S N n s k)[i]? = some t → (SE g S N n s k).length < 1000000000 →
    ∀ W, CntR g vr N n d S w1 W → W.heap[xb]? = some (nbox g vr d) →
      Calls Try.prog 51 #[.pointer (some ⟨xb, 0, none⟩), .agg #[.bool s.term, .int .i64 s.n], .int .i64 (k : Int), .int .i64 (i : Int)] W (TrPost g vr N n d S w1 t W)
def ListP (g : Gram) (vr : Value) (N n : Nat) (d : Cid) (S : Nat → Nat → Bool) (w1 : World) (xb f : Nat) : Prop :=
  ∀ (l : List Sym), (∀ s ∈ l, okS N s) → l.length ≤ 1000 → ∀ k, k ≤ n → Fine S (GdN g S N n f) l k → ∀ (i : Nat) (ks : List Tree), (enL S (SE g S N n) l k)[i]? = some ks → (enL S (SE g S N n) l k).length < 1000000000 →
    ∀ (a : Option Addr) (cap : Nat) W, Rd AnyB w1 (.sl (l.map Sym.d)) [.slice a l.length cap] → CntR g vr N n d S w1 W → W.heap[xb]? = some (nbox g vr d) →
      Calls Try.prog 76 #[.pointer (some ⟨xb, 0, none⟩), .slice a l.length cap, .int .i64 (k : Int), .int .i64 (i : Int)] W (TsPost g vr N n d S w1 ks W)

theorem rd_nilT (S : Nat → Prop) (w : World) : Rd S w (.sl (([] : List Tree).map Tree.d)) [.slice none 0 0] := rd_of_own (World.ownsRow_nil w 0 42 3) (by simp [RdAll]) rfl (fun k e => by simp [Value.ownBlock] at e)
section
variable {g : Gram} {vr : Value} {N n : Nat} {d : Cid} {S : Nat → Nat → Bool} {w1 W W' w0 Wc w' : World}
theorem CntR.cbl' (h : CntR g vr N n d S w1 W) : d.cb < W.heap.size := by
  obtain ⟨C, hc⟩ := h
  exact hc.ci.lt
theorem CntR.keepB {B : Nat} (h : CntR g vr N n d S w1 W) (hb : Below B W W') (hB : d.cb < B) : CntR g vr N n d S w1 W' := by
  obtain ⟨C, hc⟩ := h
  exact ⟨C, hc.keepB hb hB⟩
theorem CntR.rlt (h : CntR g vr N n d S w1 W) {B : Nat} (hB : d.cb < B) : ∀ a, a < N → d.rc a < B := by
  obtain ⟨C, hc⟩ := h
  exact hc.rlt hB
/-- the result box is stored into -/
theorem trFin {t : Tree} {rb : Nat} {v : Value} (x y z : Value) (hb0 : Below W.heap.size W w0) (hc0 : CntR g vr N n d S w1 W) (hrb : W.heap.size ≤ rb) (hrb2 : rb < w0.heap.size) (h1 : Fr N d w0 Wc) (h2 : Rd (fun b => Wc.heap.size ≤ b) w' (.sl (t.kids.map Tree.d)) [v]) (h3 : Fr N d Wc w') (h4 : CntR g vr N n d S w1 w') :
    TrPost g vr N n d S w1 t W (.returned (.agg #[.int .i64 t.rule, .int .i64 t.term, v])) (((w'.setCell ⟨rb, 0, none⟩ x).setCell ⟨rb, 1, none⟩ y).setCell ⟨rb, 2, none⟩ z) := by
  have hs := h1.size
  have hs0 := hb0.size
  have hcb := hc0.cbl'
  refine ⟨v, rfl, (h2.box3 (by show ¬ Wc.heap.size ≤ rb; omega) x y z).mono (fun k hk _ => by show W.heap.size ≤ k; have : Wc.heap.size ≤ k := hk; omega), ?_, ?_⟩
  · have hf : Fr N d W w' := (Fr.of hb0).trans (h1.trans h3)
    have hb := below_box3 (Below.refl w'.heap.size w') (Nat.le_refl _) x y z
    refine ⟨hf.os, hf.tape, hf.output, ?_, fun k hk hn => ?_⟩
    · have := hf.size; simpa [World.setCell] using this
    · have hg := (grown_box3 rb w' x y z).block k (by have := hf.size; omega) (by intro e; cases e; omega)
      exact hg.trans (hf.block k hk hn)
  · exact h4.keepB (B := rb) (below_box3 (Below.refl rb w') (Nat.le_refl _) x y z) (by omega)
end

set_option maxHeartbeats 400000 in
theorem leafN (x : Int) (w : World) : Calls Try.prog 75 #[.int .i64 x] w fun e w' => e = .returned (.agg #[.int .i64 (-1), .int .i64 x, .slice none 0 0]) ∧ Below w.heap.size w w' := by
  obtain ⟨w0, HW0⟩ := nameIt (w.alloc (.cells #[.int .i64 0, .int .i64 0, .slice none 0 0] 42))
  have hb0 : Below w.heap.size w w0 := by rw [← HW0.out]; exact (Below.refl _ _).alloc (Nat.le_refl _) _
  have HB := Lib.hid (below_box3 hb0 (Nat.le_refl _) (.int .i64 (-1)) (.int .i64 x) (.slice none 0 0))
  have X0 : Hid (w0.heap[w.heap.size]? = some (.cells #[.int .i64 0, .int .i64 0, .slice none 0 0] 42 (0, 0))) := by rw [← HW0.out]; exact bx_new _ _ _ rfl
  obtain ⟨y0, y1, y2⟩ := bx_cells3 X0.out
  obtain ⟨f0, f1, f2⟩ := bx_free3 X0.out
  clear hb0
  go_enter Try.func75, Try.ntmps75
  go_upto_region 1 with fail
  rw [HW0.out]
  go_wp2_with fail
  exact bodyPost_ret (v := .agg #[.int .i64 (-1), .int .i64 x, .slice none 0 0]) (by simp [results, Try.results75, go_sem, y0, y1, y2]) rfl ⟨rfl, by simpa using HB.out⟩
end Cs
end Go.Proofs.Ytbnpemgmdnghgaa
namespace Go.Proofs.Ytbnpemgmdnghgaa
open Go.RowKit
namespace Cs

set_option maxHeartbeats 16000000 in
set_option maxRecDepth 100000 in
theorem treeN {g : Gram} {ra : Option Addr} {rcap N n : Nat} {d : Cid} {S : Nat → Nat → Bool} {w1 : World} {xb f : Nat} (hok : OkC g N) (hn : n ≤ 24) (hR : Rd AnyB w1 (.sl (g.rules.map Rule.d)) [.slice ra g.rules.length rcap]) (hxb : d.cb < xb) (h4 : ∀ r ∈ g.rules, r.right.length ≤ 1000)
    (hL : ∀ f0, f = f0 + 1 → ListP g (.slice ra g.rules.length rcap) N n d S w1 xb f0) : TreeP g (.slice ra g.rules.length rcap) N n d S w1 xb f := by
  intro s hs k hk hg i t hi hlen W hC hx
  obtain ⟨st, sn⟩ := s
  obtain ⟨PST, HP⟩ := nameIt (TrPost g (.slice ra g.rules.length rcap) N n d S w1 t W)
  rw [HP.out]
  obtain ⟨w0, HW0⟩ := nameIt ((W.alloc (.cells #[.bool st, .int .i64 sn] 65)).alloc (.cells #[.int .i64 0, .int .i64 0, .slice none 0 0] 42))
  have hb0 : Below W.heap.size W w0 := by rw [← HW0.out]; exact ((Below.refl _ _).alloc (Nat.le_refl _) _).alloc (by simp) _
  have HC0 := Lib.hid (hC.keep hb0)
  have Y0 : Hid (w0.heap[W.heap.size]? = some (.cells #[.bool st, .int .i64 sn] 65 (0, 0))) := by rw [← HW0.out]; exact bx_keep (bx_new _ _ _ rfl) ((Below.refl _ _).alloc (Nat.le_refl _) _)
  have R0 : Hid (w0.heap[W.heap.size + 1]? = some (.cells #[.int .i64 0, .int .i64 0, .slice none 0 0] 42 (0, 0))) := by rw [← HW0.out]; exact bx_new _ _ _ (by simp)
  have hsz0 : w0.heap.size = W.heap.size + 1 + 1 := by rw [← HW0.out]; simp
  have HFIN : Hid (∀ (v : Value) (Wc w' : World) (x y z : Value), Fr N d w0 Wc → Rd (fun b => Wc.heap.size ≤ b) w' (.sl (t.kids.map Tree.d)) [v] → Fr N d Wc w' → CntR g (.slice ra g.rules.length rcap) N n d S w1 w' →
      PST (.returned (.agg #[.int .i64 t.rule, .int .i64 t.term, v])) (((w'.setCell ⟨W.heap.size + 1, 0, none⟩ x).setCell ⟨W.heap.size + 1, 1, none⟩ y).setCell ⟨W.heap.size + 1, 2, none⟩ z)) := by
    intro v Wc w' x y z h1 h2 h3 h4
    rw [← HP.out]
    exact trFin x y z hb0 hC (by omega) (by omega) h1 h2 h3 h4
  have X1 := Lib.hid (bx_keep hx hb0)
  have HXN : Hid (∀ a, a < N → d.rc a ≠ xb) := hC.over hxb
  have HYN : Hid (∀ a, a < N → d.rc a ≠ W.heap.size) := hC.big (Nat.le_refl _)
  have HRN : Hid (∀ a, a < N → d.rc a ≠ W.heap.size + 1) := hC.big (by omega)
  obtain ⟨sb, HSB⟩ := nameIt W.heap.size
  rw [HSB.out] at Y0 R0 HYN HRN HFIN
  obtain ⟨rb, HRB⟩ := nameIt (sb + 1)
  rw [HRB.out] at R0 HRN HFIN
  cases st with
  | true =>
    have ht : t = .node (-1) sn [] := by
      unfold SE symE at hi
      by_cases hh : hasK S ⟨true, sn⟩ k = false
      · rw [if_pos hh] at hi; simp at hi
      · rw [if_neg hh] at hi
        simp at hi
        cases i with
        | zero => simpa using hi.symm
        | succ i => simp at hi
    subst ht
    have HLF := Lib.hid (leafN sn w0)
    obtain ⟨y0, y1⟩ := bx_cells2 Y0.out
    clear hi hlen hg hC hx hb0 HP hL hR hs X1
    go_enter Try.func51, Try.ntmps51
    go_upto_region 1 with fail
    rw [HW0.out, HSB.out]
    rw [HRB.out]
    go_wp2_with fail
    refine HLF.out.mono ?_
    rintro e w2 ⟨rfl, hb2⟩
    have R2 := bx_keep R0.out hb2
    have HE := Lib.hid (HFIN.out (.slice none 0 0) w0 w2 (.int .i64 (-1)) (.int .i64 sn) (.slice none 0 0) (Fr.refl _ _ _) (rd_nilT _ _) (Fr.of hb2) (HC0.out.keep hb2))
    obtain ⟨z0, z1, z2⟩ := bx_cells3 R2
    obtain ⟨f0, f1, f2⟩ := bx_free3 R2
    clear y0 y1 HLF hb2 R2 HFIN
    go_wp2_with fail
    refine bodyPost_ret (v := .agg #[.int .i64 (-1), .int .i64 sn, .slice none 0 0]) (by simp [results, Try.results51, go_sem, z0, z1, z2]) rfl ?_
    simpa [Tree.rule, Tree.term] using HE.out
  | false =>
    obtain ⟨hA, hkn, hM, hrk⟩ := hg rfl
    obtain ⟨hs0, hsN⟩ := hs rfl
    obtain ⟨f0, rfl⟩ : ∃ f0, f = f0 + 1 := ⟨f - 1, by omega⟩
    replace hL := hL f0 rfl
    obtain ⟨A, rfl⟩ : ∃ A : Nat, sn = (A : Int) := ⟨sn.toNat, by simp at hs0; omega⟩
    simp only [Int.toNat_natCast] at hA hM hrk hsN
    have hE := ends_MM (rules := g.rules) (S := S) (N := N) (n := n) hok.r
    have hse : SE g S N n ⟨false, (A : Int)⟩ k = enR S (SE g S N n) (A : Int) k g.rules 0 := by
      have hh : hasK S ⟨false, (A : Int)⟩ k = S A k := rfl
      by_cases h : S A k = false
      · unfold SE symE at hi
        rw [if_pos (hh.trans h)] at hi
        simp at hi
      · unfold SE
        rw [symE, if_neg (by rw [hh]; exact h)]
        simp only [Bool.false_eq_true, if_false, Int.toNat_natCast]
        rw [EN_eq hE hA hk hM, if_neg h]
    rw [hse] at hi hlen
    obtain ⟨o, HO⟩ := nameIt (SE g S N n)
    rw [HO.out] at hi hlen
    have HLS : Hid (∀ j (hj : j < g.rules.length), g.rules[j].left = (A : Int) → ∀ a cap, Rd AnyB w1 (.sl (g.rules[j].right.map Sym.d)) [.slice a g.rules[j].right.length cap] → ∀ W, CntR g (.slice ra g.rules.length rcap) N n d S w1 W →
        Calls Try.prog 57 #[.pointer (some ⟨d.cb, 0, none⟩), .slice a g.rules[j].right.length cap, .int .i64 (k : Int)] W fun e W' => e = .returned (.int .i64 ((enL S o g.rules[j].right k).length : Int)) ∧ Fr N d W W' ∧ CntR g (.slice ra g.rules.length rcap) N n d S w1 W') := by
      intro j hj hl a cap hrd W' hc
      obtain ⟨C, hc⟩ := hc
      have hmem := List.getElem_mem hj
      have hv := listV_EN (cap := MaxC) (many := -1) (by decide) (by decide) hE (hE A k _ hA hk hM hmem hl)
      have hle := preR_len_le (S := S) (o := o) (A := (A : Int)) (k := k) (show j + 1 ≤ g.rules.length from hj)
      rw [preR_len hj, if_pos hl] at hle
      have h := (listE (n := n) (by omega) (ofE (d := d) (w0 := w1) (n := n) (by omega) (by have := hok.n2; omega) hok.r (ends_MK (rules := g.rules) (S := S) (N := N) (n := n) hok.r) hR (sizeK N n + 1)) g.rules[j].right (hok.r _ hmem) k hk (fun _ _ _ _ _ _ _ _ _ _ => okK_all _ _ _ (Nat.lt_succ_self _)) a cap C W' hc hrd)
      have HO' : symE S (EN g.rules S (sizeK N n)) = o := HO.out
      rw [hv, HO', Int.min_eq_left (by unfold MaxC; omega)] at h
      exact h
    have HLP : Hid (∀ j (hj : j < g.rules.length), g.rules[j].left = (A : Int) → ∀ (x : Nat) (ks : List Tree), (enL S o g.rules[j].right k)[x]? = some ks → ∀ a cap W, Rd AnyB w1 (.sl (g.rules[j].right.map Sym.d)) [.slice a g.rules[j].right.length cap] → CntR g (.slice ra g.rules.length rcap) N n d S w1 W → W.heap[xb]? = some (nbox g (.slice ra g.rules.length rcap) d) →
        Calls Try.prog 76 #[.pointer (some ⟨xb, 0, none⟩), .slice a g.rules[j].right.length cap, .int .i64 (k : Int), .int .i64 (x : Int)] W (TsPost g (.slice ra g.rules.length rcap) N n d S w1 ks W)) := by
      intro j hj hl x ks hx' a cap W' hrd hc hb
      have hmem := List.getElem_mem hj
      have hle := preR_len_le (S := S) (o := o) (A := (A : Int)) (k := k) (show j + 1 ≤ g.rules.length from hj)
      rw [preR_len hj, if_pos hl] at hle
      rw [← HO.out] at hx' hle
      exact hL _ (hok.r _ hmem) (h4 _ hmem) k hk ((hE A k _ hA hk hM hmem hl).mono fun B j' hg' => hg'.mono (by omega)) x ks hx' (by rw [← HO.out] at hlen; omega) a cap W' hrd hc hb
    have HFD : Hid (∀ j (hj : j < g.rules.length), g.rules[j].left = (A : Int) → ∀ x, x < (enL S o g.rules[j].right k).length → i = (preR S o (A : Int) k g.rules j).length + x → ∃ ks, t = Tree.node (j : Int) 0 ks ∧ (enL S o g.rules[j].right k)[x]? = some ks) := by
      intro j hj hl x hx' hi'
      subst hi'
      exact enR_found hj hl hx' hi
    have HEND : Hid (i < (preR S o (A : Int) k g.rules g.rules.length).length) := by
      show i < _
      rw [preR_all]
      exact (List.getElem?_eq_some_iff.1 hi).1
    have HPL : Hid (∀ j (hj : j < g.rules.length), (preR S o (A : Int) k g.rules (j + 1)).length = (preR S o (A : Int) k g.rules j).length + (if g.rules[j].left = (A : Int) then (enL S o g.rules[j].right k).length else 0)) := fun j hj => preR_len hj
    have HI0 : Hid (i = (preR S o (A : Int) k g.rules 0).length + i) := by show i = _; rw [preR_zero]; simp
    have hib : i < 1000000000 := by have := (List.getElem?_eq_some_iff.1 hi).1; omega
    have hLb : ∀ j (hj : j < g.rules.length), g.rules[j].left = (A : Int) → (enL S o g.rules[j].right k).length < 1000000000 := by
      intro j hj hl
      have hle := preR_len_le (S := S) (o := o) (A := (A : Int)) (k := k) (show j + 1 ≤ g.rules.length from hj)
      rw [preR_len hj, if_pos hl] at hle
      omega
    have HLB := Lib.hid hLb
    have HRD := Lib.hid hR
    have hnons := hok.nons
    have hrc : rcap ≤ maxLen ∧ g.rules.length ≤ rcap := by obtain ⟨a', cap', L, e, h1, h2, _⟩ := hR; simp at e h1; omega
    unfold maxLen at hrc
    unfold nbox at X1 HLP
    obtain ⟨PR, HPR⟩ := nameIt (fun j => (preR S o (A : Int) k g.rules j).length)
    have hPR : ∀ j, (preR S o (A : Int) k g.rules j).length = PR j := fun j => by rw [← HPR.out]
    simp only [hPR] at HFD HEND HPL HI0
    obtain ⟨gt, HGT⟩ := nameIt g.terms
    obtain ⟨gs, HGS⟩ := nameIt g.start
    obtain ⟨rl, HRL⟩ := nameIt g.rules.length
    rw [HGT.out, hnons, HGS.out, HRL.out] at X1
    simp only [HGT.out, hnons, HGS.out] at HLP
    have HRLE := HRL.out
    simp only [HRLE] at HLP HLS HRD HC0 HFIN
    rw [HRL.out] at HEND hrc
    have HNI0 : Hid (NI g (.slice ra rl rcap) N n d S w1 w0 w0) := NI.start HC0.out
    have HXB : Hid (∀ W', Fr N d w0 W' → W'.heap[xb]? = some (.cells #[.int .i64 gt, .int .i64 (N : Int), .int .i64 gs, .slice ra rl rcap, .pointer (some ⟨d.cb, 0, none⟩)] 85 (0, 0))) := fun W' h => h.bx X1.out HXN.out
    have HYB : Hid (∀ W', Fr N d w0 W' → W'.heap[sb]? = some (.cells #[.bool false, .int .i64 (A : Int)] 65 (0, 0))) := fun W' h => h.bx Y0.out HYN.out
    have HRBX : Hid (∀ W', Fr N d w0 W' → W'.heap[rb]? = some (.cells #[.int .i64 0, .int .i64 0, .slice none 0 0] 42 (0, 0))) := fun W' h => h.bx R0.out HRN.out
    obtain ⟨y0, y1⟩ := bx_cells2 Y0.out
    obtain ⟨x0, x1, x2, x3, x4⟩ := bx_cells5c X1.out
    clear hi hlen hg hC hx hb0 HP hL hR hs hok hE hse hLb hs0 hsN hPR hM hrk hA HPR HO
    go_enter Try.func51, Try.ntmps51
    go_upto_region 1 with fail
    rw [HW0.out, HSB.out]
    rw [HRB.out]
    go_wp2_with fail
    clear y0 y1 x0 x1 x2 x3 x4
    go_loopg [3, 23] rl (fun gg v3 v23 wr => ∃ (j x : Nat), j ≤ rl ∧ rl - j ≤ gg ∧ x ≤ i ∧ v3 = .int .i64 (x : Int) ∧ v23 = .int .i64 (j : Int) ∧ Hid (i = PR j + x) ∧ Hid (NI g (.slice ra rl rcap) N n d S w1 w0 wr))
    case atStart => exact ⟨0, i, by omega, by omega, by omega, rfl, rfl, HI0, HNI0⟩
    case round =>
      clear HNI0 HI0
      obtain ⟨j, x, hj, hgg, hxi, rfl, rfl, HIX, HNI5⟩ := hrel
      obtain ⟨w5, rfl⟩ : ∃ ww : World, ww = wr := ⟨_, rfl⟩
      by_cases hjr : j < rl
      · have hjr' : (j : Int) < (rl : Int) := by omega
        have hj0 : (0 : Int) ≤ (j : Int) := by omega
        have hjx : j < g.rules.length := by rw [HRLE]; omega
        obtain ⟨rbk, ro, rv, rfl, -, hrb, s0, s1, hrr⟩ := HRD.out.rule_at hjx
        obtain ⟨ak, kc, rfl, hkc1, hkc2⟩ := hrr.form
        rw [List.length_map] at s1 hrr hkc1
        unfold maxLen at hkc2
        have t0 := (HNI5.out.cs.bel.cell (lt_of_cell s0)).trans s0
        have t1 := (HNI5.out.cs.bel.cell (lt_of_cell s1)).trans s1
        have hlk := fun hl W hc => HLS.out j hjr hl ak kc hrr W hc
        have hlp := fun hl x ks hx W hc hb => HLP.out j hjr hl x ks hx ak kc W hrr hc hb
        have hpl := HPL.out j hjx
        have hfd := HFD.out j hjx
        have hlb := HLB.out j hjx
        obtain ⟨kn, HKN⟩ := nameIt (g.rules[j]'hjx).right.length
        obtain ⟨kl, HKL⟩ := nameIt (g.rules[j]'hjx).left
        obtain ⟨E, HEL⟩ := nameIt (enL S o (g.rules[j]'hjx).right k)
        obtain ⟨el, HELL⟩ := nameIt E.length
        rw [HKN.out] at t1 hkc1
        rw [HKL.out] at t0
        simp only [HKN.out, HKL.out, HEL.out, HELL.out] at hlk hlp hpl hfd hlb
        have HLK0 := Lib.hid hlk
        have HLP0 := Lib.hid hlp
        have HPL0 := Lib.hid hpl
        have HFD0 := Lib.hid hfd
        have HLB0 := Lib.hid hlb
        obtain ⟨w6, HW6⟩ := nameIt (w5.alloc (.cells #[.int .i64 kl, .slice ak kn kc] 48))
        have HNI6 : Hid (NI g (.slice (some ⟨rbk, ro, none⟩) rl rcap) N n d S w1 w0 w6) := by rw [← HW6.out]; exact HNI5.out.keep ((Below.refl _ _).alloc (Nat.le_refl _) _)
        have Z6 : Hid (w6.heap[w5.heap.size]? = some (.cells #[.int .i64 kl, .slice ak kn kc] 48 (0, 0))) := by rw [← HW6.out]; exact bx_new _ _ _ rfl
        have HZN : Hid (∀ a, a < N → d.rc a ≠ w5.heap.size) := HNI5.out.cs.big (Nat.le_refl _)
        obtain ⟨rbx, HRBX2⟩ := nameIt w5.heap.size
        rw [HRBX2.out] at Z6 HZN
        clear hrr s0 s1 hlk hlp hpl hfd hlb
        go_upto_region 6 with fail
        rw [HW6.out, HRBX2.out]
        clear t0 t1
        obtain ⟨y0, y1⟩ := bx_cells2 (HYB.out _ HNI6.out.fr)
        obtain ⟨z0, z1⟩ := bx_cells2 Z6.out
        by_cases hkl : kl = (A : Int)
        · subst hkl
          have HLK := Lib.hid (HLK0.out rfl)
          have HPL1 : Hid (PR (j + 1) = PR j + el) := by have := HPL0.out; rw [if_pos rfl] at this; exact this
          have hel := HLB0.out rfl
          have HFD1 := Lib.hid (HFD0.out rfl)
          have HLP1 := Lib.hid (HLP0.out rfl)
          clear HLK0 HPL0 HLB0 HFD0 HLP0
          go_upto_region 7 with fail
          clear y0 y1 z0 z1
          have HS : Hid (∀ W', Fr N d w6 W' → (fun w' => w'.cell? ⟨xb, 0 + 4, none⟩ = some (.pointer (some ⟨d.cb, 0, none⟩)) ∧ w'.cell? ⟨rbx, 0 + 1, none⟩ = some (.slice ak kn kc)) W') := by
            intro W' hf
            obtain ⟨x0, x1, x2, x3, x4⟩ := bx_cells5c (HXB.out _ (HNI6.out.fr.trans hf))
            obtain ⟨z0, z1⟩ := bx_cells2 (hf.bx Z6.out HZN.out)
            exact ⟨x4, z1⟩
          have HND := Lib.hid (HNI6.out.keep (Below.refl _ _).drew)
          refine wp_region_U (S := (fun w' => w'.cell? ⟨xb, 0 + 4, none⟩ = some (.pointer (some ⟨d.cb, 0, none⟩)) ∧ w'.cell? ⟨rbx, 0 + 1, none⟩ = some (.slice ak kn kc))) 8 (by kernel_rfl) (fun inv => ?_)
          refine wpU_take (i := 0) (v := .pointer (some ⟨xb, 0, none⟩)) rfl inv (by kernel_rfl) (by kernel_rfl) (by decide) (by decide) (by kernel_rfl) (by kernel_rfl) (by kernel_rfl) (fun _ _ _ h => h) (Or.inl ⟨by rfl, fun w' hw' => ?_⟩) (HS.out _ (Fr.of (Below.refl _ _).drew)) (fun inv => ?_)
          · obtain ⟨h0, h1⟩ := hw'
            go_simp
          try simp only [Act.put, List.setIfInBounds_toArray, List.set_cons_zero, List.set_cons_succ]
          refine wpU_take (i := 1) (v := .pointer (some ⟨xb, 0, none⟩)) rfl inv (by kernel_rfl) (by kernel_rfl) (by decide) (by decide) (by kernel_rfl) (by kernel_rfl) (by kernel_rfl) (fun _ _ _ h => h) (Or.inl ⟨by rfl, fun w' hw' => ?_⟩) (HS.out _ (Fr.of (Below.refl _ _).drew)) (fun inv => ?_)
          · obtain ⟨h0, h1⟩ := hw'
            go_simp
          try simp only [Act.put, List.setIfInBounds_toArray, List.set_cons_zero, List.set_cons_succ]
          refine wpU_take (i := 2) (v := .pointer (some ⟨xb, 0 + 4, none⟩)) rfl inv (by kernel_rfl) (by kernel_rfl) (by decide) (by decide) (by kernel_rfl) (by kernel_rfl) (by kernel_rfl) (fun _ _ _ h => h) (Or.inl ⟨by rfl, fun w' hw' => ?_⟩) (HS.out _ (Fr.of (Below.refl _ _).drew)) (fun inv => ?_)
          · obtain ⟨h0, h1⟩ := hw'
            go_simp
          try simp only [Act.put, List.setIfInBounds_toArray, List.set_cons_zero, List.set_cons_succ]
          refine wpU_take (i := 3) (v := .pointer (some ⟨d.cb, 0, none⟩)) rfl inv (by kernel_rfl) (by kernel_rfl) (by decide) (by decide) (by kernel_rfl) (by kernel_rfl) (by kernel_rfl) (fun _ _ _ h => h) (Or.inl ⟨by rfl, fun w' hw' => ?_⟩) (HS.out _ (Fr.of (Below.refl _ _).drew)) (fun inv => ?_)
          · obtain ⟨h0, h1⟩ := hw'
            go_simp
          try simp only [Act.put, List.setIfInBounds_toArray, List.set_cons_zero, List.set_cons_succ]
          refine wpU_take (i := 4) (v := .pointer (some ⟨rbx, 0 + 1, none⟩)) rfl inv (by kernel_rfl) (by kernel_rfl) (by decide) (by decide) (by kernel_rfl) (by kernel_rfl) (by kernel_rfl) (fun _ _ _ h => h) (Or.inl ⟨by rfl, fun w' hw' => ?_⟩) (HS.out _ (Fr.of (Below.refl _ _).drew)) (fun inv => ?_)
          · obtain ⟨h0, h1⟩ := hw'
            go_simp
          try simp only [Act.put, List.setIfInBounds_toArray, List.set_cons_zero, List.set_cons_succ]
          refine wpU_take (i := 5) (v := .slice ak kn kc) rfl inv (by kernel_rfl) (by kernel_rfl) (by decide) (by decide) (by kernel_rfl) (by kernel_rfl) (by kernel_rfl) (fun _ _ _ h => h) (Or.inl ⟨by rfl, fun w' hw' => ?_⟩) (HS.out _ (Fr.of (Below.refl _ _).drew)) (fun inv => ?_)
          · obtain ⟨h0, h1⟩ := hw'
            go_simp
          try simp only [Act.put, List.setIfInBounds_toArray, List.set_cons_zero, List.set_cons_succ]
          refine wpU_take (i := 6) (v := .int .i64 (k : Int)) rfl inv (by kernel_rfl) (by kernel_rfl) (by decide) (by decide) (by kernel_rfl) (by kernel_rfl) (by kernel_rfl) (fun _ _ _ h => h) (Or.inl ⟨by rfl, fun w' hw' => ?_⟩) (HS.out _ (Fr.of (Below.refl _ _).drew)) (fun inv => ?_)
          · obtain ⟨h0, h1⟩ := hw'
            go_simp
          try simp only [Act.put, List.setIfInBounds_toArray, List.set_cons_zero, List.set_cons_succ]
          refine wpU_one (i := 7) (by kernel_rfl) rfl (fun K hK => ?_)
          replace inv := inv_setc (i := 7) inv (by kernel_rfl) (by decide)
          go_simp
          with_reducible refine (HLK.out _ HND.out.cs).mono ?_
          rintro e w7 ⟨rfl, hf, hc⟩
          have HNI7 := Lib.hid (HND.out.of hf hc)
          have HFS : Hid (Fr N d w6 w7) := (Fr.of (Below.refl _ _).drew).trans hf
          clear hf hc HND
          refine hK.out _ _ (fun _ => HS.out _ HFS.out) ?_
          clear hK K
          try simp only [Act.put, List.setIfInBounds_toArray, List.set_cons_zero, List.set_cons_succ]
          refine wpU_one (i := 8) (by kernel_rfl) rfl (fun K hK => ?_)
          go_simp
          refine hK.out _ _ (fun h => absurd (show true = false from h) (by decide)) ?_
          clear hK K
          try simp only [Act.put, List.setIfInBounds_toArray, List.set_cons_zero, List.set_cons_succ]
          refine wpU_done (by kernel_rfl) ?_ _
          clear HS

          by_cases hxe : el ≤ x
          · have hxe' : (el : Int) ≤ (x : Int) := by omega
            have hdec : decide ((el : Int) ≤ (x : Int)) = true := by simpa using hxe'
            have hsub : IntKind.i64.wrap ((x : Int) - (el : Int)) = ((x - el : Nat) : Int) := by rw [IntWalk.i64_in _ (by omega)]; omega
            have HIX2 : Hid (i = PR (j + 1) + (x - el)) := by show i = _; have h1 := HIX.out; have h2 := HPL1.out; omega
            go_wp2_with fail
            go_roundg (rl - (j + 1))
            case measure => omega
            case rel => exact ⟨j + 1, x - el, by omega, by omega, by omega, by first | rfl | exact congrArg _ hsub, by go_num, HIX2, HNI7⟩
          · have hxe' : ¬ (el : Int) ≤ (x : Int) := by omega
            obtain ⟨ks, htk, hks⟩ := HFD1.out x (by omega) HIX.out
            have HCL := Lib.hid (HLP1.out x ks hks w7 HNI7.out.cs (HXB.out _ HNI7.out.fr))
            subst htk
            obtain ⟨z0, z1⟩ := bx_cells2 (HFS.out.bx Z6.out HZN.out)
            go_wp2_with fail
            with_reducible refine HCL.out.mono ?_
            rintro e w8 ⟨v8, rfl, hr8, hf8, hc8⟩
            have HE := fun a b c => HFIN.out v8 w7 w8 a b c HNI7.out.fr hr8 hf8 hc8
            obtain ⟨a8, c8, rfl, -, -⟩ := hr8.form
            have R8 := HRBX.out _ (HNI7.out.fr.trans hf8)
            obtain ⟨q0, q1, q2⟩ := bx_cells3 R8
            obtain ⟨f0, f1, f2⟩ := bx_free3 R8
            obtain ⟨n8, HN8⟩ := nameIt (ks.map Tree.d).length
            rw [HN8.out] at HE
            rw [HN8.out]
            have HEE := Lib.hid HE
            clear hr8 hf8 hc8 HE R8 z0 z1 HFIN HCL
            go_wp2_with fail
            refine bodyPost_ret (v := .agg #[.int .i64 (j : Int), .int .i64 0, .slice a8 n8 c8]) (by simp [results, Try.results51, go_sem, q0, q1, q2]) rfl ?_
            simpa [Tree.rule, Tree.term] using HEE.out _ _ _
        · have hkl' : (kl != (A : Int)) = true := by simpa using hkl
          have HIX2 : Hid (i = PR (j + 1) + x) := by show i = _; have h1 := HIX.out; have h2 := HPL0.out; rw [if_neg hkl] at h2; omega
          clear HLK0 HPL0 HLB0 HFD0 HLP0
          go_wp2_with fail
          go_roundg (rl - (j + 1))
          case measure => omega
          case rel => exact ⟨j + 1, x, by omega, by omega, hxi, rfl, by go_num, HIX2, HNI6⟩
      · exfalso
        have h1 := HEND.out
        have h2 := HIX.out
        obtain rfl : j = rl := by omega
        omega
end Cs
end Go.Proofs.Ytbnpemgmdnghgaa
