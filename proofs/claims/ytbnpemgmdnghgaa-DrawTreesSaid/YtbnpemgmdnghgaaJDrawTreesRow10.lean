/- rank.Of. rank.Tree. rank.Tree. A block that is known whole is a row. rank.Count; what it answers at the plain grammar. Plain functions: the number that coins draw; its laws. The contracts of draw.Number and parlref5.Coins. The contract of parlref5.Coins. draw.Tree. -/
import Derived.Test.YtbnpemgmdnghgaaJDrawTreesRow9
import Derived.Test.YtbnpemgmdnghgaaJDrawTreesRow4
import Derived.Deep.RegionHeld3
import Derived.Test.YtbnpemgmdnghgaaJDrawTreesRow7
import Derived.Test.YtbnpemgmdnghgaaJDrawTreesRow8
import Derived.Test.YtbnpemgmdnghgaaJDrawTreesRow1
import Derived.Test.YtbnpemgmdnghgaaRows
import Derived.Outline
import Derived.Lib.Hide
namespace Go.Proofs.Ytbnpemgmdnghgaa
open Go.RowKit
namespace Cs

/-- what rank.Of answers -/
def RkV (g : Gram) (t : Tree) (n i c : Int) : Prop :=
  (checkT g t ≠ 0 ∧ n = 0 ∧ i = 0 ∧ c = checkT g t) ∨ (checkT g t = 0 ∧ rootS g t ≠ ⟨false, g.start⟩ ∧ n = 0 ∧ i = 0 ∧ c = 3) ∨
  (checkT g t = 0 ∧ rootS g t = ⟨false, g.start⟩ ∧ ((errC g (wl t) ≠ 0 ∧ n = 0 ∧ i = 0 ∧ c = errC g (wl t)) ∨
    (errC g (wl t) = 0 ∧ ((c = 9 ∧ n = 0 ∧ i = 0) ∨ (c = 2 ∧ n = 0 ∧ i = 0) ∨ (c = 0 ∧ n = (wl t : Int))))))
def RkPost (g : Gram) (t : Tree) (w : World) (e : Ending) (w' : World) : Prop := Below w.heap.size w w' ∧ ∃ n i c : Int, e = .returned (.tuple #[.int .i64 n, .int .i64 i, .int .i64 c]) ∧ RkV g t n i c
/-- rank.count's answer, one form -/
def CntF (g : Gram) (vr : Value) (n : Int) (w : World) (p : Value) (c : Int) (w' : World) : Prop :=
  (errC g n ≠ 0 ∧ c = errC g n) ∨ (errC g n = 0 ∧ (c = 9 ∨ c = 2 ∨ (c = 0 ∧ ∃ (N n' : Nat) (S : Nat → Nat → Bool) (d : Cid) (w1 : World), OkC g N ∧ n = (n' : Int) ∧ n' ≤ 24 ∧ p = .pointer (some ⟨d.cb, 0, none⟩) ∧ Below w.heap.size w w1 ∧ CntR g vr N n' d S w1 w')))
theorem cntF_of {g : Gram} {vr : Value} {n : Int} {w w' : World} {e : Ending} (h : CntPost g vr n w e w') : Below w.heap.size w w' ∧ ∃ (p : Value) (k c : Int), e = .returned (.tuple #[p, .int .i64 k, .int .i64 c]) ∧ CntF g vr n w p c w' := by
  obtain ⟨hb, ⟨h1, rfl⟩ | ⟨h1, N, n', S, h2, h3, h4, h5, ⟨h6, rfl⟩ | ⟨h6, h7, rfl⟩ | ⟨h6, h7, d, w1, rfl, h8, h9⟩⟩⟩ := h
  · exact ⟨hb, _, _, _, rfl, .inl ⟨h1, rfl⟩⟩
  · exact ⟨hb, _, _, _, rfl, .inr ⟨h1, .inl rfl⟩⟩
  · exact ⟨hb, _, _, _, rfl, .inr ⟨h1, .inr (.inl rfl)⟩⟩
  · exact ⟨hb, _, _, _, rfl, .inr ⟨h1, .inr (.inr ⟨rfl, N, n', S, d, w1, h2, h3, h4, rfl, h8, h9⟩)⟩⟩
theorem CntR.cbl {g : Gram} {vr : Value} {N n : Nat} {d : Cid} {S : Nat → Nat → Bool} {w1 W : World} (h : CntR g vr N n d S w1 W) : d.cb < W.heap.size := by
  obtain ⟨C, hc⟩ := h
  exact hc.ci.lt
/-- between the regions: the counter or an error -/
def OfMid (g : Gram) (vr : Value) (n : Int) (w0 : World) (p c : Value) (wx : World) : Prop := Below w0.heap.size w0 wx ∧ ∃ (ww : World) (cc : Int), c = .int .i64 cc ∧ Below w0.heap.size w0 ww ∧ CntF g vr n ww p cc wx
theorem okT_of {g : Gram} {t : Tree} (h : checkT g t = 0) : OkT g t ∧ (nodes t).length ≤ 5000 := by
  unfold checkT at h
  by_cases h1 : checkG g ≠ 0
  · rw [if_pos h1] at h; exact absurd h h1
  · rw [if_neg h1] at h
    by_cases h2 : 5000 < (nodes t).length
    · rw [if_pos h2] at h; cases h
    · rw [if_neg h2] at h
      cases hv : validT g t with
      | false => rw [hv] at h; cases h
      | true =>
        unfold validT at hv
        rw [List.all_eq_true] at hv
        exact ⟨hv, by omega⟩

set_option maxHeartbeats 8000000 in
set_option maxRecDepth 100000 in
theorem rankOfE (g : Gram) (ra : Option Addr) (rcap : Nat) (t : Tree) (at' : Option Addr) (ct : Nat) (w : World) (hr : Rd AnyB w (.sl (g.rules.map Rule.d)) [.slice ra g.rules.length rcap]) (hk : Rd AnyB w (.sl (t.kids.map Tree.d)) [.slice at' t.kids.length ct]) (hN : (nodes t).length ≤ 1099511627776) :
    Calls Try.prog 18 #[.agg #[.int .i64 g.terms, .int .i64 g.nons, .int .i64 g.start, .slice ra g.rules.length rcap], .agg #[.int .i64 t.rule, .int .i64 t.term, .slice at' t.kids.length ct]] w (RkPost g t w) := by
  obtain ⟨w0, HW0⟩ := nameIt ((w.alloc (.cells #[.int .i64 g.terms, .int .i64 g.nons, .int .i64 g.start, .slice ra g.rules.length rcap] 24)).alloc (.cells #[.int .i64 t.rule, .int .i64 t.term, .slice at' t.kids.length ct] 42))
  have hb0 : Below w.heap.size w w0 := by rw [← HW0.out]; exact ((Below.refl _ _).alloc (Nat.le_refl _) _).alloc (by simp) _
  have X1 : Hid (w0.heap[w.heap.size]? = some (.cells #[.int .i64 g.terms, .int .i64 g.nons, .int .i64 g.start, .slice ra g.rules.length rcap] 24 (0, 0))) := by
    rw [← HW0.out]; exact bx_keep (bx_new _ _ _ rfl) ((Below.refl _ _).alloc (Nat.le_refl _) _)
  have X2 : Hid (w0.heap[w.heap.size + 1]? = some (.cells #[.int .i64 t.rule, .int .i64 t.term, .slice at' t.kids.length ct] 42 (0, 0))) := by
    rw [← HW0.out]; exact bx_new _ _ _ (by simp)
  have HR := Lib.hid (hr.below hb0)
  have HK := Lib.hid (hk.below hb0)
  have HCK := Lib.hid (treeCheckE g ra rcap t at' ct w0 HR.out HK.out hN)
  have HRT : Hid (∀ W, Below w0.heap.size w0 W → Calls Try.prog 37 #[.agg #[.int .i64 g.terms, .int .i64 g.nons, .int .i64 g.start, .slice ra g.rules.length rcap], .agg #[.int .i64 t.rule, .int .i64 t.term, .slice at' t.kids.length ct]] W fun e w' => e = .returned (.agg #[.bool (rootS g t).term, .int .i64 (rootS g t).n]) ∧ Below W.heap.size W w') :=
    fun W hb => rootE g ra rcap t at' t.kids.length ct W (HR.out.below hb)
  have HWD : Hid (∀ W, Below w0.heap.size w0 W → Calls Try.prog 20 #[.agg #[.int .i64 t.rule, .int .i64 t.term, .slice at' t.kids.length ct]] W (IntsPost (leavesOf (nodes t)) W)) :=
    fun W hb => wordT t _ W (HK.out.below hb) (by omega)
  have HCN : Hid (∀ W, Below w0.heap.size w0 W → Calls Try.prog 36 #[.agg #[.int .i64 g.terms, .int .i64 g.nons, .int .i64 g.start, .slice ra g.rules.length rcap], .int .i64 ((wl t : Nat) : Int)] W (fun e w' => Below W.heap.size W w' ∧ ∃ (p : Value) (k c : Int), e = .returned (.tuple #[p, .int .i64 k, .int .i64 c]) ∧ CntF g (.slice ra g.rules.length rcap) (wl t : Int) W p c w')) :=
    fun W hb => (countE g ra rcap _ W (HR.out.below hb)).mono fun _ _ h => cntF_of h
  have HLW : Hid ((leavesOf (nodes t)).length = wl t) := rfl
  have HOF : Hid (checkT g t = 0 → ∀ (N : Nat) (d : Cid) (S : Nat → Nat → Bool) (w1 W : World) (xb : Nat), OkC g N → wl t ≤ 24 → Below w0.heap.size w0 w1 → CntR g (.slice ra g.rules.length rcap) N (wl t) d S w1 W → d.cb < xb →
      W.heap[xb]? = some (.cells #[.int .i64 g.terms, .int .i64 g.nons, .int .i64 g.start, .slice ra g.rules.length rcap, .pointer (some ⟨d.cb, 0, none⟩)] 85 (0, 0)) →
      Calls Try.prog 38 #[.pointer (some ⟨xb, 0, none⟩), .agg #[.int .i64 t.rule, .int .i64 t.term, .slice at' t.kids.length ct]] W (OfTPost g (.slice ra g.rules.length rcap) N (wl t) d S w1 t W)) := by
    intro hck N d S w1 W xb hok h24 hb hc hxb hx
    obtain ⟨hv, h5⟩ := okT_of hck
    exact ofTE hok h24 (HR.out.below hb) hxb 5000 t h5 (by omega) hv (Nat.le_refl _) at' ct W (HK.out.below hb) hc hx
  obtain ⟨PST, HP⟩ := nameIt (RkPost g t w)
  rw [HP.out]
  have HFIN : Hid (∀ w', Below w0.heap.size w0 w' → ∀ n i c : Int, RkV g t n i c → PST (.returned (.tuple #[.int .i64 n, .int .i64 i, .int .i64 c])) w') := by
    intro w' h n i c hv
    rw [← HP.out]
    exact ⟨hb0.trans (h.mono hb0.size), n, i, c, rfl, hv⟩
  have HCL : Hid (∀ W', Below w0.heap.size w0 W' → W'.cell? ⟨w.heap.size, 0, none⟩ = some (.int .i64 g.terms) ∧ W'.cell? ⟨w.heap.size, 0 + 1, none⟩ = some (.int .i64 g.nons) ∧ W'.cell? ⟨w.heap.size, 0 + 2, none⟩ = some (.int .i64 g.start) ∧ W'.cell? ⟨w.heap.size, 0 + 3, none⟩ = some (.slice ra g.rules.length rcap) ∧ W'.cell? ⟨w.heap.size + 1, 0, none⟩ = some (.int .i64 t.rule) ∧ W'.cell? ⟨w.heap.size + 1, 0 + 1, none⟩ = some (.int .i64 t.term) ∧ W'.cell? ⟨w.heap.size + 1, 0 + 2, none⟩ = some (.slice at' t.kids.length ct)) :=
    fun W' h => cells7 h X1.out X2.out
  obtain ⟨CK, HCKN⟩ := nameIt (checkT g t)
  obtain ⟨RS, HRSN⟩ := nameIt (rootS g t)
  obtain ⟨rst, rsn⟩ := RS
  obtain ⟨L, HL⟩ := nameIt (wl t)
  have HV1 : Hid (CK ≠ 0 → RkV g t 0 0 CK) := by intro h; rw [← HCKN.out] at h ⊢; exact .inl ⟨h, rfl, rfl, rfl⟩
  have HV2 : Hid (CK = 0 → (rst == false && rsn == g.start) = false → RkV g t 0 0 3) := by
    intro h h'
    refine .inr (.inl ⟨by rw [HCKN.out]; exact h, ?_, rfl, rfl, rfl⟩)
    rw [HRSN.out]
    intro e
    cases e
    simp at h'
  have HV3 : Hid (CK = 0 → (rst == false && rsn == g.start) = true → ∀ n i c : Int, ((errC g L ≠ 0 ∧ n = 0 ∧ i = 0 ∧ c = errC g L) ∨
    (errC g L = 0 ∧ ((c = 9 ∧ n = 0 ∧ i = 0) ∨ (c = 2 ∧ n = 0 ∧ i = 0) ∨ (c = 0 ∧ n = (L : Int))))) → RkV g t n i c) := by
    intro h h' n i c hh
    refine .inr (.inr ⟨by rw [HCKN.out]; exact h, ?_, by rw [HL.out]; exact hh⟩)
    rw [HRSN.out]
    simp at h'
    obtain ⟨rfl, rfl⟩ := h'
    rfl
  rw [HCKN.out] at HCK HOF
  rw [HRSN.out] at HRT
  rw [HL.out] at HCN HLW HOF
  have hnb : (nodes t).length ≤ 1099511627776 := hN
  have HLL : Hid (L ≤ (nodes t).length) := by
    show L ≤ _
    rw [← HLW.out]; unfold leavesOf; exact List.length_filterMap_le _ _
  have hL := HLL.out
  have hLb : L ≤ 1099511627776 := by omega
  clear hL HLL hnb hN
  obtain ⟨gt, HGT⟩ := nameIt g.terms
  obtain ⟨gn, HGN⟩ := nameIt g.nons
  obtain ⟨gs, HGS⟩ := nameIt g.start
  obtain ⟨rl, HRL⟩ := nameIt g.rules.length
  obtain ⟨tr, HTR⟩ := nameIt t.rule
  obtain ⟨tm, HTM⟩ := nameIt t.term
  obtain ⟨tk, HTK⟩ := nameIt t.kids.length
  rw [HGT.out, HGN.out, HGS.out, HRL.out, HTR.out, HTM.out, HTK.out] at HW0 HCK HRT HCL
  rw [HTR.out, HTM.out, HTK.out] at HWD
  rw [HGT.out, HGN.out, HGS.out, HRL.out] at HCN
  simp only [HGT.out, HGN.out, HGS.out, HRL.out, HTR.out, HTM.out, HTK.out] at HOF
  rw [HGS.out] at HV2 HV3
  rw [HGT.out, HGN.out, HGS.out, HRL.out, HTR.out, HTM.out, HTK.out]
  clear hr hk HR HK hb0 HP X1 X2
  obtain ⟨x0, x1, x2, x3, y0, y1, y2⟩ := HCL.out w0 (Below.refl _ _)
  go_enter Try.func18, Try.ntmps18
  go_upto_region 1 with fail
  rw [HW0.out]
  go_wp2_with fail
  refine HCK.out.mono ?_
  rintro e w1 ⟨rfl, hb1⟩
  have HB1 := Lib.hid hb1
  clear hb1 x0 x1 x2 x3 y0 y1 y2
  by_cases hck : CK = 0
  · subst hck
    have HCNE := Lib.hid (gramN gs)
    have HNE := symNe rst false rsn gs
    obtain ⟨x0, x1, x2, x3, y0, y1, y2⟩ := HCL.out w1 HB1.out
    have k0 := aft_cell x0
    have k1 := aft_cell x1
    have k2 := aft_cell x2
    have k3 := aft_cell x3
    have k4 := aft_cell y0
    have k5 := aft_cell y1
    have k6 := aft_cell y2
    clear x0 x1 x2 x3 y0 y1 y2
    have HRT1 := Lib.hid (fun W (hb : Below w1.heap.size w1 W) => HRT.out W (HB1.out.trans (hb.mono HB1.out.size)))
    obtain ⟨eq, HEQ⟩ := nameIt (rst == false && rsn == gs)
    simp only [HEQ.out] at HNE
    rw [HEQ.out] at HV2 HV3
    go_upto_region 4 with fail
    refine wp_region_after (by kernel_rfl) (by kernel_rfl) ?_
    repeat (go_big_quiet_step (first | (with_reducible exact Calls.after (HRT1.out _ (Aft.bel _))) | (with_reducible exact Calls.after (HCNE.out _))))
    refine wpQuiet_nil ?_
    rintro w2 ⟨⟨_, hb2⟩, rfl⟩
    have HB2 := Lib.hid (HB1.out.trans (hb2.mono HB1.out.size))
    clear hb2 k0 k1 k2 k3 k4 k5 k6 HNE HCNE HRT1 HRT
    cases eq with
    | false =>
      have HF := Lib.hid (HFIN.out w2 HB2.out _ _ _ (HV2.out (by simp) rfl))
      go_wp2_with fail
      first | exact HF.out | (refine bodyPost_ret (results_tmp3 Try.results18 _ _ _) rfl ?_; exact HF.out)
    | true =>
      have HV4 := Lib.hid (HV3.out (by simp) rfl)
      obtain ⟨x0, x1, x2, x3, y0, y1, y2⟩ := HCL.out w2 HB2.out
      go_upto_region 6 with fail
      go_cut [8, 10] (fun x y wx => Hid (OfMid g (.slice ra rl rcap) (L : Int) w0 x y wx))
      case first =>
        go_region_held3 (fun w' => w'.cell? ⟨w.heap.size, 0, none⟩ = some (.int .i64 gt) ∧ w'.cell? ⟨w.heap.size, 0 + 1, none⟩ = some (.int .i64 gn) ∧ w'.cell? ⟨w.heap.size, 0 + 2, none⟩ = some (.int .i64 gs) ∧ w'.cell? ⟨w.heap.size, 0 + 3, none⟩ = some (.slice ra rl rcap) ∧ w'.cell? ⟨w.heap.size + 1, 0, none⟩ = some (.int .i64 tr) ∧ w'.cell? ⟨w.heap.size + 1, 0 + 1, none⟩ = some (.int .i64 tm) ∧ w'.cell? ⟨w.heap.size + 1, 0 + 2, none⟩ = some (.slice at' tk ct))
          (first | exact HCL.out _ HB2.out.drew | exact HCL.out _ HB4.out | exact HCL.out _ HB3.out | fail)
          (first
            | (go_at_call 20; (with_reducible refine (HWD.out _ HB2.out.drew).mono ?_); rintro e w3 ⟨v3, rfl, hs3, hb3⟩; have HB3 : Hid (Below w0.heap.size w0 w3) := HB2.out.drew.trans (hb3.mono HB2.out.size); obtain ⟨a3, c3, rfl⟩ := hs3.form; rw [ints_len, HLW.out]; clear hs3 hb3)
            | (go_at_call 36; (with_reducible refine (HCN.out _ HB3.out).mono ?_); rintro e w4 ⟨hb4, p4, q4, c4, rfl, hc4⟩; have HB4 : Hid (Below w0.heap.size w0 w4) := HB3.out.trans (hb4.mono HB3.out.size); have HC4 := Lib.hid hc4; have HB3' := Lib.hid HB3.out; clear hb4 hc4)
            | fail)
        go_wp2_with fail
        go_meet
        exact ⟨HB4.out, w3, c4, rfl, HB3.out, HC4.out⟩
      case rest =>
        clear x0 x1 x2 x3 y0 y1 y2
        obtain ⟨hb4, ww, cc, rfl, hbw, hcf⟩ := hcut.out
        obtain ⟨w4, rfl⟩ : ∃ ww : World, ww = wc := ⟨_, rfl⟩
        have HB4 := Lib.hid hb4
        have HBW := Lib.hid hbw
        have HCF := Lib.hid hcf
        clear hcut hb4 hbw hcf
        obtain ⟨x0, x1, x2, x3, y0, y1, y2⟩ := HCL.out w4 HB4.out
        by_cases hcc : cc = 0
        · subst hcc
          rcases HCF.out with ⟨h1, h2⟩ | ⟨he, h2 | h2 | ⟨_, N, n', S, d, w1', hok, hnl, hn24, rfl, hbw1, hcr⟩⟩
          · exact absurd h2.symm h1
          · cases h2
          · cases h2
          obtain rfl : L = n' := by omega
          have HB1' : Hid (Below w0.heap.size w0 w1') := HBW.out.trans (hbw1.mono HBW.out.size)
          have HCR := Lib.hid hcr
          obtain ⟨w5, HW5⟩ := nameIt (w4.alloc (.cells #[.int .i64 gt, .int .i64 gn, .int .i64 gs, .slice ra rl rcap, .pointer (some ⟨d.cb, 0, none⟩)] 85))
          have HB45 : Hid (Below w4.heap.size w4 w5) := by rw [← HW5.out]; exact (Below.refl _ _).alloc (Nat.le_refl _) _
          have X5 : Hid (w5.heap[w4.heap.size]? = some (.cells #[.int .i64 gt, .int .i64 gn, .int .i64 gs, .slice ra rl rcap, .pointer (some ⟨d.cb, 0, none⟩)] 85 (0, 0))) := by rw [← HW5.out]; exact bx_new _ _ _ rfl
          have HC5 := Lib.hid (hcr.keep HB45.out)
          have HB5 := Lib.hid (HB4.out.trans (HB45.out.mono HB4.out.size))
          have HOF1 := Lib.hid (HOF.out (by simp) N d S w1' w5 w4.heap.size hok hn24 HB1'.out HC5.out hcr.cbl X5.out)
          have HFE : Hid (∀ w', Below w1'.heap.size w1' w' → ∀ i : Int, PST (.returned (.tuple #[.int .i64 (L : Int), .int .i64 i, .int .i64 0])) w') := by
            intro w' hb' i
            exact HFIN.out w' (HB1'.out.trans (hb'.mono HB1'.out.size)) (L : Int) i 0 (HV4.out (L : Int) i 0 (.inr ⟨he, .inr (.inr ⟨rfl, rfl⟩)⟩))
          obtain ⟨xb, HXB⟩ := nameIt w4.heap.size
          rw [HXB.out] at HOF1 X5
          clear hok hbw1 hcr HCF he hnl
          obtain ⟨z0, z1, z2, z3, z4, z5, z6⟩ := HCL.out w5 HB5.out
          clear x0 x1 x2 x3 y0 y1 y2
          obtain ⟨x0, x1, x2, x3, y0, y1, y2⟩ := HCL.out w4 HB4.out
          have hs1 : w.heap.size < w4.heap.size := lt_of_cell x0
          have hs2 : w.heap.size + 1 < w4.heap.size := lt_of_cell y0
          go_upto_region 9 with fail
          go_wp2_with fail
          simp only [HW5.out, HXB.out]
          with_reducible refine HOF1.out.mono ?_
          rintro e w6 ⟨i, rfl, hf6, hc6⟩
          rw [HL.out]
          have HF := Lib.hid (HFE.out w6 hc6.bel i)
          clear hf6 hc6
          go_wp2_with fail
          first | exact HF.out | (refine bodyPost_ret (results_tmp3 Try.results18 _ _ _) rfl ?_; exact HF.out)
        · have hcc' : (cc != 0) = true := by simpa using hcc
          have HF := Lib.hid (HFIN.out w4 HB4.out 0 0 cc (HV4.out 0 0 cc (by
            rcases HCF.out with ⟨h1, h2⟩ | ⟨h1, h2 | h2 | ⟨h2, _⟩⟩
            · exact .inl ⟨h1, rfl, rfl, h2⟩
            · exact .inr ⟨h1, .inl ⟨h2, rfl, rfl⟩⟩
            · exact .inr ⟨h1, .inr (.inl ⟨h2, rfl, rfl⟩)⟩
            · exact absurd h2 hcc)))
          go_wp2_with fail
          first | exact HF.out | (refine bodyPost_ret (results_tmp3 Try.results18 _ _ _) rfl ?_; exact HF.out)
  · have HF := Lib.hid (HFIN.out w1 HB1.out _ _ _ (HV1.out hck))
    have hck' : (CK != 0) = true := by simpa using hck
    go_wp2_with fail
    first | exact HF.out | (refine bodyPost_ret (results_tmp3 Try.results18 _ _ _) rfl ?_; exact HF.out)
end Cs
end Go.Proofs.Ytbnpemgmdnghgaa
namespace Go.Proofs.Ytbnpemgmdnghgaa
open Go.RowKit
namespace Cs

theorem okC4 {g : Gram} (h : checkG g = 0) : ∀ r ∈ g.rules, r.right.length ≤ 1000 := by
  unfold checkG at h
  by_cases hb : badHead g = true
  · rw [if_pos hb] at h; cases h
  · rw [if_neg hb] at h
    by_cases hl : 32 < g.rules.length
    · rw [if_pos hl] at h; cases h
    · rw [if_neg hl] at h
      intro r hr
      have := (faultsFrom_zero h r hr).2.2.1
      omega
theorem errC_check {g : Gram} {n : Int} (h : errC g n = 0) : checkG g = 0 := by
  unfold errC at h
  by_cases h1 : checkG g ≠ 0
  · rw [if_pos h1] at h; exact absurd h h1
  · simpa using h1
theorem treeAll {g : Gram} {ra : Option Addr} {rcap N n : Nat} {d : Cid} {S : Nat → Nat → Bool} {w1 : World} {xb : Nat} (hok : OkC g N) (hn : n ≤ 24) (hR : Rd AnyB w1 (.sl (g.rules.map Rule.d)) [.slice ra g.rules.length rcap]) (hxb : d.cb < xb) (h4 : ∀ r ∈ g.rules, r.right.length ≤ 1000) :
    ∀ f, TreeP g (.slice ra g.rules.length rcap) N n d S w1 xb f
  | 0 => treeN hok hn hR hxb h4 fun f0 h => by omega
  | f + 1 => treeN hok hn hR hxb h4 fun f0 h => by
    obtain rfl : f = f0 := by omega
    exact listN hok hn hR hxb (treeAll hok hn hR hxb h4 f)
/-- what is counted is what is listed -/
theorem start_val {g : Gram} {N n : Nat} {S : Nat → Nat → Bool} (hok : OkC g N) (h1 : startC g S N n ≠ -1) (h2 : startC g S N n < MaxC) :
    startC g S N n = ((SE g S N n ⟨false, g.start⟩ n).length : Int) ∧ ((SE g S N n ⟨false, g.start⟩ n).length : Int) < MaxC ∧ (0 < (SE g S N n ⟨false, g.start⟩ n).length → MK g.rules S N n g.start.toNat n = false) := by
  obtain ⟨A, hA, hAN⟩ := start_off g N hok
  have hE := ends_MM (rules := g.rules) (S := S) (N := N) (n := n) hok.r
  have hst : startC g S N n = symV S (valK g.rules S (MK g.rules S N n) MaxC (-1) (sizeK N n)) ⟨false, (A : Int)⟩ n := by
    show tC g S N n g.start.toNat n = _
    rw [hA]; rfl
  rw [hA, Int.toNat_natCast]
  have hh : hasK S ⟨false, (A : Int)⟩ n = S A n := rfl
  by_cases hS : S A n = false
  · have e1 : startC g S N n = 0 := by rw [hst]; unfold symV; rw [if_pos (hh.trans hS)]
    have e2 : SE g S N n ⟨false, (A : Int)⟩ n = [] := by unfold SE symE; rw [if_pos (hh.trans hS)]
    rw [e1, e2]
    exact ⟨rfl, by decide, fun h => by simp at h⟩
  · by_cases hM : MK g.rules S N n A n = true
    · refine absurd ?_ h1
      rw [hst]
      unfold symV
      rw [if_neg (by rw [hh]; exact hS)]
      simp only [Bool.false_eq_true, if_false, Int.toNat_natCast]
      rw [valK_eq (T := clK g.rules S N n) (ends_MK hok.r) hAN (Nat.le_refl _), if_neg hS, if_pos hM]
    · have hM' : MK g.rules S N n A n = false := by simpa using hM
      have hv := symV_EN (cap := MaxC) (many := -1) (by decide) (by decide) hE (f := sizeK N n + 2) (s := ⟨false, (A : Int)⟩) (k := n) (fun _ => ⟨by simpa using hAN, Nat.le_refl _, by simpa using hM', by have := reachN_le (clK g.rules S N n) (sizeK N n) (((A : Int).toNat) * (n + 1) + n); simp only [] at this ⊢; omega⟩)
      rw [hst] at h2 ⊢
      rw [hv] at h2 ⊢
      change min ((SE g S N n ⟨false, (A : Int)⟩ n).length : Int) MaxC < MaxC at h2
      change min ((SE g S N n ⟨false, (A : Int)⟩ n).length : Int) MaxC = ((SE g S N n ⟨false, (A : Int)⟩ n).length : Int) ∧ _
      exact ⟨by omega, by omega, fun _ => hM'⟩
end Cs
end Go.Proofs.Ytbnpemgmdnghgaa
namespace Go.Proofs.Ytbnpemgmdnghgaa
open Go.RowKit
namespace Cs

def RtV (B : Nat) (g : Gram) (n i : Int) (r tm : Int) (v : Value) (c : Int) (w' : World) : Prop :=
  (errC g n ≠ 0 ∧ c = errC g n ∧ r = 0 ∧ tm = 0 ∧ v = .slice none 0 0) ∨
     (errC g n = 0 ∧ ∃ (N n' : Nat) (S : Nat → Nat → Bool), OkC g N ∧ n = (n' : Int) ∧ n' ≤ 24 ∧ DoneC g n' S ∧
      ((startC g S N n' = -1 ∧ c = 9 ∧ r = 0 ∧ tm = 0 ∧ v = .slice none 0 0) ∨ (startC g S N n' ≠ -1 ∧ MaxC ≤ startC g S N n' ∧ c = 2 ∧ r = 0 ∧ tm = 0 ∧ v = .slice none 0 0) ∨
       (startC g S N n' ≠ -1 ∧ startC g S N n' < MaxC ∧ (((i < 0 ∨ startC g S N n' ≤ i) ∧ c = 5 ∧ r = 0 ∧ tm = 0 ∧ v = .slice none 0 0) ∨
        (0 ≤ i ∧ i < startC g S N n' ∧ c = 0 ∧ ∃ t : Tree, (SE g S N n' ⟨false, g.start⟩ n')[i.toNat]? = some t ∧ r = t.rule ∧ tm = t.term ∧ Rd (fun k => B ≤ k) w' (.sl (t.kids.map Tree.d)) [v])))))
def RtPost (g : Gram) (n i : Int) (w : World) (e : Ending) (w' : World) : Prop := Below w.heap.size w w' ∧ ∃ (r tm : Int) (v : Value) (c : Int), e = .returned (.tuple #[.agg #[.int .i64 r, .int .i64 tm, v], .int .i64 c]) ∧ RtV w.heap.size g n i r tm v c w'
set_option maxHeartbeats 8000000 in
set_option maxRecDepth 100000 in
theorem rankTreeE (g : Gram) (ra : Option Addr) (rcap : Nat) (nn ii : Int) (w : World) (hr : Rd AnyB w (.sl (g.rules.map Rule.d)) [.slice ra g.rules.length rcap]) :
    Calls Try.prog 26 #[.agg #[.int .i64 g.terms, .int .i64 g.nons, .int .i64 g.start, .slice ra g.rules.length rcap], .int .i64 nn, .int .i64 ii] w (RtPost g nn ii w) := by
  obtain ⟨w0, HW0⟩ := nameIt ((w.alloc (.cells #[.int .i64 g.terms, .int .i64 g.nons, .int .i64 g.start, .slice ra g.rules.length rcap] 24)).alloc (.cells #[.int .i64 0, .int .i64 0, .slice none 0 0] 42))
  have hb0 : Below w.heap.size w w0 := by rw [← HW0.out]; exact ((Below.refl _ _).alloc (Nat.le_refl _) _).alloc (by simp) _
  have X0 : Hid (w0.heap[w.heap.size]? = some (.cells #[.int .i64 g.terms, .int .i64 g.nons, .int .i64 g.start, .slice ra g.rules.length rcap] 24 (0, 0))) := by rw [← HW0.out]; exact bx_keep (bx_new _ _ _ rfl) ((Below.refl _ _).alloc (Nat.le_refl _) _)
  have R0 : Hid (w0.heap[w.heap.size + 1]? = some (.cells #[.int .i64 0, .int .i64 0, .slice none 0 0] 42 (0, 0))) := by rw [← HW0.out]; exact bx_new _ _ _ (by simp)
  have HCN := Lib.hid (countE g ra rcap nn w0 (hr.below hb0))
  have HRD := Lib.hid (hr.below hb0)
  obtain ⟨PST, HP⟩ := nameIt (RtPost g nn ii w)
  rw [HP.out]
  have HERR : Hid (∀ w' (c : Int), Below w0.heap.size w0 w' → (∀ W, RtV w.heap.size g nn ii 0 0 (.slice none 0 0) c W) → PST (.returned (.tuple #[.agg #[.int .i64 0, .int .i64 0, .slice none 0 0], .int .i64 c])) (((w'.setCell ⟨w.heap.size + 1, 0, none⟩ (.int .i64 0)).setCell ⟨w.heap.size + 1, 1, none⟩ (.int .i64 0)).setCell ⟨w.heap.size + 1, 2, none⟩ (.slice none 0 0))) := by
    intro w' c hb hv
    rw [← HP.out]
    exact ⟨below_box3 (hb0.trans (hb.mono hb0.size)) (by omega) _ _ _, 0, 0, _, c, rfl, hv _⟩
  have HGD : Hid (∀ (N n : Nat) (S : Nat → Nat → Bool) (d : Cid) (w1 : World) (i : Nat), errC g nn = 0 → nn = (n : Int) → ii = (i : Int) → OkC g N → n ≤ 24 → DoneC g n S → startC g S N n ≠ -1 → startC g S N n < MaxC → (i : Int) < startC g S N n → Below w0.heap.size w0 w1 →
      ∃ t : Tree, (∀ W xb, CntR g (.slice ra g.rules.length rcap) N n d S w1 W → W.heap[xb]? = some (.cells #[.int .i64 g.terms, .int .i64 g.nons, .int .i64 g.start, .slice ra g.rules.length rcap, .pointer (some ⟨d.cb, 0, none⟩)] 85 (0, 0)) → d.cb < xb →
        Calls Try.prog 51 #[.pointer (some ⟨xb, 0, none⟩), .agg #[.bool false, .int .i64 g.start], .int .i64 (n : Int), .int .i64 (i : Int)] W (TrPost g (.slice ra g.rules.length rcap) N n d S w1 t W)) ∧
       ∀ W' (x y : Int) (z v : Value), CntR g (.slice ra g.rules.length rcap) N n d S w1 W' → Rd (fun k => k ≠ w.heap.size + 1 ∧ w.heap.size ≤ k) W' (.sl (t.kids.map Tree.d)) [v] → x = t.rule → y = t.term → z = v → PST (.returned (.tuple #[.agg #[.int .i64 t.rule, .int .i64 t.term, v], .int .i64 0])) (((W'.setCell ⟨w.heap.size + 1, 0, none⟩ (.int .i64 x)).setCell ⟨w.heap.size + 1, 1, none⟩ (.int .i64 y)).setCell ⟨w.heap.size + 1, 2, none⟩ z)) := by
    intro N n S d w1 i he hnn hii hok hn hdn h1 h2 h3 hb1
    obtain ⟨e1, e2, e3⟩ := start_val hok h1 h2
    have hil : i < (SE g S N n ⟨false, g.start⟩ n).length := by omega
    have hM := e3 (by omega)
    refine ⟨(SE g S N n ⟨false, g.start⟩ n)[i], ?_, ?_⟩
    · intro W xb hc hx hxb
      refine treeAll hok hn (HRD.out.below hb1) hxb (okC4 (errC_check he)) (sizeK N n + 1) ⟨false, g.start⟩ (fun _ => ⟨hok.s0, by have := hok.s1; have := hok.s0; simp; omega⟩) n (Nat.le_refl _) (fun _ => ?_) i _ (List.getElem?_eq_getElem hil) (by unfold MaxC at e2; omega) W hc hx
      exact ⟨by have := hok.s1; have := hok.s0; simp; omega, Nat.le_refl _, hM, Nat.lt_succ_of_le (reachN_le _ _ _)⟩
    · rintro W' x y z v hc hv rfl rfl rfl
      rw [← HP.out]
      refine ⟨below_box3 (hb0.trans ((hb1.trans (hc.bel.mono hb1.size)).mono hb0.size)) (by omega) _ _ _, _, _, z, 0, rfl, .inr ⟨he, N, n, S, hok, hnn, hn, hdn, .inr (.inr ⟨h1, h2, .inr ⟨by omega, by omega, rfl, _, ?_, rfl, rfl, (hv.box3 (by simp) _ _ _).mono (fun k hk _ => hk.2)⟩⟩)⟩⟩
      rw [hii, Int.toNat_natCast]
      exact List.getElem?_eq_getElem hil
  have HV1 : Hid (errC g nn ≠ 0 → ∀ W, RtV w.heap.size g nn ii 0 0 (.slice none 0 0) (errC g nn) W) := fun h W => .inl ⟨h, rfl, rfl, rfl, rfl⟩
  have HV2 : Hid (∀ (N n : Nat) (S : Nat → Nat → Bool), errC g nn = 0 → OkC g N → nn = (n : Int) → n ≤ 24 → DoneC g n S → (startC g S N n = -1 → ∀ W, RtV w.heap.size g nn ii 0 0 (.slice none 0 0) 9 W) ∧ (startC g S N n ≠ -1 → MaxC ≤ startC g S N n → ∀ W, RtV w.heap.size g nn ii 0 0 (.slice none 0 0) 2 W) ∧ (startC g S N n ≠ -1 → startC g S N n < MaxC → (ii < 0 ∨ startC g S N n ≤ ii) → ∀ W, RtV w.heap.size g nn ii 0 0 (.slice none 0 0) 5 W)) :=
    fun N n S h1 h2 h3 h4 h5 => ⟨fun h W => .inr ⟨h1, N, n, S, h2, h3, h4, h5, .inl ⟨h, rfl, rfl, rfl, rfl⟩⟩, fun h h' W => .inr ⟨h1, N, n, S, h2, h3, h4, h5, .inr (.inl ⟨h, h', rfl, rfl, rfl, rfl⟩)⟩, fun h h' hi W => .inr ⟨h1, N, n, S, h2, h3, h4, h5, .inr (.inr ⟨h, h', .inl ⟨hi, rfl, rfl, rfl, rfl⟩⟩)⟩⟩
  obtain ⟨gt, HGT⟩ := nameIt g.terms
  obtain ⟨gn, HGN⟩ := nameIt g.nons
  obtain ⟨gs, HGS⟩ := nameIt g.start
  obtain ⟨rl, HRL⟩ := nameIt g.rules.length
  rw [HGT.out, HGN.out, HGS.out, HRL.out] at HW0 X0 HCN
  simp only [HGT.out, HGN.out, HGS.out, HRL.out] at HGD
  rw [HGT.out, HGN.out, HGS.out, HRL.out]
  have HGB0 : Hid (∀ W', Below w0.heap.size w0 W' → W'.cell? ⟨w.heap.size, 0, none⟩ = some (.int .i64 gt) ∧ W'.cell? ⟨w.heap.size, 0 + 1, none⟩ = some (.int .i64 gn) ∧ W'.cell? ⟨w.heap.size, 0 + 2, none⟩ = some (.int .i64 gs) ∧ W'.cell? ⟨w.heap.size, 0 + 3, none⟩ = some (.slice ra rl rcap)) := fun W' h => bx_cells4 (bx_keep X0.out h)
  have HRB0 : Hid (∀ W', Below w0.heap.size w0 W' → W'.heap[w.heap.size + 1]? = some (.cells #[.int .i64 0, .int .i64 0, .slice none 0 0] 42 (0, 0))) := fun W' h => bx_keep R0.out h
  obtain ⟨gb, HGBN⟩ := nameIt w.heap.size
  rw [HGBN.out] at HERR HGD HGB0 HRB0
  simp only [HGBN.out] at HV1 HV2
  obtain ⟨rb, HRBN⟩ := nameIt (gb + 1)
  rw [HRBN.out] at HERR HGD HRB0
  obtain ⟨x0, x1, x2, x3⟩ := HGB0.out w0 (Below.refl _ _)
  clear hr hb0 HP X0 R0 HRD
  go_enter Try.func26, Try.ntmps26
  go_upto_region 1 with fail
  rw [HW0.out, HGBN.out]
  rw [HRBN.out]
  go_wp2_with fail
  with_reducible refine HCN.out.mono ?_
  clear x0 x1 x2 x3
  rintro e w3 ⟨hb3, ⟨h1, rfl⟩ | ⟨h1, N, n', S, h2, h3, h4, h5, ⟨h6, rfl⟩ | ⟨h6, h7, rfl⟩ | ⟨h6, h7, d, w1, rfl, hb1, hc3⟩⟩⟩
  · obtain ⟨y0, y1, y2⟩ := bx_cells3 (HRB0.out w3 hb3)
    obtain ⟨f0, f1, f2⟩ := bx_free3 (HRB0.out w3 hb3)
    have HF := Lib.hid (HERR.out w3 _ hb3 (HV1.out h1))
    obtain ⟨c, HC⟩ := nameIt (errC g nn)
    rw [HC.out] at HF h1
    rw [HC.out]
    have hc' : (c != 0) = true := by simpa using h1
    clear h1 hb3 HERR HGD HV1 HV2
    go_wp2_with fail
    refine bodyPost_ret (v := .tuple #[.agg #[.int .i64 0, .int .i64 0, .slice none 0 0], .int .i64 c]) (by simp [results, Try.results26, go_sem, y0, y1, y2]) rfl ?_
    simpa using HF.out
  · obtain ⟨y0, y1, y2⟩ := bx_cells3 (HRB0.out w3 hb3)
    obtain ⟨f0, f1, f2⟩ := bx_free3 (HRB0.out w3 hb3)
    have HF := Lib.hid (HERR.out w3 _ hb3 ((HV2.out N n' S h1 h2 h3 h4 h5).1 h6))
    clear h1 h2 h3 h4 h5 h6 hb3 HERR HGD HV1 HV2
    go_wp2_with fail
    refine bodyPost_ret (v := .tuple #[.agg #[.int .i64 0, .int .i64 0, .slice none 0 0], .int .i64 9]) (by simp [results, Try.results26, go_sem, y0, y1, y2]) rfl ?_
    simpa using HF.out
  · obtain ⟨y0, y1, y2⟩ := bx_cells3 (HRB0.out w3 hb3)
    obtain ⟨f0, f1, f2⟩ := bx_free3 (HRB0.out w3 hb3)
    have HF := Lib.hid (HERR.out w3 _ hb3 ((HV2.out N n' S h1 h2 h3 h4 h5).2.1 h6 h7))
    clear h1 h2 h3 h4 h5 h6 h7 hb3 HERR HGD HV1 HV2
    go_wp2_with fail
    refine bodyPost_ret (v := .tuple #[.agg #[.int .i64 0, .int .i64 0, .slice none 0 0], .int .i64 2]) (by simp [results, Try.results26, go_sem, y0, y1, y2]) rfl ?_
    simpa using HF.out
  · by_cases hi : ii < 0 ∨ startC g S N n' ≤ ii
    · obtain ⟨y0, y1, y2⟩ := bx_cells3 (HRB0.out w3 hb3)
      obtain ⟨f0, f1, f2⟩ := bx_free3 (HRB0.out w3 hb3)
      have HF := Lib.hid (HERR.out w3 _ hb3 ((HV2.out N n' S h1 h2 h3 h4 h5).2.2 h6 h7 hi))
      obtain ⟨st, HSTN⟩ := nameIt (startC g S N n')
      rw [HSTN.out] at hi
      rw [HSTN.out]
      clear h1 h2 h3 h4 h5 h6 h7 hb3 HERR HGD HV1 HV2 hc3 hb1
      by_cases hi0 : ii < 0
      · have hd0 : decide (ii < 0) = true := by simpa using hi0
        clear hi hi0
        go_wp2_with fail
        refine bodyPost_ret (v := .tuple #[.agg #[.int .i64 0, .int .i64 0, .slice none 0 0], .int .i64 5]) (by simp [results, Try.results26, go_sem, y0, y1, y2]) rfl ?_
        simpa using HF.out
      · have hd0 : decide (ii < 0) = false := by simpa using hi0
        have hd1 : decide (st ≤ ii) = true := by simp; omega
        clear hi hi0
        go_wp2_with fail
        refine bodyPost_ret (v := .tuple #[.agg #[.int .i64 0, .int .i64 0, .slice none 0 0], .int .i64 5]) (by simp [results, Try.results26, go_sem, y0, y1, y2]) rfl ?_
        simpa using HF.out
    · obtain ⟨n, hn'⟩ : ∃ x : Nat, x = n' := ⟨_, rfl⟩
      subst hn'
      obtain ⟨i, rfl⟩ : ∃ i : Nat, ii = (i : Int) := ⟨ii.toNat, by omega⟩
      subst h3
      obtain ⟨t, HTR0, HOK0⟩ := HGD.out N n S d w1 i h1 rfl rfl h2 h4 h5 h6 h7 (by omega) hb1
      have HTR := Lib.hid HTR0
      have HOK := Lib.hid HOK0
      have HC3 := Lib.hid hc3
      have HB1 := Lib.hid hb1
      have HGB := HGB0
      have HRB : Hid (∀ W', CntR g (.slice ra rl rcap) N n d S w1 W' → W'.heap[rb]? = some (.cells #[.int .i64 0, .int .i64 0, .slice none 0 0] 42 (0, 0))) := fun W' h => HRB0.out W' (hb1.trans (h.bel.mono hb1.size))
      obtain ⟨st, HSTN⟩ := nameIt (startC g S N n)
      rw [HSTN.out] at hi
      rw [HSTN.out]
      have hd0 : decide ((i : Int) < 0) = false := by simp
      have hd1 : decide (st ≤ (i : Int)) = false := by simp; omega
      clear h1 h2 h4 h5 h6 h7 hb3 hb1 hc3 HERR HGD HV1 HV2 HTR0 HOK0 hi HRB0 HSTN
      go_upto_region 6 with fail
      have HD3 : Hid (CntR g (.slice ra rl rcap) N n d S w1 w3.drew) := HC3.out.keep (Below.refl _ _).drew
      have HS : Hid (∀ W', CntR g (.slice ra rl rcap) N n d S w1 W' → (fun w' => w'.cell? ⟨gb, 0, none⟩ = some (.int .i64 gt) ∧ w'.cell? ⟨gb, 0 + 1, none⟩ = some (.int .i64 gn) ∧ w'.cell? ⟨gb, 0 + 2, none⟩ = some (.int .i64 gs) ∧ w'.cell? ⟨gb, 0 + 3, none⟩ = some (.slice ra rl rcap)) W') := fun W' h => HGB.out W' (HB1.out.trans (h.bel.mono HB1.out.size))
      obtain ⟨wd, HWD⟩ := nameIt w3.drew
      rw [HWD.out] at HD3
      refine wp_region_U (S := (fun w' => w'.cell? ⟨gb, 0, none⟩ = some (.int .i64 gt) ∧ w'.cell? ⟨gb, 0 + 1, none⟩ = some (.int .i64 gn) ∧ w'.cell? ⟨gb, 0 + 2, none⟩ = some (.int .i64 gs) ∧ w'.cell? ⟨gb, 0 + 3, none⟩ = some (.slice ra rl rcap))) 10 (by kernel_rfl) (fun inv => ?_)
      rw [HWD.out]
      refine wpU_take (i := 0) (v := .agg #[.int .i64 gt, .int .i64 gn, .int .i64 gs, .slice ra rl rcap]) rfl inv (by kernel_rfl) (by kernel_rfl) (by decide) (by decide) (by kernel_rfl) (by kernel_rfl) (by kernel_rfl) (fun _ _ _ h => h) (Or.inl ⟨by rfl, fun w' hw' => ?_⟩) (HS.out _ HD3.out) (fun inv => ?_)
      · obtain ⟨h0, h1, h2, h3⟩ := hw'
        go_simp
      try simp only [Act.put, List.setIfInBounds_toArray, List.set_cons_zero, List.set_cons_succ]
      refine wpU_take (i := 1) (v := .pointer (some ⟨d.cb, 0, none⟩)) rfl inv (by kernel_rfl) (by kernel_rfl) (by decide) (by decide) (by kernel_rfl) (by kernel_rfl) (by kernel_rfl) (fun _ _ _ h => h) (Or.inl ⟨by rfl, fun w' hw' => ?_⟩) (HS.out _ HD3.out) (fun inv => ?_)
      · obtain ⟨h0, h1, h2, h3⟩ := hw'
        go_simp
      try simp only [Act.put, List.setIfInBounds_toArray, List.set_cons_zero, List.set_cons_succ]
      refine wpU_take (i := 2) (v := .agg #[.int .i64 gt, .int .i64 gn, .int .i64 gs, .slice ra rl rcap, .pointer (some ⟨d.cb, 0, none⟩)]) rfl inv (by kernel_rfl) (by kernel_rfl) (by decide) (by decide) (by kernel_rfl) (by kernel_rfl) (by kernel_rfl) (fun _ _ _ h => h) (Or.inl ⟨by rfl, fun w' hw' => ?_⟩) (HS.out _ HD3.out) (fun inv => ?_)
      · obtain ⟨h0, h1, h2, h3⟩ := hw'
        go_simp
      try simp only [Act.put, List.setIfInBounds_toArray, List.set_cons_zero, List.set_cons_succ]
      refine wpU_take (i := 4) (v := .pointer (some ⟨gb, 0 + 2, none⟩)) rfl inv (by kernel_rfl) (by kernel_rfl) (by decide) (by decide) (by kernel_rfl) (by kernel_rfl) (by kernel_rfl) (fun _ _ _ h => h) (Or.inl ⟨by rfl, fun w' hw' => ?_⟩) (HS.out _ HD3.out) (fun inv => ?_)
      · obtain ⟨h0, h1, h2, h3⟩ := hw'
        go_simp
      try simp only [Act.put, List.setIfInBounds_toArray, List.set_cons_zero, List.set_cons_succ]
      refine wpU_take (i := 5) (v := .int .i64 gs) rfl inv (by kernel_rfl) (by kernel_rfl) (by decide) (by decide) (by kernel_rfl) (by kernel_rfl) (by kernel_rfl) (fun _ _ _ h => h) (Or.inl ⟨by rfl, fun w' hw' => ?_⟩) (HS.out _ HD3.out) (fun inv => ?_)
      · obtain ⟨h0, h1, h2, h3⟩ := hw'
        go_simp
      try simp only [Act.put, List.setIfInBounds_toArray, List.set_cons_zero, List.set_cons_succ]
      refine wpU_take (i := 7) (v := .int .i64 (n : Int)) rfl inv (by kernel_rfl) (by kernel_rfl) (by decide) (by decide) (by kernel_rfl) (by kernel_rfl) (by kernel_rfl) (fun _ _ _ h => h) (Or.inl ⟨by rfl, fun w' hw' => ?_⟩) (HS.out _ HD3.out) (fun inv => ?_)
      · obtain ⟨h0, h1, h2, h3⟩ := hw'
        go_simp
      try simp only [Act.put, List.setIfInBounds_toArray, List.set_cons_zero, List.set_cons_succ]
      refine wpU_take (i := 8) (v := .int .i64 (i : Int)) rfl inv (by kernel_rfl) (by kernel_rfl) (by decide) (by decide) (by kernel_rfl) (by kernel_rfl) (by kernel_rfl) (fun _ _ _ h => h) (Or.inl ⟨by rfl, fun w' hw' => ?_⟩) (HS.out _ HD3.out) (fun inv => ?_)
      · obtain ⟨h0, h1, h2, h3⟩ := hw'
        go_simp
      try simp only [Act.put, List.setIfInBounds_toArray, List.set_cons_zero, List.set_cons_succ]
      refine wpU_two (i := 3) (j := 6) (by kernel_rfl) rfl rfl (fun K hK => ?_) (fun K hK => ?_)
      · replace inv := inv_setc (i := 3) inv (by kernel_rfl) (by decide)
        go_simp
        obtain ⟨w4, HWw4⟩ := nameIt (wd.alloc (.cells #[.int .i64 gt, .int .i64 gn, .int .i64 gs, .slice ra rl rcap, .pointer (some ⟨d.cb, 0, none⟩)] 85))
        rw [HWw4.out]
        have HBw4 : Hid (Below wd.heap.size wd w4) := by rw [← HWw4.out]; exact (Below.refl _ _).alloc (Nat.le_refl _) _
        have Xw4 : Hid (w4.heap[wd.heap.size]? = some (.cells #[.int .i64 gt, .int .i64 gn, .int .i64 gs, .slice ra rl rcap, .pointer (some ⟨d.cb, 0, none⟩)] 85 (0, 0))) := by rw [← HWw4.out]; exact bx_new _ _ _ rfl
        have HC4 := Lib.hid (HD3.out.keep HBw4.out)
        have hcbw4 := HD3.out.cbl'
        clear HWw4
        refine hK.out _ _ (fun _ => HS.out _ HC4.out) ?_
        clear hK K
        try simp only [Act.put, List.setIfInBounds_toArray, List.set_cons_zero, List.set_cons_succ]
        refine wpU_one (i := 6) (by kernel_rfl) rfl (fun K hK => ?_)
        replace inv := inv_setc (i := 6) inv (by kernel_rfl) (by decide)
        go_simp
        with_reducible refine (gramN _ _).mono ?_
        rintro e w5 ⟨rfl, hbw5⟩
        have HC5 := Lib.hid (HC4.out.keep hbw5)
        refine hK.out _ _ (fun _ => HS.out _ HC5.out) ?_
        clear hK K
        try simp only [Act.put, List.setIfInBounds_toArray, List.set_cons_zero, List.set_cons_succ]
        have hcbx : d.cb < wd.heap.size := hcbw4
        refine wpU_one (i := 9) (by kernel_rfl) rfl (fun K hK => ?_)
        replace inv := inv_setc (i := 9) inv (by kernel_rfl) (by decide)
        go_simp
        with_reducible refine (HTR.out w5 wd.heap.size HC5.out (bx_keep Xw4.out hbw5) hcbx).mono ?_
        rintro e w6 ⟨v6, rfl, hr6, hf6, hc6⟩
        have hrl := (Array.getElem?_eq_some_iff.1 (HRB.out w5 HC5.out)).1
        have HF6 : Hid (Rd (fun k => k ≠ rb ∧ gb ≤ k) w6 (.sl (t.kids.map Tree.d)) [v6]) := hr6.mono (fun k hk _ => ⟨fun e => by subst e; exact absurd hrl (Nat.not_lt.2 hk), by have := HRBN.out; have h9 : w5.heap.size ≤ k := hk; omega⟩)
        obtain ⟨a6, c6, rfl, -, -⟩ := hr6.form
        obtain ⟨n6, HN6⟩ := nameIt (t.kids.map Tree.d).length
        rw [HN6.out] at HF6
        rw [HN6.out]
        have HC6 := Lib.hid hc6
        clear hr6 hf6 hc6
        refine hK.out _ _ (fun _ => HS.out _ HC6.out) ?_
        clear hK K
        try simp only [Act.put, List.setIfInBounds_toArray, List.set_cons_zero, List.set_cons_succ]
        obtain ⟨tr, HTRN⟩ := nameIt t.rule
        obtain ⟨tm, HTMN⟩ := nameIt t.term
        have R6 := HRB.out w6 HC6.out
        obtain ⟨y0, y1, y2⟩ := bx_cells3 R6
        obtain ⟨f0, f1, f2⟩ := bx_free3 R6
        have HE := Lib.hid (HOK.out w6 tr tm (.slice a6 n6 c6) (.slice a6 n6 c6) HC6.out HF6.out HTRN.out.symm HTMN.out.symm rfl)
        rw [HTRN.out, HTMN.out] at HE
        rw [HTRN.out, HTMN.out]
        clear R6 HF6
        refine wpU_one (i := 10) (by kernel_rfl) rfl (fun K hK => ?_)
        go_simp
        refine hK.out _ _ (fun h => absurd (show true = false from h) (by decide)) ?_
        clear hK K
        try simp only [Act.put, List.setIfInBounds_toArray, List.set_cons_zero, List.set_cons_succ]
        refine wpU_one (i := 11) (by kernel_rfl) rfl (fun K hK => ?_)
        go_simp
        refine hK.out _ _ (fun h => absurd (show true = false from h) (by decide)) ?_
        clear hK K
        try simp only [Act.put, List.setIfInBounds_toArray, List.set_cons_zero, List.set_cons_succ]
        refine wpU_done (by kernel_rfl) ?_ _
        go_wp2_with fail
        refine bodyPost_ret (v := .tuple #[.agg #[.int .i64 tr, .int .i64 tm, .slice a6 n6 c6], .int .i64 0]) (by simp [results, Try.results26, go_sem, y0, y1, y2]) rfl ?_
        simpa using HE.out
      · replace inv := inv_setc (i := 6) inv (by kernel_rfl) (by decide)
        go_simp
        with_reducible refine (gramN _ _).mono ?_
        rintro e w4 ⟨rfl, hbw4⟩
        have HC4 := Lib.hid (HD3.out.keep hbw4)
        refine hK.out _ _ (fun _ => HS.out _ HC4.out) ?_
        clear hK K
        try simp only [Act.put, List.setIfInBounds_toArray, List.set_cons_zero, List.set_cons_succ]
        refine wpU_one (i := 3) (by kernel_rfl) rfl (fun K hK => ?_)
        replace inv := inv_setc (i := 3) inv (by kernel_rfl) (by decide)
        go_simp
        obtain ⟨w5, HWw5⟩ := nameIt (w4.alloc (.cells #[.int .i64 gt, .int .i64 gn, .int .i64 gs, .slice ra rl rcap, .pointer (some ⟨d.cb, 0, none⟩)] 85))
        rw [HWw5.out]
        have HBw5 : Hid (Below w4.heap.size w4 w5) := by rw [← HWw5.out]; exact (Below.refl _ _).alloc (Nat.le_refl _) _
        have Xw5 : Hid (w5.heap[w4.heap.size]? = some (.cells #[.int .i64 gt, .int .i64 gn, .int .i64 gs, .slice ra rl rcap, .pointer (some ⟨d.cb, 0, none⟩)] 85 (0, 0))) := by rw [← HWw5.out]; exact bx_new _ _ _ rfl
        have HC5 := Lib.hid (HC4.out.keep HBw5.out)
        have hcbw5 := HC4.out.cbl'
        clear HWw5
        refine hK.out _ _ (fun _ => HS.out _ HC5.out) ?_
        clear hK K
        try simp only [Act.put, List.setIfInBounds_toArray, List.set_cons_zero, List.set_cons_succ]
        have hcbx : d.cb < w4.heap.size := hcbw5
        refine wpU_one (i := 9) (by kernel_rfl) rfl (fun K hK => ?_)
        replace inv := inv_setc (i := 9) inv (by kernel_rfl) (by decide)
        go_simp
        with_reducible refine (HTR.out w5 w4.heap.size HC5.out Xw5.out hcbx).mono ?_
        rintro e w6 ⟨v6, rfl, hr6, hf6, hc6⟩
        have hrl := (Array.getElem?_eq_some_iff.1 (HRB.out w5 HC5.out)).1
        have HF6 : Hid (Rd (fun k => k ≠ rb ∧ gb ≤ k) w6 (.sl (t.kids.map Tree.d)) [v6]) := hr6.mono (fun k hk _ => ⟨fun e => by subst e; exact absurd hrl (Nat.not_lt.2 hk), by have := HRBN.out; have h9 : w5.heap.size ≤ k := hk; omega⟩)
        obtain ⟨a6, c6, rfl, -, -⟩ := hr6.form
        obtain ⟨n6, HN6⟩ := nameIt (t.kids.map Tree.d).length
        rw [HN6.out] at HF6
        rw [HN6.out]
        have HC6 := Lib.hid hc6
        clear hr6 hf6 hc6
        refine hK.out _ _ (fun _ => HS.out _ HC6.out) ?_
        clear hK K
        try simp only [Act.put, List.setIfInBounds_toArray, List.set_cons_zero, List.set_cons_succ]
        obtain ⟨tr, HTRN⟩ := nameIt t.rule
        obtain ⟨tm, HTMN⟩ := nameIt t.term
        have R6 := HRB.out w6 HC6.out
        obtain ⟨y0, y1, y2⟩ := bx_cells3 R6
        obtain ⟨f0, f1, f2⟩ := bx_free3 R6
        have HE := Lib.hid (HOK.out w6 tr tm (.slice a6 n6 c6) (.slice a6 n6 c6) HC6.out HF6.out HTRN.out.symm HTMN.out.symm rfl)
        rw [HTRN.out, HTMN.out] at HE
        rw [HTRN.out, HTMN.out]
        clear R6 HF6
        refine wpU_one (i := 10) (by kernel_rfl) rfl (fun K hK => ?_)
        go_simp
        refine hK.out _ _ (fun h => absurd (show true = false from h) (by decide)) ?_
        clear hK K
        try simp only [Act.put, List.setIfInBounds_toArray, List.set_cons_zero, List.set_cons_succ]
        refine wpU_one (i := 11) (by kernel_rfl) rfl (fun K hK => ?_)
        go_simp
        refine hK.out _ _ (fun h => absurd (show true = false from h) (by decide)) ?_
        clear hK K
        try simp only [Act.put, List.setIfInBounds_toArray, List.set_cons_zero, List.set_cons_succ]
        refine wpU_done (by kernel_rfl) ?_ _
        go_wp2_with fail
        refine bodyPost_ret (v := .tuple #[.agg #[.int .i64 tr, .int .i64 tm, .slice a6 n6 c6], .int .i64 0]) (by simp [results, Try.results26, go_sem, y0, y1, y2]) rfl ?_
        simpa using HE.out

end Cs
end Go.Proofs.Ytbnpemgmdnghgaa
namespace Go.Proofs.Ytbnpemgmdnghgaa
open Go.RowKit

/-- a block that is known whole is a row -/
theorem own_of_block {w : World} {g : Nat} {e : TypeId} {size n : Nat} {cur : Array Value} (h : w.heap[g]? = some (.cells cur e (0, 0))) (hn : cur.size = n * size) (hm : n ≤ maxLen) : w.ownsRow 0 e size (.slice (some ⟨g, 0, none⟩) n n) n cur.toList :=
  ⟨by simpa using hn, .inr ⟨_, n, cur, rfl, Nat.zero_le _, h, Nat.le_refl _, hm, hn, by rw [← hn]; exact List.take_of_length_le (by simp)⟩⟩
end Go.Proofs.Ytbnpemgmdnghgaa
namespace Go.Proofs.Ytbnpemgmdnghgaa
open Go.RowKit
namespace Cs

def GramPostC (g : Gram) (w : World) (e : Ending) (w' : World) : Prop := ∃ v, e = .returned (.agg #[.int .i64 g.terms, .int .i64 g.nons, .int .i64 g.start, v]) ∧ Rd AnyB w' (.sl (g.rules.map Rule.d)) [v] ∧ Below w.heap.size w w'
def plG : Gram := ⟨2, 1, 0, [⟨0, [⟨true, 0⟩]⟩, ⟨0, [⟨true, 1⟩, ⟨false, 0⟩]⟩]⟩
set_option maxHeartbeats 1000000 in
theorem plE (w : World) : Calls Try.prog 8 #[] w (GramPostC plG w) := by
  go_enter Try.func8, Try.ntmps8
  go_wp2_with fail
  refine bodyPost_ret (v := .agg #[.int .i64 2, .int .i64 1, .int .i64 0, .slice (some ⟨w.heap.size + 1 + 1 + 1, 0, none⟩) 2 2]) (by simp [results, Try.results8, go_sem]) rfl ?_
  refine ⟨_, rfl, ?_, ((((Below.refl _ _).alloc (Nat.le_refl _) _).alloc (by simp) _).alloc (by simp; omega) _).alloc (by simp; omega) _⟩
  refine rd_of_own (own_of_block (bx_new _ _ _ (by simp)) (n := 2) (size := 2) rfl (by simp [maxLen])) ?_ rfl (fun _ _ => trivial)
  refine ⟨[.int .i64 0, .slice (some ⟨w.heap.size + 1, 0, none⟩) 1 1], [.int .i64 0, .slice (some ⟨w.heap.size + 1 + 1, 0, none⟩) 2 2], rfl, ?_, RdAll.one ?_⟩
  · refine rd_rule (r := ⟨0, [⟨true, 0⟩]⟩) ?_
    exact rd_of_own (own_of_block (bx_keep (bx_keep (bx_new _ _ _ (by simp)) ((Below.refl _ _).alloc (Nat.le_refl _) _)) ((Below.refl _ _).alloc (Nat.le_refl _) _)) (n := 1) (size := 2) rfl (by simp [maxLen])) (RdAll.one (rd_sym ⟨true, 0⟩)) rfl (fun _ _ => trivial)
  · refine rd_rule (r := ⟨0, [⟨true, 1⟩, ⟨false, 0⟩]⟩) ?_
    refine rd_of_own (own_of_block (bx_keep (bx_new _ _ _ (by simp)) ((Below.refl _ _).alloc (Nat.le_refl _) _)) (n := 2) (size := 2) rfl (by simp [maxLen])) ?_ rfl (fun _ _ => trivial)
    exact ⟨[.bool true, .int .i64 1], [.bool false, .int .i64 0], rfl, rd_sym ⟨true, 1⟩, RdAll.one (rd_sym ⟨false, 0⟩)⟩
theorem plain_fix : (p3 4 plG.rules (itP 4 plG.rules 1 (fun _ _ => false))).2 = false := by decide +kernel
theorem plain_start : startC plG (itP 4 plG.rules 1 (fun _ _ => false)) 1 4 = 1 := by decide +kernel
theorem plain_err : errC plG 4 = 0 := by decide +kernel
def CountPost (g : Gram) (n : Int) (w : World) (e : Ending) (w' : World) : Prop :=
  Below w.heap.size w w' ∧ ((errC g n ≠ 0 ∧ e = .returned (.tuple #[.int .i64 0, .int .i64 (errC g n)])) ∨
    (errC g n = 0 ∧ ∃ (N n' : Nat) (S : Nat → Nat → Bool), OkC g N ∧ n = (n' : Int) ∧ n' ≤ 24 ∧ DoneC g n' S ∧
      ((startC g S N n' = -1 ∧ e = .returned (.tuple #[.int .i64 0, .int .i64 9])) ∨
       (startC g S N n' ≠ -1 ∧ MaxC ≤ startC g S N n' ∧ e = .returned (.tuple #[.int .i64 0, .int .i64 2])) ∨
       (startC g S N n' ≠ -1 ∧ startC g S N n' < MaxC ∧ e = .returned (.tuple #[.int .i64 (startC g S N n'), .int .i64 0])))))
set_option maxHeartbeats 4000000 in
set_option maxRecDepth 100000 in
theorem rankCountE (g : Gram) (ra : Option Addr) (rcap : Nat) (n : Int) (w : World) (hr : Rd AnyB w (.sl (g.rules.map Rule.d)) [.slice ra g.rules.length rcap]) :
    Calls Try.prog 17 #[.agg #[.int .i64 g.terms, .int .i64 g.nons, .int .i64 g.start, .slice ra g.rules.length rcap], .int .i64 n] w (CountPost g n w) := by
  obtain ⟨w0, HW0⟩ := nameIt (w.alloc (.cells #[.int .i64 g.terms, .int .i64 g.nons, .int .i64 g.start, .slice ra g.rules.length rcap] 24))
  have hb0 : Below w.heap.size w w0 := by rw [← HW0.out]; exact (Below.refl _ _).alloc (Nat.le_refl _) _
  have X0 : Hid (w0.heap[w.heap.size]? = some (.cells #[.int .i64 g.terms, .int .i64 g.nons, .int .i64 g.start, .slice ra g.rules.length rcap] 24 (0, 0))) := by rw [← HW0.out]; exact bx_new _ _ _ rfl
  have HCN := Lib.hid (countE g ra rcap n w0 (hr.below hb0))
  obtain ⟨PST, HP⟩ := nameIt (CountPost g n w)
  rw [HP.out]
  have HF : Hid (∀ w', Below w0.heap.size w0 w' → ∀ x y : Int, ((errC g n ≠ 0 ∧ x = 0 ∧ y = errC g n) ∨
    (errC g n = 0 ∧ ∃ (N n' : Nat) (S : Nat → Nat → Bool), OkC g N ∧ n = (n' : Int) ∧ n' ≤ 24 ∧ DoneC g n' S ∧
      ((startC g S N n' = -1 ∧ x = 0 ∧ y = 9) ∨ (startC g S N n' ≠ -1 ∧ MaxC ≤ startC g S N n' ∧ x = 0 ∧ y = 2) ∨ (startC g S N n' ≠ -1 ∧ startC g S N n' < MaxC ∧ x = startC g S N n' ∧ y = 0)))) → PST (.returned (.tuple #[.int .i64 x, .int .i64 y])) w') := by
    intro w' h x y hh
    rw [← HP.out]
    refine ⟨hb0.trans (h.mono hb0.size), ?_⟩
    rcases hh with ⟨h1, rfl, rfl⟩ | ⟨h1, N, n', S, h2, h3, h4, h5, ⟨h6, rfl, rfl⟩ | ⟨h6, h7, rfl, rfl⟩ | ⟨h6, h7, rfl, rfl⟩⟩
    · exact .inl ⟨h1, rfl⟩
    · exact .inr ⟨h1, N, n', S, h2, h3, h4, h5, .inl ⟨h6, rfl⟩⟩
    · exact .inr ⟨h1, N, n', S, h2, h3, h4, h5, .inr (.inl ⟨h6, h7, rfl⟩)⟩
    · exact .inr ⟨h1, N, n', S, h2, h3, h4, h5, .inr (.inr ⟨h6, h7, rfl⟩)⟩
  obtain ⟨gt, HGT⟩ := nameIt g.terms
  obtain ⟨gn, HGN⟩ := nameIt g.nons
  obtain ⟨gs, HGS⟩ := nameIt g.start
  obtain ⟨rl, HRL⟩ := nameIt g.rules.length
  rw [HGT.out, HGN.out, HGS.out, HRL.out] at HW0 X0 HCN
  rw [HGT.out, HGN.out, HGS.out, HRL.out]
  obtain ⟨x0, x1, x2, x3⟩ := bx_cells4 X0.out
  clear hb0 hr HP
  go_enter Try.func17, Try.ntmps17
  go_upto_region 1 with fail
  rw [HW0.out]
  go_wp2_with fail
  with_reducible refine HCN.out.mono ?_
  clear x0 x1 x2 x3
  rintro e w1 ⟨hb1, ⟨h1, rfl⟩ | ⟨h1, N, n', S, h2, h3, h4, h5, ⟨h6, rfl⟩ | ⟨h6, h7, rfl⟩ | ⟨h6, h7, d, w2, rfl, -, -⟩⟩⟩
  · have HE := Lib.hid (HF.out w1 hb1 _ _ (.inl ⟨h1, rfl, rfl⟩))
    obtain ⟨c, HC⟩ := nameIt (errC g n)
    rw [HC.out] at HE
    rw [HC.out]
    clear hb1 h1 HF
    go_wp2_with fail
    first | exact HE.out | (refine bodyPost_ret (results_tmp2 Try.results17 _ _ _) rfl ?_; exact HE.out)
  · have HE := Lib.hid (HF.out w1 hb1 _ _ (.inr ⟨h1, N, n', S, h2, h3, h4, h5, .inl ⟨h6, rfl, rfl⟩⟩))
    clear hb1 h1 h2 h3 h4 h5 h6 HF
    go_wp2_with fail
    first | exact HE.out | (refine bodyPost_ret (results_tmp2 Try.results17 _ _ _) rfl ?_; exact HE.out)
  · have HE := Lib.hid (HF.out w1 hb1 _ _ (.inr ⟨h1, N, n', S, h2, h3, h4, h5, .inr (.inl ⟨h6, h7, rfl, rfl⟩)⟩))
    clear hb1 h1 h2 h3 h4 h5 h6 h7 HF
    go_wp2_with fail
    first | exact HE.out | (refine bodyPost_ret (results_tmp2 Try.results17 _ _ _) rfl ?_; exact HE.out)
  · have HE := Lib.hid (HF.out w1 hb1 _ _ (.inr ⟨h1, N, n', S, h2, h3, h4, h5, .inr (.inr ⟨h6, h7, rfl, rfl⟩)⟩))
    obtain ⟨c, HC⟩ := nameIt (startC g S N n')
    rw [HC.out] at HE
    rw [HC.out]
    clear hb1 h1 h2 h3 h4 h5 h6 h7 HF
    go_wp2_with fail
    first | exact HE.out | (refine bodyPost_ret (results_tmp2 Try.results17 _ _ _) rfl ?_; exact HE.out)
/-- at the plain grammar -/
theorem countPlainE (ra : Option Addr) (rcap : Nat) (w : World) (hr : Rd AnyB w (.sl (plG.rules.map Rule.d)) [.slice ra plG.rules.length rcap]) :
    Calls Try.prog 17 #[.agg #[.int .i64 2, .int .i64 1, .int .i64 0, .slice ra 2 rcap], .int .i64 4] w (fun e w' => e = .returned (.tuple #[.int .i64 1, .int .i64 0]) ∧ Below w.heap.size w w') := by
  refine (rankCountE plG ra rcap 4 w hr).mono ?_
  rintro e w' ⟨hb, ⟨h1, _⟩ | ⟨h1, N, n', S, h2, h3, h4, h5, h6⟩⟩
  · exact absurd plain_err h1
  · obtain rfl : n' = 4 := by omega
    obtain rfl : N = 1 := by have := h2.nons; simp [plG] at this; omega
    obtain ⟨⟨q, hq⟩, hp⟩ := h5
    have hS := done_eq (p := 1) (N := 1) (fun r hr => (h2.l r hr).2) hq hp plain_fix
    rw [hS, plain_start] at h6
    rcases h6 with ⟨h6, _⟩ | ⟨_, h6, _⟩ | ⟨_, _, he⟩
    · cases h6
    · exact absurd h6 (by decide)
    · exact ⟨he, hb⟩
end Cs
end Go.Proofs.Ytbnpemgmdnghgaa
namespace Go.Proofs.Ytbnpemgmdnghgaa.Draw

/-- the number that a word of coins spells, the first coin highest -/
def val (l : List Bool) : Nat := l.foldl (fun x b => 2 * x + cond b 1 0) 0

theorem val_snoc (l : List Bool) (b : Bool) : val (l ++ [b]) = 2 * val l + cond b 1 0 := by
  simp [val, List.foldl_append]

theorem fold_lt (l : List Bool) : ∀ x : Nat, l.foldl (fun x b => 2 * x + cond b 1 0) x < (x + 1) * 2 ^ l.length := by
  induction l with
  | nil => intro x; simp
  | cons b l ih =>
    intro x
    have h := ih (2 * x + cond b 1 0)
    rw [List.foldl_cons, List.length_cons, Nat.pow_succ]
    refine Nat.lt_of_lt_of_le h ?_
    have : (2 * x + cond b 1 0 + 1) ≤ (x + 1) * 2 := by cases b <;> simp <;> omega
    refine Nat.le_trans (Nat.mul_le_mul_right (2 ^ l.length) this) ?_
    rw [Nat.mul_assoc, Nat.mul_comm 2]; exact Nat.le_refl _

theorem val_lt (l : List Bool) : val l < 2 ^ l.length := by simpa [val] using fold_lt l 0

/-- how many coins are taken at once: the least k with n ≤ 2^k -/
def need (n : Nat) : Nat := if n ≤ 1 then 0 else (n - 1).log2 + 1

theorem need_eq {n k : Nat} (h1 : n ≤ 2 ^ k) (h2 : ∀ j, j < k → 2 ^ j < n) : need n = k := by
  unfold need
  by_cases hn : n ≤ 1
  · rw [if_pos hn]
    rcases Nat.eq_zero_or_pos k with rfl | hk
    · rfl
    · have := h2 0 hk; simp at this; omega
  · rw [if_neg hn]
    rcases Nat.eq_zero_or_pos k with rfl | hk
    · simp at h1; omega
    · have h3 := h2 (k - 1) (by omega)
      have h4 : (n - 1).log2 < k := (Nat.log2_lt (by omega)).2 (by omega)
      have h5 : k - 1 ≤ (n - 1).log2 := (Nat.le_log2 (by omega)).2 (by omega)
      omega

theorem need_spec (n : Nat) : n ≤ 2 ^ need n ∧ ∀ j, j < need n → 2 ^ j < n := by
  unfold need
  by_cases hn : n ≤ 1
  · rw [if_pos hn]; exact ⟨by simpa using hn, fun j hj => by omega⟩
  · rw [if_neg hn]
    have h4 : n - 1 < 2 ^ ((n - 1).log2 + 1) := (Nat.log2_lt (by omega)).1 (by omega)
    refine ⟨by omega, fun j hj => ?_⟩
    have h5 : 2 ^ j ≤ n - 1 := (Nat.le_log2 (by omega)).1 (by omega)
    omega

theorem need_le {n : Nat} (h : n ≤ 2 ^ 30) : need n ≤ 30 := by
  rcases Nat.lt_or_ge 30 (need n) with h1 | h1
  · have := (need_spec n).2 30 h1; omega
  · exact h1

def chunk (k : Nat) (l : List Bool) (i : Nat) : List Bool := (l.drop (i * k)).take k
def good (n k : Nat) (l : List Bool) (i : Nat) : Bool := decide ((i + 1) * k ≤ l.length) && decide (val (chunk k l i) < n)
/-- the number that is drawn below n, and how many coins it takes -/
def num (n : Nat) (l : List Bool) : Option (Nat × Nat) :=
  ((List.range (l.length + 1)).find? (good n (need n) l)).map fun i => (val (chunk (need n) l i), (i + 1) * need n)

theorem num_some {n k : Nat} {l : List Bool} {i : Nat} (hk : need n = k) (hin : i ≤ l.length) (hi : good n k l i = true) (hj : ∀ j, j < i → good n k l j = false) :
    num n l = some (val (chunk k l i), (i + 1) * k) := by
  subst hk
  unfold num
  have : (List.range (l.length + 1)).find? (good n (need n) l) = some i := by
    rw [List.find?_range_eq_some]
    exact ⟨hi, by simp; omega, fun j h => by simp [hj j h]⟩
  rw [this]; rfl

theorem num_none {n k : Nat} {l : List Bool} (hk : need n = k) (h : ∀ j, j ≤ l.length → good n k l j = false) : num n l = none := by
  subst hk
  unfold num
  have : (List.range (l.length + 1)).find? (good n (need n) l) = none := by
    rw [List.find?_eq_none]
    intro j hj; simp at hj; simp [h j (by omega)]
  rw [this]; rfl

theorem num_lt {n : Nat} {l : List Bool} {x u : Nat} (h : num n l = some (x, u)) : x < n ∧ u ≤ l.length := by
  unfold num at h
  cases hf : (List.range (l.length + 1)).find? (good n (need n) l) with
  | none => rw [hf] at h; cases h
  | some i =>
    rw [hf] at h
    have hg := List.find?_some hf
    simp [good] at hg
    simp at h
    omega
end Go.Proofs.Ytbnpemgmdnghgaa.Draw
namespace Go.Proofs.Ytbnpemgmdnghgaa
open Go.RowKit

def bools (l : List Bool) : List Value := l.map Value.bool
def numRes : Option (Nat × Nat) → Value
  | some (x, u) => .tuple #[.int .i64 x, .int .i64 u, .int .i64 0]
  | none => .tuple #[.int .i64 0, .int .i64 0, .int .i64 5]

theorem number_arg (n : Int) (v : Value) (w : World) (h : n < 1 ∨ 1000000000 < n) :
    Calls Try.prog 43 #[.int .i64 n, v] w fun e w' => e = .returned (.tuple #[.int .i64 0, .int .i64 0, .int .i64 1]) ∧ w = w' := by
  rcases h with h | h
  · go_enter Try.func43, Try.ntmps43
    go_wp2
    go_ret3
    exact ⟨rfl, rfl⟩
  · have h' : ¬ n < 1 := by omega
    go_enter Try.func43, Try.ntmps43
    go_wp2
    go_ret3
    exact ⟨rfl, rfl⟩

theorem pow30 {k : Nat} (h : k ≤ 30) : (2 : Nat) ^ k ≤ 1073741824 := Nat.le_trans (Nat.pow_le_pow_right (by omega) h) (by decide)
theorem wrap_pow {k : Nat} (h : k ≤ 30) : wrap64 (2 ^ k) = ((2 ^ k : Nat) : Int) := by
  have h1 := pow30 h
  have e : ((2 : Int) ^ k) = ((2 ^ k : Nat) : Int) := by simp
  rw [e]
  generalize 2 ^ k = x at *
  exact IntWalk.wrap64_in _ ⟨by omega, by omega⟩

theorem bools_len (l : List Bool) : (bools l).length = l.length := by simp [bools]
theorem chunk_len {k u : Nat} {l : List Bool} (h : k ≤ u) (hu : u ≤ l.length) : ((l.drop (u - k)).take k).length = k := by simp; omega
theorem take_snoc {α : Type} {L : List α} {j : Nat} (h : j < L.length) : L.take (j + 1) = L.take j ++ [L[j]] := by
  rw [List.take_succ_eq_append_getElem h]

/-- one try, its coins at hand -/
theorem drawGood_eq {n k i : Nat} {l : List Bool} (h : (i + 1) * k ≤ l.length) : Draw.good n k l i = decide (Draw.val (Draw.chunk k l i) < n) := by
  simp [Draw.good, h]
theorem bad_far {n k i : Nat} {l : List Bool} (hk : 1 ≤ k) (h : l.length < (i + 1) * k) : ∀ j, i ≤ j → Draw.good n k l j = false := by
  intro j hj
  have : (i + 1) * k ≤ (j + 1) * k := Nat.mul_le_mul_right k (by omega)
  simp [Draw.good]; omega

set_option maxHeartbeats 400000 in
theorem number_nil (n : Nat) (a : Option Addr) (cap : Nat) (w : World) (h1 : 2 ≤ n) (h2 : n ≤ 1000000000) :
    Calls Try.prog 43 #[.int .i64 n, .slice a 0 cap] w fun e w' => e = .returned (numRes (Draw.num n [])) ∧ w = w' := by
  have h3 : ¬ (n : Int) < 1 := by omega
  have h4 : ¬ 1000000000 < (n : Int) := by omega
  have HE : Hid (Draw.num n [] = none) := by
    refine Draw.num_none rfl fun j hj => ?_
    have := (Draw.need_spec n).1
    have h5 : 0 < Draw.need n := by
      rcases Nat.eq_zero_or_pos (Draw.need n) with h5 | h5
      · rw [h5] at this; simp at this; omega
      · exact h5
    have h6 := Nat.mul_pos (show 0 < j + 1 by omega) h5
    simp [Draw.good]; omega
  go_enter Try.func43, Try.ntmps43
  go_wp2
  go_loop [7] (fun t => ∃ k : Nat, k ≤ 30 ∧ t = .int .i64 k) (fun t => 30 - (intOf t).toNat)
  case atStart => exact ⟨0, by omega, rfl⟩
  case round =>
    obtain ⟨k, hk, rfl⟩ := hrel
    have HW := Lib.hid (wrap_pow hk)
    go_wp2
    · have h : wrap64 (2 ^ k) < (n : Int) := by assumption
      rw [HW.out] at h
      have hk' : k < 30 := by
        rcases Nat.lt_or_ge k 30 with h5 | h5
        · exact h5
        · obtain rfl : k = 30 := by omega
          simp at h; omega
      exact ⟨⟨k + 1, by omega, by go_num⟩, by simp [intOf]; omega⟩
    · have h : (n : Int) ≤ wrap64 (2 ^ k) := by assumption
      rw [HW.out] at h
      have hk1 : 1 ≤ k := by
        rcases Nat.eq_zero_or_pos k with h5 | h5
        · subst h5; simp at h; omega
        · exact h5
      clear h HW
      go_wp2
      refine wp_loop_rounds 1 ?_
      rw [rounds_succ]
      go_wp2
      go_ret3
      rw [HE.out]
      exact ⟨rfl, rfl⟩

set_option maxHeartbeats 400000 in
theorem number_two (n : Nat) (b off : Nat) (cap : Nat) (l : List Bool) (w : World) (hcell : ∀ i (h : i < l.length), w.cell? ⟨b, off + i, none⟩ = some (.bool l[i])) (hlc : l.length ≤ cap) (hL : l.length ≤ 140737488355328) (h1 : 2 ≤ n) (h2 : n ≤ 1000000000) :
    Calls Try.prog 43 #[.int .i64 n, .slice (some ⟨b, off, none⟩) l.length cap] w fun e w' => e = .returned (numRes (Draw.num n l)) ∧ w = w' := by
  have h3 : ¬ (n : Int) < 1 := by omega
  have h4 : ¬ 1000000000 < (n : Int) := by omega
  have HC := Lib.hid hcell
  clear hcell
  go_enter Try.func43, Try.ntmps43
  go_wp2
  go_loop [7] (fun t => ∃ k : Nat, k ≤ 30 ∧ t = .int .i64 k ∧ ∀ j, j < k → 2 ^ j < n) (fun t => 30 - (intOf t).toNat)
  case atStart => exact ⟨0, by omega, rfl, by omega⟩
  case round =>
    obtain ⟨k, hk, rfl, hj⟩ := hrel
    have HJ := Lib.hid hj
    clear hj
    have HW := Lib.hid (wrap_pow hk)
    go_wp2
    · have h : wrap64 (2 ^ k) < (n : Int) := by assumption
      rw [HW.out] at h
      have hk' : k < 30 := by
        rcases Nat.lt_or_ge k 30 with h5 | h5
        · exact h5
        · obtain rfl : k = 30 := by omega
          simp at h; omega
      refine ⟨⟨k + 1, by omega, by go_num, fun j hj => ?_⟩, by simp [intOf]; omega⟩
      rcases Nat.lt_or_ge j k with h5 | h5
      · exact HJ.out j h5
      · obtain rfl : j = k := by omega
        omega
    · have h : (n : Int) ≤ wrap64 (2 ^ k) := by assumption
      rw [HW.out] at h
      have HN := Lib.hid (Draw.need_eq (n := n) (k := k) (by omega) HJ.out)
      have hk1 : 1 ≤ k := by
        rcases Nat.eq_zero_or_pos k with h5 | h5
        · subst h5; simp at h; omega
        · exact h5
      clear h HW HJ
      go_wp2
      go_loop [8] (fun t => ∃ i : Nat, t = .int .i64 ((i + 1) * k : Nat) ∧ i * k ≤ l.length ∧ Hid (∀ j, j < i → Draw.good n k l j = false)) (fun t => l.length + 1 + k - (intOf t).toNat)
      case atStart => exact ⟨0, by go_num, by omega, fun j hj => by omega⟩
      case round =>
        obtain ⟨i, rfl, hi, HB⟩ := hrel
        have e1 : (i + 1) * k = i * k + k := Nat.succ_mul i k
        have E1 := Lib.hid e1
        clear e1
        have hu : (i + 1) * k ≤ l.length + 30 := by rw [E1.out]; omega
        have huk : k ≤ (i + 1) * k := by rw [E1.out]; omega
        generalize hU : (i + 1) * k = u at *
        have HU := Lib.hid hU
        clear hU
        by_cases hlt : u ≤ l.length
        · have hlt' : (u : Int) ≤ (l.length : Int) := by omega
          have hne : ¬ cap = u - k := by omega
          go_wp2
          go_loop [9, 39] (fun x t => ∃ j : Nat, j ≤ k ∧ t = .int .i64 j ∧ ∃ y : Nat, x = .int .i64 y ∧ y ≤ 1073741824 ∧ Hid (y = Draw.val ((Draw.chunk k l i).take j))) (fun _ t => k - (intOf t).toNat)
          case atStart => exact ⟨0, by omega, rfl, 0, rfl, by omega, rfl⟩
          case round =>
            obtain ⟨j, hj, rfl, y, rfl, hy, HY⟩ := hrel
            by_cases hjk : j < k
            · have hx : u - k + j < l.length := by omega
              have hcx := HC.out (u - k + j) hx
              rw [← Nat.add_assoc] at hcx
              have hs : Hid (∀ c, l[u - k + j] = c → Draw.val ((Draw.chunk k l i).take (j + 1)) = 2 * y + cond c 1 0 ∧ Draw.val ((Draw.chunk k l i).take (j + 1)) ≤ 1073741824) := by
                intro c hc
                have e2 : i * k = u - k := by have := E1.out; omega
                have hcl : (Draw.chunk k l i).length = k := by unfold Draw.chunk; rw [e2]; exact chunk_len huk hlt
                have e3 : (Draw.chunk k l i)[j]'(by omega) = c := by
                  rw [← hc]; unfold Draw.chunk; simp [e2]
                constructor
                · rw [take_snoc (by omega), Draw.val_snoc, e3, ← HY.out]
                · have h5 := Draw.val_lt ((Draw.chunk k l i).take (j + 1))
                  have h6 : ((Draw.chunk k l i).take (j + 1)).length ≤ 30 := by simp; omega
                  exact Nat.le_of_lt (Nat.lt_of_lt_of_le h5 (pow30 h6))
              generalize hc : l[u - k + j] = c at *
              have HS := Lib.hid (hs.out c rfl)
              clear hs hc
              cases c
              all_goals
                go_wp2
                refine ⟨⟨j + 1, by omega, by go_num, _, ?_, HS.out.2, rfl⟩, by simp [intOf]; omega⟩
                rw [HS.out.1]; simp; omega
            · have hjk' : j = k := by omega
              have HJ := Lib.hid hjk'
              clear hjk'
              have hyv : Hid (y = Draw.val (Draw.chunk k l i)) := by
                have h5 := HY.out
                rw [HJ.out, List.take_of_length_le (by unfold Draw.chunk; simp; omega)] at h5
                exact h5
              clear HY
              have hgood := drawGood_eq (n := n) (k := k) (i := i) (l := l) (by rw [HU.out]; exact hlt)
              rw [← hyv.out] at hgood
              have HG := Lib.hid hgood
              clear hgood
              by_cases hyn : y < n
              · go_wp2
                go_ret3
                refine ⟨?_, rfl⟩
                rw [Draw.num_some (i := i) HN.out (by have := E1.out; have := Nat.mul_le_mul_left i hk1; omega) (by rw [HG.out]; simpa using hyn) HB.out, ← hyv.out, HU.out]
                rfl
              · go_wp2
                refine ⟨⟨i + 1, ?_, by rw [HU.out]; exact hlt, ?_⟩, by simp [intOf]; omega⟩
                · have : (i + 1 + 1) * k = u + k := by rw [Nat.succ_mul, HU.out]
                  rw [this]; go_num
                · intro j' hj'
                  rcases Nat.lt_or_ge j' i with h5 | h5
                  · exact HB.out j' h5
                  · obtain rfl : j' = i := by omega
                    rw [HG.out]; simpa using hyn
        · have hlt' : ¬ (u : Int) ≤ (l.length : Int) := by omega
          go_wp2
          go_ret3
          refine ⟨?_, rfl⟩
          rw [Draw.num_none HN.out]
          · rfl
          · intro j hj
            rcases Nat.lt_or_ge j i with h5 | h5
            · exact HB.out j h5
            · exact bad_far hk1 (by rw [HU.out]; omega) j h5

theorem number_one (a : Option Addr) (len cap : Nat) (w : World) (hlc : len ≤ cap) (hL : len ≤ 140737488355328) :
    Calls Try.prog 43 #[.int .i64 1, .slice a len cap] w fun e w' => e = .returned (numRes (some (0, 0))) ∧ w = w' := by
  go_enter Try.func43, Try.ntmps43
  go_wp2
  refine wp_loop_rounds 1 ?_
  rw [rounds_succ]
  go_wp2
  refine wp_loop_rounds 1 ?_
  rw [rounds_succ]
  go_wp2
  all_goals
    refine wp_loop_rounds 1 ?_
    rw [rounds_succ]
    go_wp2
    go_ret3
    exact ⟨rfl, rfl⟩

theorem num_one (l : List Bool) : Draw.num 1 l = some (0, 0) := by
  rw [Draw.num_some (k := 0) (i := 0) rfl (by omega) (by simp [Draw.good, Draw.chunk, Draw.val]) (by omega)]
  rfl

theorem number (n : Int) (v : Value) (l : List Bool) (w : World) (hv : Sl w v (bools l)) (hL : l.length ≤ 140737488355328) (h1 : 1 ≤ n) (h2 : n ≤ 1000000000) :
    Calls Try.prog 43 #[.int .i64 n, v] w fun e w' => e = .returned (numRes (Draw.num n.toNat l)) ∧ w = w' := by
  obtain ⟨m, rfl⟩ := Int.eq_ofNat_of_zero_le (show 0 ≤ n by omega)
  rw [Int.toNat_natCast]
  by_cases hm : m = 1
  · subst hm
    obtain ⟨a, cap, rfl, hlc, hc, _, _⟩ := hv
    rw [bools_len] at hlc ⊢
    rw [num_one]
    exact number_one a _ cap w hlc hL
  · rcases hv.cases with ⟨hl, a, cap, rfl, hc, _⟩ | ⟨b, off, cap, rfl, h0, hlc, hc, hcell⟩
    · have e : l = [] := by simpa [bools] using hl
      subst e
      exact number_nil m a cap w (by omega) (by omega)
    · rw [bools_len] at hlc ⊢
      exact number_two m b off cap l w (fun i h => by rw [hcell i (by rw [bools_len]; exact h)]; simp [bools]) hlc hL (by omega) (by omega)
end Go.Proofs.Ytbnpemgmdnghgaa
namespace Go.Proofs.Ytbnpemgmdnghgaa
open Go.RowKit

def coinRes : Option (Nat × Nat) → Value
  | some (x, u) => .tuple #[.int .i64 x, .int .i64 u, .bool true]
  | none => .tuple #[.int .i64 0, .int .i64 0, .bool false]

set_option maxHeartbeats 400000 in
theorem coins_two (n : Nat) (b off : Nat) (cap : Nat) (l : List Bool) (w : World) (hcell : ∀ i (h : i < l.length), w.cell? ⟨b, off + i, none⟩ = some (.bool l[i])) (hlc : l.length ≤ cap) (hL : l.length ≤ 140737488355328) (h1 : 2 ≤ n) (h2 : n ≤ 1000000000) :
    Calls Try.prog 23 #[.int .i64 n, .slice (some ⟨b, off, none⟩) l.length cap] w fun e w' => e = .returned (coinRes (Draw.num n l)) ∧ w = w' := by
  have HC := Lib.hid hcell
  clear hcell
  go_enter Try.func23, Try.ntmps23
  go_wp2
  go_loop [7, 8] (fun t p => ∃ k x : Nat, k ≤ 30 ∧ t = .int .i64 k ∧ p = .int .i64 x ∧ x ≤ 1073741824 ∧ Hid (x = 2 ^ k) ∧ Hid (∀ j, j < k → 2 ^ j < n)) (fun t _ => 30 - (intOf t).toNat)
  case atStart => exact ⟨0, 1, by omega, rfl, rfl, by omega, rfl, fun j hj => by omega⟩
  case round =>
    obtain ⟨k, x, hk, rfl, rfl, hx, HX, HJ⟩ := hrel
    by_cases hxn : x < n
    · have hk' : k < 30 := by
        rcases Nat.lt_or_ge k 30 with h5 | h5
        · exact h5
        · obtain rfl : k = 30 := by omega
          have := HX.out; simp at this; omega
      go_wp2
      refine ⟨⟨k + 1, x * 2, by omega, by go_num, by go_num, ?_, ?_, fun j hj => ?_⟩, by simp [intOf]; omega⟩
      · have := pow30 (k := k + 1) (by omega)
        rw [HX.out, ← Nat.pow_succ]; exact this
      · show _ = _; rw [HX.out, ← Nat.pow_succ]
      · rcases Nat.lt_or_ge j k with h5 | h5
        · exact HJ.out j h5
        · obtain rfl : j = k := by omega
          rw [← HX.out]; exact hxn
    · have HN := Lib.hid (Draw.need_eq (n := n) (k := k) (by rw [← HX.out]; omega) HJ.out)
      have hk1 : 1 ≤ k := by
        rcases Nat.eq_zero_or_pos k with h5 | h5
        · subst h5; have := HX.out; simp at this; omega
        · exact h5
      clear HX HJ
      go_wp2
      go_loop [9] (fun t => ∃ i : Nat, t = .int .i64 i ∧ i ≤ l.length + 1 ∧ i * k ≤ l.length + k ∧ Hid (∀ j, j < i → Draw.good n k l j = false)) (fun t => l.length + 2 - (intOf t).toNat)
      case atStart => exact ⟨0, by go_num, by omega, by omega, fun j hj => by omega⟩
      case round =>
        obtain ⟨i, rfl, hi, hik, HB⟩ := hrel
        have e1 : (i + 1) * k = i * k + k := Nat.succ_mul i k
        have hiq : i ≤ i * k := by have := Nat.mul_le_mul_left i hk1; omega
        generalize hU : i * k = q at *
        have E1 := Lib.hid e1
        have HU := Lib.hid hU
        have hm : (i : Int) * (k : Int) = (q : Int) := by rw [← hU]; simp
        have hm2 : ((i : Int) + 1) * (k : Int) = (q : Int) + (k : Int) := by rw [Int.add_mul, hm]; omega
        clear hU e1
        by_cases hlt : q + k ≤ l.length
        · have hne : ¬ cap = q := by omega
          go_wp2
          go_loop [11, 38] (fun x t => ∃ j : Nat, j ≤ k ∧ t = .int .i64 j ∧ ∃ y : Nat, x = .int .i64 y ∧ y ≤ 1073741824 ∧ Hid (y = Draw.val ((Draw.chunk k l i).take j) * 2 ^ (k - j))) (fun _ t => k - (intOf t).toNat)
          case atStart => exact ⟨0, by omega, rfl, 0, rfl, by omega, by show 0 = _; simp [Draw.val]⟩
          case round =>
            obtain ⟨j, hj, rfl, y, rfl, hy, HY⟩ := hrel
            by_cases hjk : j < k
            · have hx : q + j < l.length := by omega
              have hcx := HC.out (q + j) hx
              rw [← Nat.add_assoc] at hcx
              have hs : Hid (∀ c, l[q + j] = c → Draw.val ((Draw.chunk k l i).take (j + 1)) * 2 ^ (k - (j + 1)) = y + cond c (2 ^ (k - 1 - j)) 0 ∧ Draw.val ((Draw.chunk k l i).take (j + 1)) * 2 ^ (k - (j + 1)) ≤ 1073741824) := by
                intro c hc
                have hcl : (Draw.chunk k l i).length = k := by unfold Draw.chunk; rw [HU.out]; simp; omega
                have e3 : (Draw.chunk k l i)[j]'(by omega) = c := by
                  rw [← hc]; unfold Draw.chunk; simp [HU.out]
                have e4 : k - j = (k - 1 - j) + 1 := by omega
                have e5 : k - (j + 1) = k - 1 - j := by omega
                constructor
                · rw [take_snoc (by omega), Draw.val_snoc, e3, HY.out, e4, e5, Nat.pow_succ, Nat.add_mul, Nat.mul_comm 2, Nat.mul_assoc, Nat.mul_comm 2]
                  cases c <;> simp
                · have h5 := Draw.val_lt ((Draw.chunk k l i).take (j + 1))
                  have h6 : ((Draw.chunk k l i).take (j + 1)).length = j + 1 := by simp; omega
                  rw [h6] at h5
                  have h7 : 2 ^ (j + 1) * 2 ^ (k - (j + 1)) = 2 ^ k := by rw [← Nat.pow_add]; congr 1; omega
                  have h8 := Nat.mul_le_mul_right (2 ^ (k - (j + 1))) (Nat.le_of_lt h5)
                  rw [h7] at h8
                  exact Nat.le_trans h8 (pow30 hk)
              have HP := Lib.hid (wrap_pow (k := k - 1 - j) (by omega))
              generalize hc : l[q + j] = c at *
              have HS := Lib.hid (hs.out c rfl)
              clear hs hc
              cases c
              all_goals
                go_wp2
                refine ⟨⟨j + 1, by omega, by go_num, _, ?_, HS.out.2, rfl⟩, by simp [intOf]; omega⟩
                have h5 := HS.out.1
                have h6 := HS.out.2
              · rw [h5]; simp
              · rw [HP.out, h5]
                rw [h5] at h6
                simp only [cond_true] at h6 ⊢
                generalize 2 ^ (k - 1 - j) = z at *
                rw [IntWalk.wrap64_in _ ⟨by omega, by omega⟩]; go_num
            · have hjk' : j = k := by omega
              have HJ := Lib.hid hjk'
              clear hjk'
              have hyv : Hid (y = Draw.val (Draw.chunk k l i)) := by
                have h5 := HY.out
                rw [HJ.out, List.take_of_length_le (by unfold Draw.chunk; simp; omega)] at h5
                show _ = _
                simpa using h5
              clear HY
              have hgood := drawGood_eq (n := n) (k := k) (i := i) (l := l) (by rw [E1.out]; exact hlt)
              rw [← hyv.out] at hgood
              have HG := Lib.hid hgood
              clear hgood
              by_cases hyn : y < n
              · go_wp2
                go_ret3
                refine ⟨?_, rfl⟩
                rw [Draw.num_some (i := i) HN.out (by omega) (by rw [HG.out]; simpa using hyn) HB.out, ← hyv.out, E1.out]
                simp [coinRes]
              · go_wp2
                refine ⟨⟨i + 1, by go_num, by omega, by rw [E1.out]; omega, ?_⟩, by simp [intOf]; omega⟩
                intro j' hj'
                rcases Nat.lt_or_ge j' i with h5 | h5
                · exact HB.out j' h5
                · obtain rfl : j' = i := by omega
                  rw [HG.out]; simpa using hyn
        · have HE : Hid (Draw.num n l = none) := by
            refine Draw.num_none HN.out fun j hj => ?_
            rcases Nat.lt_or_ge j i with h5 | h5
            · exact HB.out j h5
            · exact bad_far hk1 (by rw [E1.out]; omega) j h5
          go_wp2
          all_goals
            go_ret3
            rw [HE.out]
            exact ⟨rfl, rfl⟩

set_option maxHeartbeats 400000 in
theorem coins_nil (n : Nat) (a : Option Addr) (cap : Nat) (w : World) (h1 : 2 ≤ n) (h2 : n ≤ 1000000000) :
    Calls Try.prog 23 #[.int .i64 n, .slice a 0 cap] w fun e w' => e = .returned (coinRes (Draw.num n [])) ∧ w = w' := by
  have HE : Hid (Draw.num n [] = none) := by
    refine Draw.num_none rfl fun j hj => ?_
    have := (Draw.need_spec n).1
    have h5 : 0 < Draw.need n := by
      rcases Nat.eq_zero_or_pos (Draw.need n) with h5 | h5
      · rw [h5] at this; simp at this; omega
      · exact h5
    have h6 := Nat.mul_pos (show 0 < j + 1 by omega) h5
    simp [Draw.good]; omega
  go_enter Try.func23, Try.ntmps23
  go_wp2
  go_loop [7, 8] (fun t p => ∃ k x : Nat, k ≤ 30 ∧ t = .int .i64 k ∧ p = .int .i64 x ∧ x ≤ 1073741824 ∧ Hid (x = 2 ^ k)) (fun t _ => 30 - (intOf t).toNat)
  case atStart => exact ⟨0, 1, by omega, rfl, rfl, by omega, rfl⟩
  case round =>
    obtain ⟨k, x, hk, rfl, rfl, hx, HX⟩ := hrel
    by_cases hxn : x < n
    · have hk' : k < 30 := by
        rcases Nat.lt_or_ge k 30 with h5 | h5
        · exact h5
        · obtain rfl : k = 30 := by omega
          have := HX.out; simp at this; omega
      go_wp2
      refine ⟨⟨k + 1, x * 2, by omega, by go_num, by go_num, ?_, ?_⟩, by simp [intOf]; omega⟩
      · have := pow30 (k := k + 1) (by omega)
        rw [HX.out, ← Nat.pow_succ]; exact this
      · show _ = _; rw [HX.out, ← Nat.pow_succ]
    · have hk1 : 1 ≤ k := by
        rcases Nat.eq_zero_or_pos k with h5 | h5
        · subst h5; have := HX.out; simp at this; omega
        · exact h5
      clear HX
      go_wp2
      refine wp_loop_rounds 1 ?_
      rw [rounds_succ]
      go_wp2
      all_goals
        go_ret3
        rw [HE.out]
        exact ⟨rfl, rfl⟩

theorem coins_one (a : Option Addr) (len cap : Nat) (w : World) (hlc : len ≤ cap) (hL : len ≤ 140737488355328) :
    Calls Try.prog 23 #[.int .i64 1, .slice a len cap] w fun e w' => e = .returned (coinRes (some (0, 0))) ∧ w = w' := by
  go_enter Try.func23, Try.ntmps23
  go_wp2
  refine wp_loop_rounds 1 ?_
  rw [rounds_succ]
  go_wp2
  refine wp_loop_rounds 1 ?_
  rw [rounds_succ]
  go_wp2
  all_goals
    refine wp_loop_rounds 1 ?_
    rw [rounds_succ]
    go_wp2
    go_ret3
    exact ⟨rfl, rfl⟩

theorem coins (n : Int) (v : Value) (l : List Bool) (w : World) (hv : Sl w v (bools l)) (hL : l.length ≤ 140737488355328) (h1 : 1 ≤ n) (h2 : n ≤ 1000000000) :
    Calls Try.prog 23 #[.int .i64 n, v] w fun e w' => e = .returned (coinRes (Draw.num n.toNat l)) ∧ w = w' := by
  obtain ⟨m, rfl⟩ := Int.eq_ofNat_of_zero_le (show 0 ≤ n by omega)
  rw [Int.toNat_natCast]
  by_cases hm : m = 1
  · subst hm
    obtain ⟨a, cap, rfl, hlc, hc, _, _⟩ := hv
    rw [bools_len] at hlc ⊢
    rw [num_one]
    exact coins_one a _ cap w hlc hL
  · rcases hv.cases with ⟨hl, a, cap, rfl, hc, _⟩ | ⟨b, off, cap, rfl, h0, hlc, hc, hcell⟩
    · have e : l = [] := by simpa [bools] using hl
      subst e
      exact coins_nil m a cap w (by omega) (by omega)
    · rw [bools_len] at hlc ⊢
      exact coins_two m b off cap l w (fun i h => by rw [hcell i (by rw [bools_len]; exact h)]; simp [bools]) hlc hL (by omega) (by omega)
end Go.Proofs.Ytbnpemgmdnghgaa
namespace Go.Proofs.Ytbnpemgmdnghgaa
open Go.RowKit
namespace Cs

theorem doneC_one {g : Gram} {N n : Nat} {S S' : Nat → Nat → Bool} (hok : OkC g N) (h : DoneC g n S) (h' : DoneC g n S') : S = S' := by
  obtain ⟨⟨q, hq⟩, hp⟩ := h
  obtain ⟨⟨q', hq'⟩, hp'⟩ := h'
  have := done_eq (p := q') (N := N) (fun r hr => (hok.l r hr).2) hq hp (by rw [← hq']; exact hp')
  rw [this, hq']
theorem okC_one {g : Gram} {N N' : Nat} (h : OkC g N) (h' : OkC g N') : N = N' := by
  have h1 := h.nons
  have h2 := h'.nons
  omega
theorem start_nn {g : Gram} {N n : Nat} {S : Nat → Nat → Bool} (hok : OkC g N) (h1 : startC g S N n ≠ -1) (h2 : startC g S N n < MaxC) : 0 ≤ startC g S N n := by
  rw [(start_val hok h1 h2).1]; omega
def DtV (g : Gram) (nn : Int) (l : List Bool) (r tm : Int) (v : Value) (k c : Int) (w' : World) : Prop :=
  (errC g nn ≠ 0 ∧ c = errC g nn ∧ k = 0) ∨
   (errC g nn = 0 ∧ ∃ (N n : Nat) (S : Nat → Nat → Bool), OkC g N ∧ nn = (n : Int) ∧ n ≤ 24 ∧ DoneC g n S ∧
     ((startC g S N n = -1 ∧ c = 9 ∧ k = 0) ∨ (startC g S N n ≠ -1 ∧ MaxC ≤ startC g S N n ∧ c = 2 ∧ k = 0) ∨
      (startC g S N n ≠ -1 ∧ startC g S N n < MaxC ∧ ((startC g S N n = 0 ∧ c = 10 ∧ k = 0) ∨ (0 < startC g S N n ∧
        ((Draw.num (startC g S N n).toNat l = none ∧ c = 5 ∧ k = 0) ∨
          ∃ (x u : Nat) (t : Tree), Draw.num (startC g S N n).toNat l = some (x, u) ∧ c = 0 ∧ k = (u : Int) ∧ (SE g S N n ⟨false, g.start⟩ n)[x]? = some t ∧ r = t.rule ∧ tm = t.term ∧ Rd AnyB w' (.sl (t.kids.map Tree.d)) [v]))))))
def DtPost (g : Gram) (nn : Int) (l : List Bool) (w : World) (e : Ending) (w' : World) : Prop :=
  Below w.heap.size w w' ∧ ∃ (r tm : Int) (a : Option Addr) (m c2 : Nat) (k c : Int), e = .returned (.tuple #[.agg #[.int .i64 r, .int .i64 tm, .slice a m c2], .int .i64 k, .int .i64 c]) ∧ DtV g nn l r tm (.slice a m c2) k c w'
/-- rank.Tree's answer to a number that there is -/
theorem rankTree_at (g : Gram) (ra : Option Addr) (rcap N n x : Nat) (S : Nat → Nat → Bool) (w : World) (hr : Rd AnyB w (.sl (g.rules.map Rule.d)) [.slice ra g.rules.length rcap]) (hok : OkC g N) (he : errC g (n : Int) = 0) (hd : DoneC g n S) (h1 : startC g S N n ≠ -1) (h2 : startC g S N n < MaxC) (hx : (x : Int) < startC g S N n) :
    ∃ t : Tree, (SE g S N n ⟨false, g.start⟩ n)[x]? = some t ∧ Calls Try.prog 26 #[.agg #[.int .i64 g.terms, .int .i64 g.nons, .int .i64 g.start, .slice ra g.rules.length rcap], .int .i64 (n : Int), .int .i64 (x : Int)] w (fun e w' => ∃ v, e = .returned (.tuple #[.agg #[.int .i64 t.rule, .int .i64 t.term, v], .int .i64 0]) ∧ Rd (fun k => w.heap.size ≤ k) w' (.sl (t.kids.map Tree.d)) [v] ∧ Below w.heap.size w w') := by
  have hl : x < (SE g S N n ⟨false, g.start⟩ n).length := by have := (start_val hok h1 h2).1; omega
  refine ⟨_, List.getElem?_eq_getElem hl, (rankTreeE g ra rcap n x w hr).mono ?_⟩
  rintro e w' ⟨hb, r, tm, v, c, rfl, hv⟩
  rcases hv with ⟨h, _⟩ | ⟨_, N', n', S', hok', hn', _, hd', hv⟩
  · exact absurd he h
  · obtain rfl : n = n' := by omega
    obtain rfl := okC_one hok hok'
    obtain rfl := doneC_one hok hd hd'
    rcases hv with ⟨h, _⟩ | ⟨_, h, _⟩ | ⟨_, _, ⟨h, _⟩ | ⟨_, _, rfl, t, ht, rfl, rfl, hrd⟩⟩
    · exact absurd h h1
    · omega
    · omega
    · rw [Int.toNat_natCast, List.getElem?_eq_getElem hl] at ht
      cases ht
      exact ⟨v, rfl, hrd, hb⟩
end Cs
end Go.Proofs.Ytbnpemgmdnghgaa
