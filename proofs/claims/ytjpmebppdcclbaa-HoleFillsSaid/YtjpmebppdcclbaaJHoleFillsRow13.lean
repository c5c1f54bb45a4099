/- useful.Least and useful.Lengths, said by the values of Shortest. The function values of parlref4.Nearest. parlref4.Shortest, parlref4.fits, parlref4.Complete. patternFault of the law. Tables of corrections: each value comes from a derivation, and its size is bounded by its cost. Tables of corrections: costs are bounded; a nonterminal is found in all parts or in none. The plans of parlref4.solve and of repair.Best for corrections. The tables of parlref4.solve and of repair.Best are the same. The fixed call of RepairBest: the least correction of 0 0 1 is 0 1, at cost 1. The fixed call of HoleFills, in plain Lean: ? ? 1 ? is completed to 0 0 1 1. The contract of repair.distances. Operations of repair: how they read; their steps; small contracts. gram.Word; the costs' test of repair.Best. The table of repair.Best while it is made. -/
import Derived.Test.YtjpmebppdcclbaaJHoleFillsRow12
import Derived.Test.YtjpmebppdcclbaaJHoleFillsRow9
import Derived.Test.YtjpmebppdcclbaaJHoleFillsRow11
import Derived.Test.YtjpmebppdcclbaaJHoleFillsRow7
import Derived.Test.YtjpmebppdcclbaaJHoleFillsRow6
import Derived.Test.YtjpmebppdcclbaaJHoleFillsRow5
import Derived.BigQuiet
import Derived.Laws.EntriesVeiled
import Derived.Test.YtjpmebppdcclbaaJHoleFillsRow2
import Derived.Deep.LoopGhost
import Derived.Deep.Cut
import Derived.Deep.RegionHeld3
import Derived.Deep.DeepCutAuto
import Derived.Laws.Cover1
import Derived.Test.YtjpmebppdcclbaaJHoleFillsRow1
import Derived.Test.YtjpmebppdcclbaaJHoleFillsRow3
import Derived.Laws.StructEq
import Derived.Deep.QuietTactic
import Derived.Test.YtjpmebppdcclbaaJHoleFillsRow4
namespace Go.Proofs.Ytjpmebppdcclbaa
open Go.RowKit
namespace Hl
open Rp Al

section
variable {g : Gram} {N tm : Nat} {V : Sym → Nat → Nat → Option Val}
set_option maxHeartbeats 8000000 in
set_option maxRecDepth 100000 in
theorem lenE (hck : checkG g = 0) (hok : Cs.OkC g N) (hK : KG N g.rules (okS N tm)) (hr4 : ∀ r ∈ g.rules, r.right.length ≤ 4) (hV : VO leafS emS 0 g.rules (okS N tm) (GS tm) V) (hVc : Closed g.rules (clL leafS 0) (clE emS 0) (clV 0 V)) (ra : Option Addr) (rcap : Nat) (w : World) (hr : Rd AnyB w (.sl (g.rules.map Rule.d)) [.slice ra g.rules.length rcap]) :
    LenC g (.slice ra g.rules.length rcap) (fun y => V y 0 0) N w := by
  unfold LenC
  obtain ⟨w0, HW0⟩ := nameIt (w.alloc (.cells #[.int .i64 g.terms, .int .i64 g.nons, .int .i64 g.start, .slice ra g.rules.length rcap] 24))
  have hb0 : Below w.heap.size w w0 := by rw [← HW0.out]; exact (Below.refl _ _).alloc (Nat.le_refl _) _
  have X0 : Hid (w0.heap[w.heap.size]? = some (.cells #[.int .i64 g.terms, .int .i64 g.nons, .int .i64 g.start, .slice ra g.rules.length rcap] 24 (0, 0))) := by rw [← HW0.out]; exact bx_new _ _ _ rfl
  have hck0 := checkE g ra rcap w0 (hr.below hb0)
  rw [hck] at hck0
  have HCK := Lib.hid hck0
  have HLE : Hid (∀ W, Below w0.heap.size w0 W → Calls Try.prog 100 #[.agg #[.int .i64 g.terms, .int .i64 g.nons, .int .i64 g.start, .slice ra g.rules.length rcap]] W (Cs.LnPost g.rules N W)) := fun W hb => Cs.lengthsE g N hok hr4 ra rcap W (hr.below (hb0.trans (hb.mono hb0.size)))
  obtain ⟨PST, HP⟩ := nameIt (fun (e : Ending) (w' : World) => ∃ p, e = .returned (.tuple #[.slice (some ⟨p, 0, none⟩) N N, .int .i64 0]) ∧ Vrow 3 p N (fun A => .int .i64 (lenV (fun y => V y 0 0) A)) w' ∧ w.heap.size ≤ p ∧ Below w.heap.size w w')
  rw [HP.out]
  have HE2 : Hid (∀ (p : Nat) (X : Nat → Int) w', Vrow 3 p N (fun A => .int .i64 (X A)) w' → Cs.LeastV g.rules N X → w0.heap.size ≤ p → Below w0.heap.size w0 w' → PST (.returned (.tuple #[.slice (some ⟨p, 0, none⟩) N N, .int .i64 0])) w') := by
    intro p X w' h3 h4 h5 h6
    rw [← HP.out]
    have hL := leastX hK h4
    exact ⟨p, rfl, h3.eq (fun A hA => by rw [← sv_len hL hV hVc hA]; rfl), Nat.le_trans hb0.size h5, hb0.trans (h6.mono hb0.size)⟩
  obtain ⟨gt, HGT⟩ := nameIt g.terms
  obtain ⟨gn, HGN⟩ := nameIt g.nons
  obtain ⟨gs, HGS⟩ := nameIt g.start
  obtain ⟨rl, HRL⟩ := nameIt g.rules.length
  rw [HGT.out, HGN.out, HGS.out, HRL.out] at HW0 X0 HCK HLE
  rw [HGT.out, HGN.out, HGS.out, HRL.out]
  obtain ⟨x0, x1, x2, x3⟩ := bx_cells4 X0.out
  clear hb0 hr HP hck0 hck hok hK hr4 hV hVc
  go_enter Try.func79, Try.ntmps79
  go_upto_region 1 with fail
  rw [HW0.out]
  go_wp2_with fail
  with_reducible refine HCK.out.mono ?_
  clear x0 x1 x2 x3
  rintro e w1 ⟨rfl, hb1⟩
  have X1 := Lib.hid (bx_keep X0.out hb1)
  have HB1 := Lib.hid hb1
  obtain ⟨x0, x1, x2, x3⟩ := bx_cells4 X1.out
  have HL1 := Lib.hid (HLE.out w1 HB1.out)
  clear hb1 HLE
  go_wp2_with fail
  with_reducible refine HL1.out.mono ?_
  rintro e w2 ⟨p, X, rfl, hv, hl, hp, hb2⟩
  have HF := Lib.hid (HE2.out p X w2 hv hl (Nat.le_trans HB1.out.size hp) (HB1.out.trans (hb2.mono HB1.out.size)))
  clear hv hl hp hb2 x0 x1 x2 x3
  go_wp2_with fail
  first | exact HF.out | (refine bodyPost_ret (results_tmp2 Try.results79 _ _ _) rfl ?_; exact HF.out)
set_option maxHeartbeats 8000000 in
set_option maxRecDepth 100000 in
theorem lstE (hck : checkG g = 0) (hok : Cs.OkC g N) (hK : KG N g.rules (okS N tm)) (hr4 : ∀ r ∈ g.rules, r.right.length ≤ 4) (hV : VO leafS emS 0 g.rules (okS N tm) (GS tm) V) (hVc : Closed g.rules (clL leafS 0) (clE emS 0) (clV 0 V)) (a : Nat) (v : Val) (ha : a < N) (hv : V ⟨false, (a : Int)⟩ 0 0 = some v) (ra : Option Addr) (rcap : Nat) (w : World) (hr : Rd AnyB w (.sl (g.rules.map Rule.d)) [.slice ra g.rules.length rcap]) :
    LstC g (.slice ra g.rules.length rcap) a v w := by
  unfold LstC
  have hwf := hV.1 _ _ _ _ hv
  obtain ⟨w0, HW0⟩ := nameIt (w.alloc (.cells #[.int .i64 g.terms, .int .i64 g.nons, .int .i64 g.start, .slice ra g.rules.length rcap] 24))
  have hb0 : Below w.heap.size w w0 := by rw [← HW0.out]; exact (Below.refl _ _).alloc (Nat.le_refl _) _
  have X0 : Hid (w0.heap[w.heap.size]? = some (.cells #[.int .i64 g.terms, .int .i64 g.nons, .int .i64 g.start, .slice ra g.rules.length rcap] 24 (0, 0))) := by rw [← HW0.out]; exact bx_new _ _ _ rfl
  have hck0 := checkE g ra rcap w0 (hr.below hb0)
  rw [hck] at hck0
  have HCK := Lib.hid hck0
  have HLE : Hid (∀ W, Below w0.heap.size w0 W → Calls Try.prog 100 #[.agg #[.int .i64 g.terms, .int .i64 g.nons, .int .i64 g.start, .slice ra g.rules.length rcap]] W (Cs.LnPost g.rules N W)) := fun W hb => Cs.lengthsE g N hok hr4 ra rcap W (hr.below (hb0.trans (hb.mono hb0.size)))
  have HWD : Hid (∀ W px (X : Nat → Int), Below w0.heap.size w0 W → Cs.LeastV g.rules N X → Vrow 3 px N (fun A => .int .i64 (X A)) W → Calls Try.prog 107 #[.agg #[.int .i64 g.terms, .int .i64 g.nons, .int .i64 g.start, .slice ra g.rules.length rcap], .slice (some ⟨px, 0, none⟩) N N] W (WdPost g.rules N tm X W)) := fun W px X hb h1 h2 =>
    wordsE g N hok.nons hok.n1 hok.n2 tm X hK hr4 (leastX hK h1) px ra rcap W (hr.below (hb0.trans (hb.mono hb0.size))) h2
  have HLX : Hid (∀ X : Nat → Int, Cs.LeastV g.rules N X → X a = (v.n : Int)) := by
    intro X h
    have := sv_len (leastX hK h) hV hVc ha
    rw [hv] at this
    exact this.symm
  have HVW : Hid (∀ (X : Nat → Int) (Tw : Nat → Option (List Int)), Cs.LeastV g.rules N X → WInv g.rules N tm X Tw → ClosedW g.rules X Tw → v.n ≤ 2000 → (Tw a).getD [] = v.w) := by
    intro X Tw h1 h2 h3 h4
    have h5 := sv_words (leastX hK h1) hK h2 h3 hV hVc ⟨false, (a : Int)⟩
    have h6 := HLX.out X h1
    rw [hv] at h5
    unfold VU at h5
    simp only [Bool.false_eq_true, if_false] at h5
    rw [show ((a : Int)).toNat = a by omega] at h5
    rw [if_pos ⟨by omega, by omega, by omega⟩, if_pos (by omega)] at h5
    have := Option.some.inj h5
    rw [this]
  obtain ⟨vn, HVN⟩ := nameIt v.n
  obtain ⟨vw, HVWN⟩ := nameIt v.w
  rw [HVN.out] at HLX HVW
  rw [HVWN.out] at HVW
  have HLW : Hid ((vn ≤ 2000 → vw.length ≤ 2000) ∧ (2000 < vn → vw = [])) := by
    show _ ∧ _
    rw [← HVN.out, ← HVWN.out]
    rcases hwf with ⟨h1, h2⟩ | ⟨h1, h2⟩
    · unfold maxL at h1; exact ⟨fun _ => by omega, fun h => by omega⟩
    · unfold maxL at h1; exact ⟨fun h => by omega, fun _ => h2⟩
  obtain ⟨PST, HP⟩ := nameIt (fun (e : Ending) (w' : World) => ∃ u z, e = .returned (.tuple #[u, .int .i64 z]) ∧ Rd (fun k => w.heap.size ≤ k) w' (D.ints vw) [u] ∧ Below w.heap.size w w')
  rw [HVWN.out, HP.out]
  have HE : Hid (∀ u z w', Rd (fun k => w0.heap.size ≤ k) w' (D.ints vw) [u] → Below w0.heap.size w0 w' → PST (.returned (.tuple #[u, .int .i64 z])) w') := by
    intro u z w' h1 h2
    rw [← HP.out]
    exact ⟨u, z, rfl, h1.mono (fun k hk _ => Nat.le_trans hb0.size hk), hb0.trans (h2.mono hb0.size)⟩
  have hgn := hok.nons
  obtain ⟨gt, HGT⟩ := nameIt g.terms
  obtain ⟨gs, HGS⟩ := nameIt g.start
  obtain ⟨rl, HRL⟩ := nameIt g.rules.length
  rw [HGT.out, hgn, HGS.out, HRL.out] at HW0 X0 HCK HLE HWD
  rw [HGT.out, hgn, HGS.out, HRL.out]
  obtain ⟨x0, x1, x2, x3⟩ := bx_cells4 X0.out
  have ha' : (a : Int) < (N : Int) := by omega
  have hlt0 : ((a : Int) < 0) = False := by simp
  have hge : decide ((N : Int) ≤ (a : Int)) = false := decide_eq_false (by omega)
  clear hb0 hr HP hck0 hck hok hK hr4 hV hVc hv hwf hgn
  go_enter Try.func89, Try.ntmps89
  go_upto_region 1 with fail
  rw [HW0.out]
  go_wp2_with fail
  with_reducible refine HCK.out.mono ?_
  clear x0 x1 x2 x3
  rintro e w1 ⟨rfl, hb1⟩
  have X1 := Lib.hid (bx_keep X0.out hb1)
  have HB1 := Lib.hid hb1
  obtain ⟨x0, x1, x2, x3⟩ := bx_cells4 X1.out
  have HL1 := Lib.hid (HLE.out w1 HB1.out)
  clear hb1 HLE
  go_wp2_with fail
  with_reducible refine HL1.out.mono ?_
  rintro e w2 ⟨p, X, rfl, hv, hl, hp, hb2⟩
  have HB2 := Lib.hid (HB1.out.trans (hb2.mono HB1.out.size))
  have X2 := Lib.hid (bx_keep X1.out hb2)
  have HXA := Lib.hid (HLX.out X hl)
  have HV2 := Lib.hid hv
  have HL2 := Lib.hid hl
  have v0 := hv.cell ha
  rw [HXA.out] at v0
  have hn0 : decide ((vn : Int) < 0) = false := decide_eq_false (by omega)
  clear hv hl hp hb2 x0 x1 x2 x3
  by_cases hbig : 2000 < vn
  · have hbig' : (2000 : Int) < (vn : Int) := by omega
    have HF := Lib.hid (HE.out (.slice none 0 0) 2 w2 (by rw [HLW.out.2 hbig]; exact rd_nil _ _) HB2.out)
    go_wp2_with fail
    first | exact HF.out | (refine bodyPost_ret (results_tmp2 Try.results89 _ _ _) rfl ?_; exact HF.out)
  · have hbig' : ¬ (2000 : Int) < (vn : Int) := by omega
    obtain ⟨x0, x1, x2, x3⟩ := bx_cells4 X2.out
    have HW2 := Lib.hid (HWD.out w2 p X HB2.out HL2.out HV2.out)
    go_wp2_with fail
    with_reducible refine HW2.out.mono ?_
    rintro e w3 ⟨po, pk, Tw, rfl, hwi, hcw, G0, hwt⟩
    have HB3 : Hid (Below w0.heap.size w0 w3) := HB2.out.trans (hwt.bel.mono HB2.out.size)
    obtain ⟨ao, ko, oc, hord⟩ := hwt.word ha
    have hvw := HVW.out X Tw HL2.out hwi hcw (by omega)
    rw [hvw] at oc hord
    obtain ⟨ul, HUL⟩ := nameIt vw.length
    rw [HUL.out] at oc hord
    have HCL : Hid (Calls Try.prog 31 #[.slice ao ul ko] w3 (NewInts vw w3)) := clone_int _ _ w3 (sl_rd hord) (by have := HLW.out.1 (by omega); omega)
    clear hwi hcw hwt hord hvw x0 x1 x2 x3 v0
    go_wp2_with fail
    with_reducible refine HCL.out.mono ?_
    rintro e w4 ⟨ac, kc, rfl, ho, hb4⟩
    have HF := Lib.hid (HE.out (.slice ac vw.length kc) 0 w4 ((rd_own rfl ho).mono (fun k hk _ => by
      have h2 : w3.heap.size ≤ k := hk
      have h3 := HB3.out.size
      show w0.heap.size ≤ k
      omega)) (HB3.out.trans (hb4.mono HB3.out.size)))
    rw [HUL.out] at HF ⊢
    clear ho hb4
    go_wp2_with fail
    first | exact HF.out | (refine bodyPost_ret (results_tmp2 Try.results89 _ _ _) rfl ?_; exact HF.out)
end
end Hl
end Go.Proofs.Ytjpmebppdcclbaa
namespace Go.Proofs.Ytjpmebppdcclbaa
open Go.RowKit
namespace Rp

/-- the captured boxes: the costs, the word -/
structure NB (b5 b4 : Nat) (c : Co) (w : List Int) (W : World) : Prop where
  cost : W.heap[b5]? = some (.cells #[.int .i64 (c.c0 : Int), .int .i64 (c.c1 : Int), .int .i64 (c.c2 : Int)] 26 (0, 0))
  word : ∃ wa wk, W.heap[b4]? = some (.cells #[.slice wa w.length wk] 25 (0, 0)) ∧ Sl W (.slice wa w.length wk) (ints w)
theorem NB.keep {b5 b4 : Nat} {c : Co} {w : List Int} {W W' : World} (h : NB b5 b4 c w W) (hb : Below W.heap.size W W') : NB b5 b4 c w W' := by
  obtain ⟨h1, wa, wk, h2, h3⟩ := h
  exact ⟨bx_keep h1 hb, wa, wk, bx_keep h2 hb, h3.keep hb⟩

end Rp
end Go.Proofs.Ytjpmebppdcclbaa
namespace Go.Proofs.Ytjpmebppdcclbaa
open Go.RowKit
namespace Hl
open Rp

theorem eg46 : ∀ args w, (callFunc 46 args).run Try.prog w = .ok (.enter 46 args) w := fun _ _ => by kernel_rfl
theorem eg47 : ∀ args w, (callFunc 47 args).run Try.prog w = .ok (.enter 47 args) w := fun _ _ => by kernel_rfl
theorem eg48 : ∀ args w, (callFunc 48 args).run Try.prog w = .ok (.enter 48 args) w := fun _ _ => by kernel_rfl
theorem eg52 : ∀ args w, (callFunc 52 args).run Try.prog w = .ok (.enter 52 args) w := fun _ _ => by kernel_rfl
theorem eg54 : ∀ args w, (callFunc 54 args).run Try.prog w = .ok (.enter 54 args) w := fun _ _ => by kernel_rfl
/-- a function value that answers with the least word of a symbol -/
def FreeFn (fn : Nat) (lb : Array Value) (sv : Sym → Option Val) (ok : Sym → Prop) (P : Nat → Prop) (w : World) : Prop :=
  ∀ W (y : Sym), ok y → Below w.heap.size w W → Calls Try.prog fn (#[.agg #[.bool y.term, .int .i64 y.n]] ++ lb) W fun e w' => ∃ x, e = .returned x ∧ VR (fun k => P k ∨ W.heap.size ≤ k) w' x (sv y) ∧ Below W.heap.size W w'
set_option maxHeartbeats 1000000 in
theorem empS (n : Nat) (P : Nat → Prop) (W : World) : EmpFn 47 #[] emS n P W := by
  intro W' i j hij hj hb
  show Calls _ _ #[.int .i64 (i : Nat), .int .i64 (j : Nat)] _ _
  clear hij hj hb
  go_enter Try.func47, Try.ntmps47
  go_wp2
  refine bodyPost_ret (v := .agg #[.bool true, .int .i64 0, .int .i64 0, .slice none 0 0]) (by simp [results, Try.results47, go_sem]) rfl ?_
  exact ⟨_, rfl, ⟨_, rfl, rd_nil _ _⟩, (Below.refl _ _).alloc (Nat.le_refl _) _⟩
set_option maxHeartbeats 1000000 in
theorem empH (n : Nat) (P : Nat → Prop) (W : World) : EmpFn 54 #[] emH n P W := by
  intro W' i j hij hj hb
  show Calls _ _ #[.int .i64 (i : Nat), .int .i64 (j : Nat)] _ _
  obtain ⟨b, HB⟩ : ∃ b : Bool, Hid (b = ((i : Int) == (j : Int))) := ⟨_, rfl⟩
  have hq : ((i : Int) == (j : Int)) = b := HB.out.symm
  have HE : Hid (VR (fun k => P k ∨ W'.heap.size ≤ k) (W'.alloc (.cells #[.bool b, .int .i64 0, .int .i64 0, .slice none 0 0] 36)) (.agg #[.bool b, .int .i64 0, .int .i64 0, .slice none 0 0]) (emH i j)) := by
    unfold emH
    by_cases e : i = j
    · have : b = true := by rw [HB.out, e]; simp
      rw [if_pos e, this]
      exact ⟨_, rfl, rd_nil _ _⟩
    · have : b = false := by rw [HB.out]; simp; omega
      rw [if_neg e, this]
      exact VR.none _ _
  clear hij hj hb HB
  go_enter Try.func54, Try.ntmps54
  go_wp2
  refine bodyPost_ret (v := .agg #[.bool b, .int .i64 0, .int .i64 0, .slice none 0 0]) (by simp [results, Try.results54, go_sem]) rfl ?_
  exact ⟨_, rfl, HE.out, (Below.refl _ _).alloc (Nat.le_refl _) _⟩
theorem rd_one (w : World) (x : Int) : Rd (fun k => w.heap.size ≤ k) (w.alloc (.cells #[.int .i64 x] 3)) (D.ints [x]) [.slice (some ⟨w.heap.size, 0, none⟩) 1 1] := by
  refine ⟨some ⟨w.heap.size, 0, none⟩, 1, [.int .i64 x], rfl, by simp, by simp [maxLen], (fun e => by cases e), fun i hi => ?_, ?_⟩
  · simp at hi
    subst hi
    refine ⟨⟨w.heap.size, 0, none⟩, rfl, Nat.le_refl _, ?_⟩
    rw [add_at]
    have hn := heap_alloc_new w (.cells #[.int .i64 x] 3)
    simp only [World.cell?, hn]
    rfl
  · simp [RdAll, Rd]
set_option maxHeartbeats 2000000 in
theorem leafSE (ok : Sym → Prop) (n : Nat) (P : Nat → Prop) (W : World) : LeafFn 46 #[] leafS ok n P W := by
  intro W' y i j _ hij hj hb
  show Calls _ _ #[.agg #[.bool y.term, .int .i64 y.n], .int .i64 (i : Nat), .int .i64 (j : Nat)] _ _
  obtain ⟨yt, yn⟩ := y
  unfold leafS
  simp only
  clear hij hj hb
  cases yt with
  | false =>
    simp only [Bool.false_eq_true, if_false]
    go_enter Try.func46, Try.ntmps46
    go_wp2
    refine bodyPost_ret (v := .agg #[.bool false, .int .i64 0, .int .i64 0, .slice none 0 0]) (by simp [results, Try.results46, go_sem]) rfl ?_
    exact ⟨_, rfl, VR.none _ _, ((Below.refl _ _).alloc (Nat.le_refl _) _).alloc (by simp) _⟩
  | true =>
    simp only [if_true]
    obtain ⟨w0, HW⟩ := nameIt ((W'.alloc (.cells #[.bool true, .int .i64 yn] 44)).alloc (.cells #[.bool false, .int .i64 0, .int .i64 0, .slice none 0 0] 36))
    have hw0 : Below W'.heap.size W' w0 := by
      rw [← HW.out]
      exact ((Below.refl _ _).alloc (Nat.le_refl _) _).alloc (by simp) _
    have hy0 : w0.heap[W'.heap.size]? = some (.cells #[.bool true, .int .i64 yn] 44 (0, 0)) := by
      rw [← HW.out]; exact bx_keep (bx_new _ _ _ rfl) ((Below.refl _ _).alloc (Nat.le_refl _) _)
    have hz0 : w0.heap[W'.heap.size + 1]? = some (.cells #[.bool false, .int .i64 0, .int .i64 0, .slice none 0 0] 36 (0, 0)) := by
      rw [← HW.out]; exact bx_new _ _ _ (by simp)
    have hal : Below w0.heap.size w0 (w0.alloc (.cells #[.int .i64 yn] 3)) := (Below.refl _ _).alloc (Nat.le_refl _) _
    obtain ⟨y0, y1⟩ := bx_cells2 hy0
    obtain ⟨z0, z1, z2, z3⟩ := bx_cells4 (bx_keep hz0 hal)
    obtain ⟨f0, f1, f2, f3⟩ := bx_free4 (bx_keep hz0 hal)
    have HSZ : Hid (w0.heap.size = W'.heap.size + 1 + 1) := by show _ = _; rw [← HW.out]; simp
    have HB0 := Lib.hid (hw0.trans (hal.mono hw0.size))
    clear hw0 hy0 hz0 hal
    go_enter Try.func46, Try.ntmps46
    go_upto_region 1 with fail
    rw [HW.out]
    clear HW
    go_wp2_with fail
    refine bodyPost_ret (v := .agg #[.bool true, .int .i64 0, .int .i64 1, .slice (some ⟨w0.heap.size, 0, none⟩) 1 1]) (by simp [results, Try.results46, go_sem, z0, z1, z2, z3]) rfl ?_
    have hg := grown_cell4 (w0.alloc (.cells #[.int .i64 yn] 3)) (W'.heap.size + 1) (.bool true) (.int .i64 0) (.int .i64 1) (.slice (some ⟨w0.heap.size, 0, none⟩) 1 1)
    have hsz := HSZ.out
    refine ⟨_, rfl, ⟨.slice (some ⟨w0.heap.size, 0, none⟩) 1 1, rfl, (rd_grown (rd_one w0 yn) hg (fun k e h => ?_)).mono (fun k h _ => ?_)⟩, HB0.out.grown hg HB0.out.size (fun k e => by cases e; omega)⟩
    · cases e
      have h2 : w0.heap.size ≤ W'.heap.size + 1 := h
      omega
    · have h2 : w0.heap.size ≤ k := h
      exact .inr (by show W'.heap.size ≤ k; omega)
/-- the grid of Shortest, and the box with it -/
structure ShM (W1 : World) (gt gn gs : Int) (gr : Value) (T : Tb) (b : Nat) (wr : World) : Prop where
  sm : SM (fun _ => False) W1 gt gn gs gr (.func (.func 46) #[] #[]) (.func (.func 47) #[] #[]) 0 T wr
  box : wr.heap[b]? = some (.cells #[.pointer (some ⟨W1.heap.size + 2, 0, none⟩)] 83 (0, 0))
set_option maxHeartbeats 4000000 in
set_option maxRecDepth 100000 in
theorem freeE {W1 : World} {gt gn gs : Int} {gr : Value} {T : Tb} {b : Nat} {wr : World} (h : ShM W1 gt gn gs gr T b wr) (ok : Sym → Prop) (hok : ∀ s, ok s → okN s.n) :
    FreeFn 48 #[.pointer (some ⟨b, 0, none⟩)] (fun y => ofT leafS T y 0 0) ok (fun k => W1.heap.size ≤ k ∧ k < wr.heap.size) wr := by
  intro W y hy hb
  show Calls _ _ #[.agg #[.bool y.term, .int .i64 y.n], .pointer (some ⟨b, 0, none⟩)] _ _
  obtain ⟨w0, HW⟩ := nameIt ((W.alloc (.cells #[.bool y.term, .int .i64 y.n] 44)).alloc (.cells #[.bool false, .int .i64 0, .int .i64 0, .slice none 0 0] 36))
  have hw0 : Below W.heap.size W w0 := by
    rw [← HW.out]
    exact ((Below.refl _ _).alloc (Nat.le_refl _) _).alloc (by simp) _
  have hy0 : w0.heap[W.heap.size]? = some (.cells #[.bool y.term, .int .i64 y.n] 44 (0, 0)) := by
    rw [← HW.out]; exact bx_keep (bx_new _ _ _ rfl) ((Below.refl _ _).alloc (Nat.le_refl _) _)
  have HZ0 : Hid (w0.heap[W.heap.size + 1]? = some (.cells #[.bool false, .int .i64 0, .int .i64 0, .slice none 0 0] 36 (0, 0))) := by
    rw [← HW.out]; exact bx_new _ _ _ (by simp)
  have HSZ : Hid (w0.heap.size = W.heap.size + 1 + 1) := by show _ = _; rw [← HW.out]; simp
  have hbx := bx_keep h.box (hb.trans (hw0.mono hb.size))
  have HB0 := Lib.hid hw0
  have hof := h.sm.ofFn eg46 (leafSE ok 0 (fun _ => False) W1) (fun _ h => h.elim) (by omega) hok w0 y 0 0 hy (Nat.le_refl _) (Nat.le_refl _) (hb.trans (hw0.mono hb.size))
  obtain ⟨o, HO⟩ := nameIt (ofT leafS T y 0 0)
  rw [HO.out] at hof
  have HOF := Lib.hid hof
  rw [show (fun y => ofT leafS T y 0 0) y = o from HO.out]
  obtain ⟨y0, y1⟩ := bx_cells2 hy0
  have c0 := bx_cells1 hbx
  have HBW := Lib.hid hb.size
  have HSS := Lib.hid h.sm.bel.size
  obtain ⟨yt, HYT⟩ := nameIt y.term
  obtain ⟨yn, HYN⟩ := nameIt y.n
  rw [HYT.out] at y0 HOF HW
  rw [HYN.out] at y1 HOF HW
  rw [HYT.out, HYN.out]
  clear hw0 hy0 hbx hof
  go_enter Try.func48, Try.ntmps48
  go_upto_region 1 with fail
  rw [HW.out]
  clear HW
  go_wp2_with fail
  refine HOF.out.mono ?_
  rintro e w1 ⟨x, rfl, hv, hb1⟩
  obtain ⟨a1, m1, k1, rfl, hrd⟩ := vr_form hv
  have HZ1 := Lib.hid (bx_keep HZ0.out hb1)
  have HB1 := Lib.hid (HB0.out.trans (hb1.mono HB0.out.size))
  have HRD := Lib.hid hrd
  obtain ⟨z0, z1, z2, z3⟩ := bx_cells4 HZ1.out
  obtain ⟨f0, f1, f2, f3⟩ := bx_free4 HZ1.out
  clear hv hb1 hrd y0 y1 c0
  go_wp2_with fail
  refine bodyPost_ret (v := .agg #[.bool o.isSome, .int .i64 (oC o), .int .i64 (oN o), .slice a1 m1 k1]) (by simp [results, Try.results48, go_sem, z0, z1, z2, z3]) rfl ?_
  have hg := grown_cell4 w1 (W.heap.size + 1) (.bool o.isSome) (.int .i64 (oC o)) (.int .i64 (oN o)) (.slice a1 m1 k1)
  have hsz := HSZ.out
  have hbw := HBW.out
  have hss := HSS.out
  refine ⟨_, rfl, ⟨.slice a1 m1 k1, rfl, (rd_grown HRD.out hg (fun k e h2 => ?_)).mono (fun k h2 _ => ?_)⟩, HB1.out.grown hg HB1.out.size (fun k e => by cases e; omega)⟩
  · cases e
    rcases h2 with h2 | h2
    · have := h2.2; omega
    · have h3 : w0.heap.size ≤ W.heap.size + 1 := h2; omega
  · rcases h2 with h2 | h2
    · rcases h2.1 with h3 | h3
      · exact h3.elim
      · exact .inl ⟨by omega, h2.2⟩
    · have h3 : w0.heap.size ≤ k := h2
      exact .inr (by show W.heap.size ≤ k; omega)
/-- what is known of Shortest's table -/
def ShT (K : List Rule) (N tm : Nat) (T : Tb) : Prop := CG leafS emS 0 N K (GS tm) T ∧ JS N T ∧ ClosedT K leafS emS 0 T
set_option maxHeartbeats 4000000 in
set_option maxRecDepth 100000 in
theorem shortE (K : List Rule) (N tm : Nat) (hN : N ≤ 10) (htm : tm ≤ 100) (hK : KG N K (okS N tm)) (hr4 : ∀ r ∈ K, r.right.length ≤ 4) (gt gn gs : Int) (ga : Option Addr) (gk : Nat) (W : World) (hgr : Rd AnyB W (.sl (K.map Rule.d)) [.slice ga K.length gk]) :
    Calls Try.prog 15 #[.agg #[.int .i64 gt, .int .i64 gn, .int .i64 gs, .slice ga K.length gk]] W fun e w' => ∃ T W1 b, e = .returned (.func (.func 48) #[] #[.pointer (some ⟨b, 0, none⟩)]) ∧ ShT K N tm T ∧ ShM W1 gt gn gs (.slice ga K.length gk) T b w' ∧ Below W.heap.size W W1 ∧ Below W.heap.size W w' := by
  obtain ⟨w0, HW⟩ := nameIt (W.alloc (.cells #[.int .i64 gt, .int .i64 gn, .int .i64 gs, .slice ga K.length gk] 24))
  have hw0 : Below W.heap.size W w0 := by rw [← HW.out]; exact (Below.refl _ _).alloc (Nat.le_refl _) _
  have hg0 : w0.heap[W.heap.size]? = some (.cells #[.int .i64 gt, .int .i64 gn, .int .i64 gs, .slice ga K.length gk] 24 (0, 0)) := by rw [← HW.out]; exact bx_new _ _ _ rfl
  have hoks : ∀ s, okS N tm s → okN s.n := fun s hs => by
    obtain ⟨h1, h2, h3⟩ := hs
    cases ht : s.term with
    | true => have := h2 ht; exact ⟨h1, by omega⟩
    | false => have := h3 ht; exact ⟨h1, by omega⟩
  have hso := solveE 46 #[] leafS 47 #[] emS (okS N tm) 0 1048576 (fun _ => False) w0 eg46 eg47 (leafSE _ _ _ _) (empS _ _ _) (fun _ h => h.elim) (by omega) (by omega) K gt gn gs (.slice ga K.length gk) (hgr.below hw0) (fun r hr => by
    obtain ⟨h1, h2, h3⟩ := hK r hr
    exact ⟨⟨h1, by omega⟩, hr4 r hr, h3⟩) hoks _ _ (planSh hN hK hr4)
  have HSO := Lib.hid hso
  have HB0 := Lib.hid hw0
  obtain ⟨kn, HKN⟩ := nameIt K.length
  rw [HKN.out] at hg0 HSO HW
  rw [HKN.out]
  obtain ⟨x0, x1, x2, x3⟩ := bx_cells4 hg0
  clear hw0 hg0 hso hgr
  go_enter Try.func15, Try.ntmps15
  go_upto_region 2 with fail
  rw [HW.out]
  clear HW
  go_wp2_with fail
  refine HSO.out.mono ?_
  rintro e w1 ⟨T, rfl, ⟨hcg, hjs⟩, hcl, hsm⟩
  have HST : Hid (ShT K N tm T) := ⟨hcg, hjs, hcl⟩
  have HSM := Lib.hid hsm
  clear hcg hjs hcl hsm x0 x1 x2 x3
  go_wp2_with fail
  go_ret
  have hal : Below w1.heap.size w1 (w1.alloc (.cells #[.pointer (some ⟨w0.heap.size + 2, 0, none⟩)] 83)) := (Below.refl _ _).alloc (Nat.le_refl _) _
  have hb := HSM.out.bel
  exact ⟨T, w0, w1.heap.size, rfl, HST.out, ⟨HSM.out.keep hal, bx_new _ _ _ rfl⟩, HB0.out, HB0.out.trans ((hb.trans (hal.mono hb.size)).mono HB0.out.size)⟩
set_option maxHeartbeats 2000000 in
theorem fitsE (y c : Sym) (W : World) : Calls Try.prog 53 #[.agg #[.bool y.term, .int .i64 y.n], .agg #[.bool c.term, .int .i64 c.n]] W fun e w' => e = .returned (.bool (fitB y c)) ∧ Below W.heap.size W w' := by
  obtain ⟨yt, yn⟩ := y
  obtain ⟨ct, cn⟩ := c
  rw [← isB_fit]
  unfold isB
  simp only
  have HB : Hid (Below W.heap.size W ((W.alloc (.cells #[.bool yt, .int .i64 yn] 44)).alloc (.cells #[.bool ct, .int .i64 cn] 44))) := ((Below.refl _ _).alloc (Nat.le_refl _) _).alloc (by simp) _
  have hse1 := symEq yt ct yn cn
  obtain ⟨e1, HE1⟩ := nameIt (yt == ct && yn == cn)
  obtain ⟨e2, HE2⟩ := nameIt (cn == -1)
  have hce : (cn == -1) = e2 := HE2.out
  rw [HE1.out] at hse1 ⊢
  rw [HE2.out]
  clear HE1 HE2
  cases e1 <;> cases yt <;> cases ct <;>
  · go_enter Try.func53, Try.ntmps53
    go_wp2
    go_ret
    exact ⟨by simp, HB.out⟩
set_option maxHeartbeats 4000000 in
set_option maxRecDepth 100000 in
theorem leafHE (fn : Nat) (fb : Array Value) (egf : ∀ args w, (callFunc fn args).run Try.prog w = .ok (.enter fn args) w) (sv : Sym → Option Val) (ok : Sym → Prop) (l : List Sym) (hl : l.length ≤ 12) (P : Nat → Prop) (bl bf : Nat) (la : Option Addr) (lk : Nat) (W : World)
    (hbl : W.heap[bl]? = some (.cells #[.slice la l.length lk] 47 (0, 0))) (hrl : Rd AnyB W (.sl (l.map Sym.d)) [.slice la l.length lk]) (hbf : W.heap[bf]? = some (.cells #[.func (.func fn) #[] fb] 41 (0, 0))) (hfr : FreeFn fn fb sv ok P W) (hP : ∀ k, P k → k < W.heap.size) :
    LeafFn 52 #[.pointer (some ⟨bl, 0, none⟩), .pointer (some ⟨bf, 0, none⟩)] (leafH sv l) ok l.length P W := by
  intro W' y i j hy hij hj hb
  show Calls _ _ #[.agg #[.bool y.term, .int .i64 y.n], .int .i64 (i : Nat), .int .i64 (j : Nat), .pointer (some ⟨bl, 0, none⟩), .pointer (some ⟨bf, 0, none⟩)] _ _
  obtain ⟨w0, HW⟩ := nameIt ((W'.alloc (.cells #[.bool y.term, .int .i64 y.n] 44)).alloc (.cells #[.bool false, .int .i64 0, .int .i64 0, .slice none 0 0] 36))
  have hw0 : Below W'.heap.size W' w0 := by
    rw [← HW.out]
    exact ((Below.refl _ _).alloc (Nat.le_refl _) _).alloc (by simp) _
  have HY0 : Hid (w0.heap[W'.heap.size]? = some (.cells #[.bool y.term, .int .i64 y.n] 44 (0, 0))) := by
    rw [← HW.out]; exact bx_keep (bx_new _ _ _ rfl) ((Below.refl _ _).alloc (Nat.le_refl _) _)
  have HZ0 : Hid (w0.heap[W'.heap.size + 1]? = some (.cells #[.bool false, .int .i64 0, .int .i64 0, .slice none 0 0] 36 (0, 0))) := by
    rw [← HW.out]; exact bx_new _ _ _ (by simp)
  have HSZ : Hid (w0.heap.size = W'.heap.size + 1 + 1) := by show _ = _; rw [← HW.out]; simp
  have HB0 := Lib.hid hw0
  have hb0 := hb.trans (hw0.mono hb.size)
  have HBL := Lib.hid (bx_keep hbl hb0)
  have HBF := Lib.hid (bx_keep hbf hb0)
  have HRL := Lib.hid (hrl.below hb0)
  have HFR : Hid (∀ W2, Below w0.heap.size w0 W2 → Calls Try.prog fn (#[.agg #[.bool y.term, .int .i64 y.n]] ++ fb) W2 fun e w' => ∃ x, e = .returned x ∧ VR (fun k => P k ∨ W2.heap.size ≤ k) w' x (sv y) ∧ Below W2.heap.size W2 w') := fun W2 h2 => hfr W2 y hy (hb0.trans (h2.mono hb0.size))
  have HPW : Hid (∀ k, P k → k < W'.heap.size) := fun k hk => Nat.lt_of_lt_of_le (hP k hk) hb.size
  obtain ⟨o, HO⟩ := nameIt (leafH sv l y i j)
  rw [HO.out]
  obtain ⟨PST, HPS⟩ := nameIt (fun (e : Ending) (w' : World) => ∃ x, e = .returned x ∧ VR (fun k => P k ∨ W'.heap.size ≤ k) w' x o ∧ Below W'.heap.size W' w')
  rw [HPS.out]
  obtain ⟨yt, HYT⟩ := nameIt y.term
  obtain ⟨yn, HYN⟩ := nameIt y.n
  rw [HYT.out, HYN.out] at HY0 HFR HW
  rw [HYT.out, HYN.out]
  obtain ⟨ln, HLN⟩ := nameIt l.length
  rw [HLN.out] at hj hl HBL HRL
  obtain ⟨i1, HI1⟩ := nameIt (i + 1)
  have hw1 : IntKind.i64.wrap ((i : Int) + 1) = (i1 : Int) := by have := HI1.out; rw [IntWalk.i64_in _ (by omega)]; omega
  have HEND : Hid (∀ w3 a1 m1 k1, Below w0.heap.size w0 w3 → Rd (fun k => (P k ∨ W'.heap.size ≤ k) ∧ k ≠ W'.heap.size + 1) w3 (D.ints (oW o)) [.slice a1 m1 k1] → PST (.returned (.agg #[.bool o.isSome, .int .i64 (oC o), .int .i64 (oN o), .slice a1 m1 k1])) ((((w3.setCell ⟨W'.heap.size + 1, 0, none⟩ (.bool o.isSome)).setCell ⟨W'.heap.size + 1, 0 + 1, none⟩ (.int .i64 (oC o))).setCell ⟨W'.heap.size + 1, 0 + 2, none⟩ (.int .i64 (oN o))).setCell ⟨W'.heap.size + 1, 0 + 3, none⟩ (.slice a1 m1 k1))) := by
    intro w3 a1 m1 k1 hb3 hv
    have hg := grown_cell4 w3 (W'.heap.size + 1) (.bool o.isSome) (.int .i64 (oC o)) (.int .i64 (oN o)) (.slice a1 m1 k1)
    have hB : Below W'.heap.size W' w3 := HB0.out.trans (hb3.mono HB0.out.size)
    rw [← HPS.out]
    refine ⟨_, rfl, ⟨_, rfl, (rd_grown hv hg ?_).mono (fun k h _ => h.1)⟩, hB.grown hg hB.size ?_⟩
    · intro k e h
      cases e
      exact h.2 rfl
    · intro k e
      cases e
      omega
  clear hw0 hb0 hb hbl hrl hbf hfr hP HPS
  by_cases he : j = i1
  · have hil : i < ln := by have := HI1.out; omega
    have hil' : (i : Int) < (ln : Int) := by omega
    have hilL : i < l.length := by rw [HLN.out]; exact hil
    obtain ⟨lb, lo, hla, -, -, q0, q1⟩ := (show Rd AnyB w0 (.sl (l.map Sym.d)) [.slice la ln lk] from HRL.out).sym_at hilL
    subst hla
    obtain ⟨⟨ct, cn⟩, HC⟩ := nameIt l[i]
    rw [HC.out] at q0 q1
    have hne : ((j : Int) != (i1 : Int)) = false := by simp; omega
    obtain ⟨fbq, HFB⟩ := nameIt (fitB ⟨yt, yn⟩ ⟨ct, cn⟩)
    have hlf : o = if fbq then sv y else none := by
      rw [← HO.out]
      unfold leafH
      have hg : l.getD i ⟨true, 0⟩ = ⟨ct, cn⟩ := by rw [List.getD_eq_getElem?_getD, List.getElem?_eq_getElem hilL]; exact HC.out
      have ey : y = ⟨yt, yn⟩ := by obtain ⟨a, b⟩ := y; rw [← HYT.out, ← HYN.out]
      rw [hg, show fitB y ⟨ct, cn⟩ = fbq by rw [ey]; exact HFB.out]
      by_cases h : fbq = true
      · rw [if_pos ⟨by rw [he]; exact HI1.out.symm, h, hilL⟩, if_pos h]
      · rw [if_neg (fun h' => h h'.2.1), if_neg h]
    have HLF := Lib.hid hlf
    have HFT : Hid (∀ W2, Below w0.heap.size w0 W2 → Calls Try.prog 53 #[.agg #[.bool yt, .int .i64 yn], .agg #[.bool ct, .int .i64 cn]] W2 fun e w' => e = .returned (.bool fbq) ∧ Below W2.heap.size W2 w') := by
      intro W2 _
      have := fitsE ⟨yt, yn⟩ ⟨ct, cn⟩ W2
      rw [HFB.out] at this
      exact this
    obtain ⟨y0, y1⟩ := bx_cells2 HY0.out
    have c0 := bx_cells1 HBL.out
    have i0 := aft_cell y0
    have i2 := aft_cell y1
    have i3 := aft_cell c0
    have i4 := aft_cell q0
    have i5 := aft_cell q1
    clear hlf HC y0 y1 c0 q0 q1
    go_enter Try.func52, Try.ntmps52
    go_upto_region 1 with fail
    rw [HW.out]
    clear HW
    refine wp_region_after (by kernel_rfl) (by kernel_rfl) ?_
    repeat (go_big_quiet_step (with_reducible exact Calls.after (HFT.out _ (Aft.bel _))))
    refine wpQuiet_nil ?_
    rintro w7 ⟨⟨_, hb7⟩, rfl⟩
    have HB7 := Lib.hid hb7
    clear i0 i2 i3 i4 i5
    cases fbq with
    | false =>
      have ho : o = none := by rw [HLF.out]; rfl
      subst ho
      obtain ⟨z0, z1, z2, z3⟩ := bx_cells4 (bx_keep HZ0.out hb7)
      obtain ⟨f0, f1, f2, f3⟩ := bx_free4 (bx_keep HZ0.out hb7)
      have HE := Lib.hid (HEND.out w7 none 0 0 hb7 (rd_nil _ _))
      clear hb7
      go_wp2_with fail
      exact bodyPost_ret (v := .agg #[.bool false, .int .i64 0, .int .i64 0, .slice none 0 0]) (by simp [results, Try.results52, go_sem, z0, z1, z2, z3]) rfl HE.out
    | true =>
      have ho : sv y = o := by rw [HLF.out]; rfl
      obtain ⟨y0, y1⟩ := bx_cells2 (bx_keep HY0.out hb7)
      have c1 := bx_cells1 (bx_keep HBF.out hb7)
      have hfr := HFR.out w7 hb7
      rw [ho] at hfr
      have HFR7 := Lib.hid hfr
      clear hb7 hfr ho
      go_wp2_with fail
      refine HFR7.out.mono ?_
      rintro e w8 ⟨x, rfl, hv, hb8⟩
      obtain ⟨a1, m1, k1, rfl, hrd⟩ := vr_form hv
      have HB8 := Lib.hid (HB7.out.trans (hb8.mono HB7.out.size))
      have HZ8 := Lib.hid (bx_keep HZ0.out HB8.out)
      have HE := Lib.hid (HEND.out w8 a1 m1 k1 HB8.out (hrd.mono (fun k hk _ => by
        have h1 := HSZ.out
        have h2 := HB7.out.size
        rcases hk with hk | hk
        · have := HPW.out k hk
          exact ⟨.inl hk, by omega⟩
        · have h3 : w7.heap.size ≤ k := hk
          exact ⟨.inr (by omega), by omega⟩)))
      obtain ⟨z0, z1, z2, z3⟩ := bx_cells4 HZ8.out
      obtain ⟨f0, f1, f2, f3⟩ := bx_free4 HZ8.out
      clear hv hb8 hrd y0 y1 c1
      go_wp2_with fail
      exact bodyPost_ret (v := .agg #[.bool o.isSome, .int .i64 (oC o), .int .i64 (oN o), .slice a1 m1 k1]) (by simp [results, Try.results52, go_sem, z0, z1, z2, z3]) rfl HE.out
  · have hne : ((j : Int) != (i1 : Int)) = true := by simp; omega
    have ho : o = none := by
      rw [← HO.out]
      unfold leafH
      rw [if_neg (fun h => he (by rw [h.1]; exact HI1.out))]
    subst ho
    clear HO
    go_enter Try.func52, Try.ntmps52
    go_upto_region 1 with fail
    rw [HW.out]
    clear HW
    have HFT : Hid (∀ W2, Below w0.heap.size w0 W2 → Calls Try.prog 53 #[.agg #[.bool yt, .int .i64 yn], .agg #[.bool true, .int .i64 0]] W2 fun e w' => e = .returned (.bool (fitB ⟨yt, yn⟩ ⟨true, 0⟩)) ∧ Below W2.heap.size W2 w') := fun W2 _ => fitsE ⟨yt, yn⟩ ⟨true, 0⟩ W2
    refine wp_region_after (by kernel_rfl) (by kernel_rfl) ?_
    repeat (go_big_quiet_step (with_reducible exact Calls.after (HFT.out _ (Aft.bel _))))
    refine wpQuiet_nil ?_
    rintro w7 ⟨⟨_, hb7⟩, rfl⟩
    obtain ⟨z0, z1, z2, z3⟩ := bx_cells4 (bx_keep HZ0.out hb7)
    obtain ⟨f0, f1, f2, f3⟩ := bx_free4 (bx_keep HZ0.out hb7)
    have HE := Lib.hid (HEND.out w7 none 0 0 hb7 (rd_nil _ _))
    clear hb7
    go_wp2_with fail
    exact bodyPost_ret (v := .agg #[.bool false, .int .i64 0, .int .i64 0, .slice none 0 0]) (by simp [results, Try.results52, go_sem, z0, z1, z2, z3]) rfl HE.out
set_option maxHeartbeats 8000000 in
set_option maxRecDepth 100000 in
theorem completeE (K : List Rule) (N tm st : Nat) (hN : N ≤ 10) (htm : tm ≤ 100) (hsN : st < N) (hK : KG N K (okS N tm)) (hr4 : ∀ r ∈ K, r.right.length ≤ 4) (l : List Sym) (hl : l.length ≤ 12) (gt gn : Int) (ga : Option Addr) (gk : Nat) (la : Option Addr) (lk : Nat) (W : World) (hgr : Rd AnyB W (.sl (K.map Rule.d)) [.slice ga K.length gk]) (hrl : Rd AnyB W (.sl (l.map Sym.d)) [.slice la l.length lk]) :
    Calls Try.prog 21 #[.agg #[.int .i64 gt, .int .i64 gn, .int .i64 (st : Int), .slice ga K.length gk], .slice la l.length lk] W fun e w' => ∃ S x, ShT K N tm S ∧ e = .returned x ∧ VR (fun k => W.heap.size ≤ k) w' x (cvOf (svOf K N tm) l K N tm ⟨false, (st : Int)⟩ 0 l.length) ∧ Below W.heap.size W w' := by
  obtain ⟨w0, HW⟩ := nameIt (((W.alloc (.cells #[.int .i64 gt, .int .i64 gn, .int .i64 (st : Int), .slice ga K.length gk] 24)).alloc (.cells #[.slice la l.length lk] 47)).alloc (.cells #[.bool false, .int .i64 0, .int .i64 0, .slice none 0 0] 36))
  have hw0 : Below W.heap.size W w0 := by
    rw [← HW.out]
    exact (((Below.refl _ _).alloc (Nat.le_refl _) _).alloc (by simp) _).alloc (by simp; omega) _
  have HSZ : Hid (w0.heap.size = W.heap.size + 1 + 1 + 1) := by show _ = _; rw [← HW.out]; simp
  have al : ∀ (w : World) (o : Obj), Below w.heap.size w (w.alloc o) := fun w o => (Below.refl _ _).alloc (Nat.le_refl _) _
  have HG0 : Hid (w0.heap[W.heap.size]? = some (.cells #[.int .i64 gt, .int .i64 gn, .int .i64 (st : Int), .slice ga K.length gk] 24 (0, 0))) := by
    rw [← HW.out]; exact bx_keep (bx_keep (bx_new _ _ _ rfl) (al _ _)) (al _ _)
  have HQ0 : Hid (w0.heap[W.heap.size + 1]? = some (.cells #[.slice la l.length lk] 47 (0, 0))) := by
    rw [← HW.out]; exact bx_keep (bx_new _ _ _ (by simp)) (al _ _)
  have HZ0 : Hid (w0.heap[W.heap.size + 1 + 1]? = some (.cells #[.bool false, .int .i64 0, .int .i64 0, .slice none 0 0] 36 (0, 0))) := by
    rw [← HW.out]; exact bx_new _ _ _ (by simp)
  have HB0 := Lib.hid hw0
  have hoks : ∀ s, okS N tm s → okN s.n := fun s hs => by
    obtain ⟨h1, h2, h3⟩ := hs
    cases ht : s.term with
    | true => have := h2 ht; exact ⟨h1, by omega⟩
    | false => have := h3 ht; exact ⟨h1, by omega⟩
  have HSH := Lib.hid (shortE K N tm hN htm hK hr4 gt gn (st : Int) ga gk w0 (hgr.below hw0))
  have hgr0 := hgr.below hw0
  have hrl0 := hrl.below hw0
  -- what the two calls of the last line answer, for any table of Shortest
  have HSO : Hid (∀ S w1 b5 fb, ShT K N tm S → Below w0.heap.size w0 w1 → FreeFn 48 fb (svOf K N tm) (okS N tm) (fun k => w0.heap.size ≤ k ∧ k < w1.heap.size) w1 → w1.heap[b5]? = some (.cells #[.func (.func 48) #[] fb] 41 (0, 0)) → ∀ W', Below w1.heap.size w1 W' →
      Calls Try.prog 41 #[.agg #[.int .i64 gt, .int .i64 gn, .int .i64 (st : Int), .slice ga K.length gk], .int .i64 (l.length : Nat), .func (.func 52) #[] #[.pointer (some ⟨W.heap.size + 1, 0, none⟩), .pointer (some ⟨b5, 0, none⟩)], .func (.func 54) #[] #[]] W' fun e w' =>
        e = .returned (.pointer (some ⟨W'.heap.size + 2, 0, none⟩)) ∧ Below w1.heap.size w1 w' ∧ ∀ W2, Below w'.heap.size w' W2 → Calls Try.prog 42 #[.pointer (some ⟨W'.heap.size + 2, 0, none⟩), .agg #[.bool false, .int .i64 (st : Int)], .int .i64 0, .int .i64 (l.length : Nat)] W2 fun e w3 => ∃ x, e = .returned x ∧ VR (fun k => w0.heap.size ≤ k) w3 x (cvOf (svOf K N tm) l K N tm ⟨false, (st : Int)⟩ 0 l.length) ∧ Below W2.heap.size W2 w3) := by
    intro S w1 b5 fb hS hb1 hfr hb5 W' hb'
    obtain ⟨hcg, hjs, hcl⟩ := hS
    have hsv := svOk hN hcg hjs hcl
    have hP : ∀ k, (w0.heap.size ≤ k ∧ k < w1.heap.size) → k < W'.heap.size := fun k hk => Nat.lt_of_lt_of_le hk.2 hb'.size
    have hM : S0 (svOf K N tm) l l.length ≤ 288230376151711744 := by
      have := S0_le (l := l) hsv l.length
      have h2 : l.length * (1048576 + 1) ≤ 12 * 1048577 := Nat.mul_le_mul hl (by omega)
      omega
    have hlf : LeafFn 52 #[.pointer (some ⟨W.heap.size + 1, 0, none⟩), .pointer (some ⟨b5, 0, none⟩)] (leafH (svOf K N tm) l) (okS N tm) l.length (fun k => w0.heap.size ≤ k ∧ k < w1.heap.size) W' :=
      leafHE _ fb eg48 (svOf K N tm) (okS N tm) l hl _ (W.heap.size + 1) b5 la lk W' (bx_keep (bx_keep HQ0.out hb1) hb') ((hrl0.below hb1).below hb') (bx_keep hb5 hb') (fun W2 y hy h2 => hfr W2 y hy (hb'.trans (h2.mono hb'.size))) hP
    refine (solveE _ _ (leafH (svOf K N tm) l) _ _ emH (okS N tm) l.length _ (fun k => w0.heap.size ≤ k ∧ k < w1.heap.size) W' eg52 eg54 hlf (empH _ _ _) hP (by omega) hM K gt gn (st : Int) (.slice ga K.length gk) ((hgr0.below hb1).below hb') (fun r hr => by
      obtain ⟨h1, h2, h3⟩ := hK r hr
      exact ⟨⟨h1, by omega⟩, hr4 r hr, h3⟩) hoks _ _ (planC (l := l) hsv hK)).mono ?_
    rintro e w' ⟨T, rfl, ⟨hct, -⟩, hcl2, hsm⟩
    refine ⟨rfl, hb'.trans (hsm.bel.mono hb'.size), fun W2 hb2 => ?_⟩
    have hst : okS N tm ⟨false, (st : Int)⟩ := ⟨by show (0 : Int) ≤ (st : Int); omega, (fun e => by cases e), fun _ => by show (st : Int) < (N : Int); omega⟩
    refine (hsm.ofFn eg52 hlf hP (by omega) hoks W2 ⟨false, (st : Int)⟩ 0 l.length hst (by omega) (Nat.le_refl _) hb2).mono ?_
    rintro e w3 ⟨x, h1, h2, h3⟩
    rw [cv_eqT hsv hct hcl2 ⟨false, (st : Int)⟩ (Nat.zero_le _) (Nat.le_refl _)] at h2
    refine ⟨x, h1, h2.mono (fun k hk _ => ?_), h3⟩
    have hs1 := hb1.size
    have hs2 := hb'.size
    have hs3 := hsm.bel.size
    have hs4 := hb2.size
    rcases hk with hk | hk
    · rcases hk.1 with h | h
      · exact h.1
      · show w0.heap.size ≤ k
        omega
    · have hk2 : W2.heap.size ≤ k := hk
      show w0.heap.size ≤ k
      omega
  have HFRF : Hid (∀ S W1 b w1 w2, ShT K N tm S → ShM W1 gt gn (st : Int) (.slice ga K.length gk) S b w1 → Below w0.heap.size w0 W1 → Below w1.heap.size w1 w2 → FreeFn 48 #[.pointer (some ⟨b, 0, none⟩)] (svOf K N tm) (okS N tm) (fun k => w0.heap.size ≤ k ∧ k < w2.heap.size) w2) := by
    intro S W1 b w1 w2 hS hM hb1 hb12 W' y hy hb
    obtain ⟨hcg, hjs, hcl⟩ := hS
    have := freeE hM (okS N tm) hoks W' y hy (hb12.trans (hb.mono hb12.size))
    rw [show (fun y => ofT leafS S y 0 0) y = svOf K N tm y from sv_eqT hcg hcl y] at this
    refine this.mono ?_
    rintro e w' ⟨x, h1, h2, h3⟩
    refine ⟨x, h1, h2.mono (fun k hk _ => ?_), h3⟩
    have hs1 := hb1.size
    have hs2 := hb12.size
    rcases hk with hk | hk
    · exact .inl ⟨by omega, by omega⟩
    · exact .inr hk
  obtain ⟨cvo, HCV⟩ := nameIt (cvOf (svOf K N tm) l K N tm ⟨false, (st : Int)⟩ 0 l.length)
  rw [HCV.out] at HSO
  rw [HCV.out]
  obtain ⟨wn, HWN⟩ := nameIt l.length
  obtain ⟨kn, HKN⟩ := nameIt K.length
  rw [HWN.out] at HSO HQ0 HW
  rw [HKN.out] at HSO HG0 HW HSH HFRF
  obtain ⟨PST, HP⟩ := nameIt (fun (e : Ending) (w' : World) => ∃ S x, ShT K N tm S ∧ e = .returned x ∧ VR (fun k => W.heap.size ≤ k) w' x cvo ∧ Below W.heap.size W w')
  rw [HP.out]
  rw [HWN.out, HKN.out]
  obtain ⟨x0, x1, x2, x3⟩ := bx_cells4 HG0.out
  clear hw0 hgr0 hrl0 hgr hrl hoks hK hr4 al
  go_enter Try.func21, Try.ntmps21
  go_upto_region 1 with fail
  rw [HW.out]
  clear HW
  go_wp2_with fail
  refine HSH.out.mono ?_
  rintro e w1 ⟨S, W1, b, rfl, hS, hM, hb1, hb01⟩
  obtain ⟨w2, HW2⟩ := nameIt (w1.alloc (.cells #[.func (.func 48) #[] #[.pointer (some ⟨b, 0, none⟩)]] 41))
  have hw2 : Below w1.heap.size w1 w2 := by rw [← HW2.out]; exact (Below.refl _ _).alloc (Nat.le_refl _) _
  have hbx2 : w2.heap[w1.heap.size]? = some (.cells #[.func (.func 48) #[] #[.pointer (some ⟨b, 0, none⟩)]] 41 (0, 0)) := by rw [← HW2.out]; exact bx_new _ _ _ rfl
  have HB02 : Hid (Below w0.heap.size w0 w2) := hb01.trans (hw2.mono hb01.size)
  have hso := HSO.out S w2 w1.heap.size _ hS HB02.out (HFRF.out S W1 b w1 w2 hS hM hb1 hw2) hbx2
  have HSS := Lib.hid hS
  have HBX2 := Lib.hid hbx2
  obtain ⟨b5, HB5⟩ := nameIt w1.heap.size
  rw [HB5.out] at hso HBX2
  have HSV := Lib.hid hso
  clear hS hM hb1 hb01 hw2 hbx2 hso x0 x1 x2 x3 HSO HFRF HSH
  go_upto_region 4 with fail
  rw [HW2.out, HB5.out]
  clear HW2 HB5
  have HCS : Hid (∀ w', Below w2.heap.size w2 w' → w'.cell? ⟨W.heap.size, 0, none⟩ = some (.int .i64 gt) ∧ w'.cell? ⟨W.heap.size, 0 + 1, none⟩ = some (.int .i64 gn) ∧ w'.cell? ⟨W.heap.size, 0 + 2, none⟩ = some (.int .i64 (st : Int)) ∧ w'.cell? ⟨W.heap.size, 0 + 3, none⟩ = some (.slice ga kn gk) ∧ w'.cell? ⟨W.heap.size + 1, 0, none⟩ = some (.slice la wn lk)) := by
    intro w' hb'
    have h0 := HB02.out.trans (hb'.mono HB02.out.size)
    obtain ⟨h1, h2, h3, h4⟩ := bx_cells4 (bx_keep HG0.out h0)
    exact ⟨h1, h2, h3, h4, bx_cells1 (bx_keep HQ0.out h0)⟩
  refine wp_region_U (S := (fun w' => w'.cell? ⟨W.heap.size, 0, none⟩ = some (.int .i64 gt) ∧ w'.cell? ⟨W.heap.size, 0 + 1, none⟩ = some (.int .i64 gn) ∧ w'.cell? ⟨W.heap.size, 0 + 2, none⟩ = some (.int .i64 (st : Int)) ∧ w'.cell? ⟨W.heap.size, 0 + 3, none⟩ = some (.slice ga kn gk) ∧ w'.cell? ⟨W.heap.size + 1, 0, none⟩ = some (.slice la wn lk))) 11 (by kernel_rfl) (fun inv => ?_)
  refine wpU_take (i := 0) (v := .agg #[.int .i64 gt, .int .i64 gn, .int .i64 (st : Int), .slice ga kn gk]) rfl inv (by kernel_rfl) (by kernel_rfl) (by decide) (by decide) (by kernel_rfl) (by kernel_rfl) (by kernel_rfl) (fun _ _ _ h => h) (Or.inl ⟨by rfl, fun w' hw' => ?_⟩) (HCS.out _ (Below.refl _ _).drew) (fun inv => ?_)
  · obtain ⟨h0, h1, h2, h3, h4⟩ := hw'
    go_simp
  try simp only [Act.put, List.setIfInBounds_toArray, List.set_cons_zero, List.set_cons_succ]
  refine wpU_take (i := 1) (v := .slice la wn lk) rfl inv (by kernel_rfl) (by kernel_rfl) (by decide) (by decide) (by kernel_rfl) (by kernel_rfl) (by kernel_rfl) (fun _ _ _ h => h) (Or.inl ⟨by rfl, fun w' hw' => ?_⟩) (HCS.out _ (Below.refl _ _).drew) (fun inv => ?_)
  · obtain ⟨h0, h1, h2, h3, h4⟩ := hw'
    go_simp
  try simp only [Act.put, List.setIfInBounds_toArray, List.set_cons_zero, List.set_cons_succ]
  refine wpU_take (i := 2) (v := .int .i64 (wn : Nat)) rfl inv (by kernel_rfl) (by kernel_rfl) (by decide) (by decide) (by kernel_rfl) (by kernel_rfl) (by kernel_rfl) (fun _ _ _ h => h) (Or.inl ⟨by rfl, fun w' hw' => ?_⟩) (HCS.out _ (Below.refl _ _).drew) (fun inv => ?_)
  · obtain ⟨h0, h1, h2, h3, h4⟩ := hw'
    go_simp
  try simp only [Act.put, List.setIfInBounds_toArray, List.set_cons_zero, List.set_cons_succ]
  refine wpU_take (i := 3) (v := .func (.func 52) #[] #[.pointer (some ⟨W.heap.size + 1, 0, none⟩), .pointer (some ⟨b5, 0, none⟩)]) rfl inv (by kernel_rfl) (by kernel_rfl) (by decide) (by decide) (by kernel_rfl) (by kernel_rfl) (by kernel_rfl) (fun _ _ _ h => h) (Or.inl ⟨by rfl, fun w' hw' => ?_⟩) (HCS.out _ (Below.refl _ _).drew) (fun inv => ?_)
  · obtain ⟨h0, h1, h2, h3, h4⟩ := hw'
    go_simp
  try simp only [Act.put, List.setIfInBounds_toArray, List.set_cons_zero, List.set_cons_succ]
  refine wpU_take (i := 4) (v := .func (.func 54) #[] #[]) rfl inv (by kernel_rfl) (by kernel_rfl) (by decide) (by decide) (by kernel_rfl) (by kernel_rfl) (by kernel_rfl) (fun _ _ _ h => h) (Or.inl ⟨by rfl, fun w' hw' => ?_⟩) (HCS.out _ (Below.refl _ _).drew) (fun inv => ?_)
  · obtain ⟨h0, h1, h2, h3, h4⟩ := hw'
    go_simp
  try simp only [Act.put, List.setIfInBounds_toArray, List.set_cons_zero, List.set_cons_succ]
  refine wpU_take (i := 6) (v := .pointer (some ⟨W.heap.size, 0 + 2, none⟩)) rfl inv (by kernel_rfl) (by kernel_rfl) (by decide) (by decide) (by kernel_rfl) (by kernel_rfl) (by kernel_rfl) (fun _ _ _ h => h) (Or.inl ⟨by rfl, fun w' hw' => ?_⟩) (HCS.out _ (Below.refl _ _).drew) (fun inv => ?_)
  · obtain ⟨h0, h1, h2, h3, h4⟩ := hw'
    go_simp
  try simp only [Act.put, List.setIfInBounds_toArray, List.set_cons_zero, List.set_cons_succ]
  refine wpU_take (i := 7) (v := .int .i64 (st : Int)) rfl inv (by kernel_rfl) (by kernel_rfl) (by decide) (by decide) (by kernel_rfl) (by kernel_rfl) (by kernel_rfl) (fun _ _ _ h => h) (Or.inl ⟨by rfl, fun w' hw' => ?_⟩) (HCS.out _ (Below.refl _ _).drew) (fun inv => ?_)
  · obtain ⟨h0, h1, h2, h3, h4⟩ := hw'
    go_simp
  try simp only [Act.put, List.setIfInBounds_toArray, List.set_cons_zero, List.set_cons_succ]
  refine wpU_take (i := 8) (v := .agg #[.bool false, .int .i64 (st : Int)]) rfl inv (by kernel_rfl) (by kernel_rfl) (by decide) (by decide) (by kernel_rfl) (by kernel_rfl) (by kernel_rfl) (fun _ _ _ h => h) (Or.inl ⟨by rfl, fun w' hw' => ?_⟩) (HCS.out _ (Below.refl _ _).drew) (fun inv => ?_)
  · obtain ⟨h0, h1, h2, h3, h4⟩ := hw'
    go_simp
  try simp only [Act.put, List.setIfInBounds_toArray, List.set_cons_zero, List.set_cons_succ]
  refine wpU_take (i := 9) (v := .slice la wn lk) rfl inv (by kernel_rfl) (by kernel_rfl) (by decide) (by decide) (by kernel_rfl) (by kernel_rfl) (by kernel_rfl) (fun _ _ _ h => h) (Or.inl ⟨by rfl, fun w' hw' => ?_⟩) (HCS.out _ (Below.refl _ _).drew) (fun inv => ?_)
  · obtain ⟨h0, h1, h2, h3, h4⟩ := hw'
    go_simp
  try simp only [Act.put, List.setIfInBounds_toArray, List.set_cons_zero, List.set_cons_succ]
  refine wpU_take (i := 10) (v := .int .i64 (wn : Nat)) rfl inv (by kernel_rfl) (by kernel_rfl) (by decide) (by decide) (by kernel_rfl) (by kernel_rfl) (by kernel_rfl) (fun _ _ _ h => h) (Or.inl ⟨by rfl, fun w' hw' => ?_⟩) (HCS.out _ (Below.refl _ _).drew) (fun inv => ?_)
  · obtain ⟨h0, h1, h2, h3, h4⟩ := hw'
    go_simp
  try simp only [Act.put, List.setIfInBounds_toArray, List.set_cons_zero, List.set_cons_succ]
  refine wpU_one (i := 5) (by kernel_rfl) rfl (fun K hK => ?_)
  replace inv := inv_setc (i := 5) inv (by kernel_rfl) (by decide)
  go_simp
  refine (HSV.out _ (Below.refl w2.heap.size w2).drew).mono ?_
  rintro e w3 ⟨rfl, hb3, hof⟩
  have HB3 : Hid (Below w2.heap.size w2 w3) := hb3
  have HOF := Lib.hid (hof w3 (Below.refl _ _))
  clear hb3 hof
  refine hK.out _ _ (fun _ => HCS.out _ HB3.out) ?_
  clear hK K
  try simp only [Act.put, List.setIfInBounds_toArray, List.set_cons_zero, List.set_cons_succ]
  refine wpU_one (i := 11) (by kernel_rfl) rfl (fun K hK => ?_)
  go_simp
  refine HOF.out.mono ?_
  rintro e w4 ⟨x, rfl, hv, hb4⟩
  obtain ⟨a1, m1, k1, rfl, hrd⟩ := vr_form hv
  have HB4 : Hid (Below w0.heap.size w0 w4) := HB02.out.trans ((HB3.out.trans (hb4.mono HB3.out.size)).mono HB02.out.size)
  have HRD := Lib.hid hrd
  have HZ3 := Lib.hid (bx_keep HZ0.out HB4.out)
  clear hv hb4 hrd
  refine hK.out _ _ (fun h => absurd (show true = false from h) (by decide)) ?_
  clear hK K
  try simp only [Act.put, List.setIfInBounds_toArray, List.set_cons_zero, List.set_cons_succ]
  refine wpU_one (i := 12) (by kernel_rfl) rfl (fun K hK => ?_)
  obtain ⟨f0, f1, f2, f3⟩ := bx_free4 HZ3.out
  obtain ⟨z0, z1, z2, z3⟩ := bx_cells4 HZ3.out
  go_simp
  refine hK.out _ _ (fun h => absurd (show true = false from h) (by decide)) ?_
  clear hK K
  try simp only [Act.put, List.setIfInBounds_toArray, List.set_cons_zero, List.set_cons_succ]
  refine wpU_done (by kernel_rfl) ?_ _
  obtain ⟨z0, z1, z2, z3⟩ := bx_cells4 HZ3.out
  have hg := grown_cell4 w4 (W.heap.size + 1 + 1) (.bool cvo.isSome) (.int .i64 (oC cvo)) (.int .i64 (oN cvo)) (.slice a1 m1 k1)
  have hb2 := HB0.out.trans (HB4.out.mono HB0.out.size)
  have hsz := HSZ.out
  have HE : Hid (PST (.returned (.agg #[.bool cvo.isSome, .int .i64 (oC cvo), .int .i64 (oN cvo), .slice a1 m1 k1])) ((((w4.setCell ⟨W.heap.size + 1 + 1, 0, none⟩ (.bool cvo.isSome)).setCell ⟨W.heap.size + 1 + 1, 0 + 1, none⟩ (.int .i64 (oC cvo))).setCell ⟨W.heap.size + 1 + 1, 0 + 2, none⟩ (.int .i64 (oN cvo))).setCell ⟨W.heap.size + 1 + 1, 0 + 3, none⟩ (.slice a1 m1 k1))) := by
    show PST _ _
    rw [← HP.out]
    refine ⟨S, _, HSS.out, rfl, ⟨.slice a1 m1 k1, rfl, ?_⟩, hb2.grown hg hb2.size ?_⟩
    · refine (rd_grown HRD.out hg ?_).mono (fun k hk _ => by
        have h2 : w0.heap.size ≤ k := hk
        show W.heap.size ≤ k
        omega)
      intro k e h
      cases e
      have h2 : w0.heap.size ≤ W.heap.size + 1 + 1 := h
      omega
    · intro k e
      cases e
      omega
  clear hg hb2 hsz
  go_wp2_with fail
  exact bodyPost_ret (v := .agg #[.bool cvo.isSome, .int .i64 (oC cvo), .int .i64 (oN cvo), .slice a1 m1 k1]) (by simp [results, Try.results21, go_sem, z0, z1, z2, z3]) rfl HE.out
end Hl
end Go.Proofs.Ytjpmebppdcclbaa
namespace Go.Proofs.Ytjpmebppdcclbaa
open Go.RowKit
namespace Hl
open Rp

theorem bad_eq {g : Gram} (h1 : 1 ≤ g.terms) (h2 : 1 ≤ g.nons) (s : Sym) : badS g s = ((decide ((if s.term then g.terms else g.nons) ≤ s.n) || decide (s.n < -1)) || ((s.n == -1) && !s.term)) := by
  obtain ⟨st, sn⟩ := s
  unfold badS hasS
  rw [Bool.eq_iff_iff]
  cases st <;> simp <;> omega
set_option maxHeartbeats 8000000 in
set_option maxRecDepth 100000 in
theorem patFE (g : Gram) (l : List Sym) (ga : Option Addr) (gcp : Nat) (la : Option Addr) (lk : Nat) (W : World) (hgr : Rd AnyB W (.sl (g.rules.map Rule.d)) [.slice ga g.rules.length gcp]) (hrl : Rd AnyB W (.sl (l.map Sym.d)) [.slice la l.length lk]) :
    Calls Try.prog 19 #[.agg #[.int .i64 g.terms, .int .i64 g.nons, .int .i64 g.start, .slice ga g.rules.length gcp], .slice la l.length lk] W fun e w' => e = .returned (.int .i64 (patF g l)) ∧ Below W.heap.size W w' := by
  have hlb := hrl.bounds.2
  unfold maxLen at hlb
  obtain ⟨hlc1, hlc2⟩ := hlb
  obtain ⟨w0, HW0⟩ := nameIt (W.alloc (.cells #[.int .i64 g.terms, .int .i64 g.nons, .int .i64 g.start, .slice ga g.rules.length gcp] 24))
  have hb0 : Below W.heap.size W w0 := by rw [← HW0.out]; exact (Below.refl _ _).alloc (Nat.le_refl _) _
  have X0 : Hid (w0.heap[W.heap.size]? = some (.cells #[.int .i64 g.terms, .int .i64 g.nons, .int .i64 g.start, .slice ga g.rules.length gcp] 24 (0, 0))) := by rw [← HW0.out]; exact bx_new _ _ _ rfl
  have HCK := Lib.hid (checkE g ga gcp w0 (hgr.below hb0))
  have HRL := Lib.hid (hrl.below hb0)
  obtain ⟨PST, HP⟩ := nameIt (fun (e : Ending) (w' : World) => e = .returned (.int .i64 (patF g l)) ∧ Below W.heap.size W w')
  have HFIN : Hid (∀ z w', patF g l = z → Below w0.heap.size w0 w' → PST (.returned (.int .i64 z)) w') := by
    intro z w' h1 h2
    rw [← HP.out]
    exact ⟨by rw [h1], hb0.trans (h2.mono hb0.size)⟩
  rw [HP.out]
  have HBE : Hid (checkG g = 0 → ∀ s, badS g s = ((decide ((if s.term then g.terms else g.nons) ≤ s.n) || decide (s.n < -1)) || ((s.n == -1) && !s.term))) := by
    intro h s
    obtain ⟨⟨h1, h2, h3, h4, h5, h6⟩, _⟩ := checkG_zero h
    exact bad_eq (by omega) (by omega) s
  obtain ⟨gt, HGT⟩ := nameIt g.terms
  obtain ⟨gn, HGN⟩ := nameIt g.nons
  obtain ⟨gs, HGS⟩ := nameIt g.start
  obtain ⟨kn, HKN⟩ := nameIt g.rules.length
  obtain ⟨n, HN⟩ := nameIt l.length
  rw [HGT.out, HGN.out, HGS.out, HKN.out] at HW0 X0 HCK
  rw [HGT.out, HGN.out] at HBE
  rw [HN.out] at hlc1 HRL
  rw [HGT.out, HGN.out, HGS.out, HKN.out, HN.out]
  obtain ⟨ck, HC⟩ := nameIt (checkG g)
  rw [HC.out] at HCK HBE
  obtain ⟨x0, x1, x2, x3⟩ := bx_cells4 X0.out
  clear hb0 hgr hrl HP
  go_enter Try.func19, Try.ntmps19
  go_upto_region 1 with fail
  rw [HW0.out]
  go_wp2_with fail
  refine HCK.out.mono ?_
  clear x0 x1 x2 x3
  rintro e w1 ⟨rfl, hb1⟩
  have HB1 := Lib.hid hb1
  clear hb1
  by_cases he : ck = 0
  · subst he
    have HBS0 := Lib.hid (HBE.out rfl)
    by_cases hn : n ≤ 12
    · have hn' : (n : Int) ≤ 12 := by omega
      have hgt : ¬ (12 : Int) < (n : Int) := by omega
      have HP3 : Hid (l.any (badS g) = true → patF g l = 3) := by
        intro h
        unfold patF
        rw [if_neg (by rw [HC.out]; simp), if_neg (by rw [HN.out]; omega), if_pos h]
      have HP0 : Hid ((∀ x ∈ l.take n, badS g x = false) → patF g l = 0) := by
        intro h
        unfold patF
        rw [if_neg (by rw [HC.out]; simp), if_neg (by rw [HN.out]; omega), if_neg]
        rw [List.take_of_length_le (by rw [HN.out]; exact Nat.le_refl _)] at h
        intro h2
        rw [List.any_eq_true] at h2
        obtain ⟨x, hx, hb⟩ := h2
        rw [h x hx] at hb; cases hb
      have HT0 : Hid (∀ x ∈ l.take 0, badS g x = false) := fun x hx => by simp at hx
      clear HC HBE
      go_wp2_with fail
      go_loopg [7, 8, 19] n (fun gg v7 v8 v19 wr => ∃ i : Nat, i ≤ n ∧ n - i ≤ gg ∧ v19 = .int .i64 (i : Nat) ∧ Hid (Below w0.heap.size w0 wr) ∧ Hid (∀ x ∈ l.take i, badS g x = false))
      case atStart => exact ⟨0, by omega, by omega, rfl, HB1, HT0⟩
      case round =>
        clear HB1 HT0 w1
        obtain ⟨i, hi, hgg, rfl, HB, HTK⟩ := hrel
        obtain ⟨w1, rfl⟩ : ∃ wo : World, wo = wr := ⟨_, rfl⟩
        by_cases hlt : i < n
        · have hlt' : (i : Int) < (n : Int) := by omega
          have hil : i < l.length := by rw [HN.out]; exact hlt
          obtain ⟨sb, so, hsa, -, -, c0, c1⟩ := (show Rd AnyB w1 (.sl (l.map Sym.d)) [.slice la n lk] from HRL.out.below HB.out).sym_at hil
          obtain ⟨s, HS⟩ := nameIt (l[i]'hil)
          rw [HS.out] at c0 c1
          have HNX : Hid (badS g s = false → ∀ x ∈ l.take (i + 1), badS g x = false) := fun h => any_take hil HTK.out (by rw [HS.out]; exact h)
          have HBD : Hid (badS g s = true → l.any (badS g) = true) := fun h => List.any_eq_true.2 ⟨s, by rw [← HS.out]; exact List.getElem_mem hil, h⟩
          have hbs := HBS0.out s
          obtain ⟨st, HST⟩ := nameIt s.term
          obtain ⟨sn, HSN⟩ := nameIt s.n
          rw [HST.out] at c0 hbs
          rw [HSN.out] at c1 hbs
          obtain ⟨m, HMM⟩ := nameIt (if st then gt else gn)
          rw [HMM.out] at hbs
          obtain ⟨q1, HQ1⟩ := nameIt (decide (m ≤ sn))
          obtain ⟨q2, HQ2⟩ := nameIt (decide (sn < -1))
          obtain ⟨q3, HQ3⟩ := nameIt (sn == -1)
          rw [HQ1.out, HQ2.out, HQ3.out] at hbs
          have HBS := Lib.hid hbs
          have d1 := HQ1.out
          have d2 := HQ2.out
          have d3 := HQ3.out
          clear hbs HQ1 HQ2 HQ3
          subst hsa
          obtain ⟨w2, HW2⟩ := nameIt (w1.alloc (.cells #[.bool st, .int .i64 sn] 44))
          have hb2 : Below w1.heap.size w1 w2 := by rw [← HW2.out]; exact (Below.refl _ _).alloc (Nat.le_refl _) _
          have S2 : Hid (w2.heap[w1.heap.size]? = some (.cells #[.bool st, .int .i64 sn] 44 (0, 0))) := by rw [← HW2.out]; exact bx_new _ _ _ rfl
          have HB2 := Lib.hid (HB.out.trans (hb2.mono HB.out.size))
          have X2 := Lib.hid (bx_keep X0.out HB2.out)
          obtain ⟨b7, HB7⟩ := nameIt w1.heap.size
          rw [HB7.out] at S2
          clear hb2
          go_upto_region 9 with fail
          rw [HW2.out, HB7.out]
          clear HW2 HB7 c0 c1
          obtain ⟨x0, x1, x2, x3⟩ := bx_cells4 X2.out
          obtain ⟨y0, y1⟩ := bx_cells2 S2.out
          obtain ⟨bq, HBQ⟩ : ∃ bq : Bool, Hid (bq = ((q1 || q2) || (q3 && !st))) := ⟨_, rfl⟩
          have HBS2 : Hid (badS g s = bq) := by show _ = _; rw [HBS.out, HBQ.out]
          have HB22 : Hid (Below w2.heap.size w2 w2) := Below.refl _ _
          go_upto_region 10 with fail
          clear x0 x1 x2 x3 y0 y1
          obtain ⟨y0, y1⟩ := bx_cells2 S2.out
          go_upto_if 26 with fail
          go_cut [8] (fun t wx => t = .int .i64 m ∧ w2 = wx)
          case first =>
            have hm := HMM.out
            obtain ⟨x0, x1, x2, x3⟩ := bx_cells4 X2.out
            cases st with
            | true =>
              simp only [if_true] at hm
              subst hm
              go_wp2_with fail
              go_meet
              exact ⟨rfl, rfl⟩
            | false =>
              simp only [Bool.false_eq_true, if_false] at hm
              subst hm
              go_wp2_with fail
              go_meet
              exact ⟨rfl, rfl⟩
          case rest =>
          obtain ⟨rfl, rfl⟩ := hcut
          go_upto_region 12 with fail
          go_cut [47] (fun t wx => t = .bool bq ∧ w2 = wx)
          case first =>
            obtain ⟨y0, y1⟩ := bx_cells2 S2.out
            have hbq := HBQ.out
            cases q1 with
            | true =>
              obtain rfl : bq = true := by rw [hbq]; simp
              clear hbq HBQ HBS2
              go_wp2_with fail
              go_meet
              exact ⟨rfl, rfl⟩
            | false =>
            cases q2 with
            | true =>
              obtain rfl : bq = true := by rw [hbq]; simp
              clear hbq HBQ HBS2
              go_wp2_with fail
              go_meet
              exact ⟨rfl, rfl⟩
            | false =>
            cases q3 with
            | false =>
              obtain rfl : bq = false := by rw [hbq]; simp
              clear hbq HBQ HBS2
              go_wp2_with fail
              go_meet
              exact ⟨rfl, rfl⟩
            | true =>
              have hb2 : (!st) = bq := by rw [hbq]; simp
              clear hbq HBQ HBS2
              go_wp2_with fail
              go_meet
              exact ⟨rfl, rfl⟩
          case rest =>
          obtain ⟨rfl, rfl⟩ := hcut
          cases bq with
          | false =>
            have HNX2 := Lib.hid (HNX.out HBS2.out)
            go_wp2_with fail
            go_roundg (n - (i + 1))
            case measure => omega
            case rel => exact ⟨i + 1, by omega, by omega, by go_num, HB2, HNX2⟩
          | true =>
            have HF := Lib.hid (HFIN.out 3 w2 (HP3.out (HBD.out HBS2.out)) HB2.out)
            go_wp2_with fail
            exact HF.out
        · have hlt' : ¬ (i : Int) < (n : Int) := by omega
          obtain rfl : i = n := by omega
          have HF := Lib.hid (HFIN.out 0 w1 (HP0.out HTK.out) HB.out)
          go_wp2_with fail
          exact HF.out
    · have hgt : (12 : Int) < (n : Int) := by omega
      have HF := Lib.hid (HFIN.out 2 w1 (by unfold patF; rw [if_neg (by rw [HC.out]; simp), if_pos (by rw [HN.out]; omega)]) HB1.out)
      go_wp2_with fail
      exact HF.out
  · have b1 : (ck != 0) = true := by simpa using he
    have HF := Lib.hid (HFIN.out ck w1 (by unfold patF; rw [HC.out, if_pos he]) HB1.out)
    go_wp2_with fail
    exact HF.out
end Hl
end Go.Proofs.Ytjpmebppdcclbaa
namespace Go.Proofs.Ytjpmebppdcclbaa
namespace Rp

section
variable (c : Co) (w : List Int) (n N tm : Nat) (K : List Rule)
def okS (s : Sym) : Prop := 0 ≤ s.n ∧ (s.term = true → s.n < (tm : Int)) ∧ (s.term = false → s.n < (N : Int))
def leafC (y : Sym) (i j : Nat) : Option Val := if i ≤ j ∧ j ≤ n then leafR c w y i j else none
def emC (i j : Nat) : Option Val := if i ≤ j ∧ j ≤ n then emR c i j else none
def Good (v : Val) (i j : Nat) : Prop := Wf v ∧ v.n ≤ v.c + (j - i) ∧ ∀ t ∈ v.w, 0 ≤ t ∧ t < (tm : Int)
def DrE (y : Sym) (i j : Nat) (v : Val) : Prop := ∃ h, Dr K (leafC c w n) (emC c n) h y i j v
def CF (T : Tb) : Prop := ∀ A x y v, T A x y = some v → x ≤ y ∧ y ≤ n ∧ 0 ≤ A ∧ A < (N : Int) ∧ Good tm v x y ∧ DrE c w n K ⟨false, A⟩ x y v
/-- what is known of the rules -/
def KOk : Prop := ∀ r ∈ K, 0 ≤ r.left ∧ r.left < (N : Int) ∧ r.right.length ≤ 4 ∧ ∀ s ∈ r.right, okS N tm s
end
section
variable {c : Co} {w : List Int} {n N tm : Nat} {K : List Rule}
theorem good_thn {a b : Val} {i m j : Nat} (ha : Good tm a i m) (hb : Good tm b m j) (h1 : i ≤ m) (h2 : m ≤ j) : Good tm (thn a b) i j := by
  obtain ⟨a1, a2, a3⟩ := ha
  obtain ⟨b1, b2, b3⟩ := hb
  refine ⟨wf_thn a1 b1, ?_, ?_⟩
  · show a.n + b.n ≤ a.c + b.c + (j - i)
    omega
  · rw [thn_w]
    split
    · intro t ht
      rcases List.mem_append.1 ht with ht | ht
      · exact a3 t ht
      · exact b3 t ht
    · intro t ht; cases ht
theorem good_zero (i : Nat) : Good tm zero i i := ⟨wf_zero, Nat.zero_le _, fun t ht => by cases ht⟩
theorem row_ex {leaf : Sym → Nat → Nat → Option Val} {em : Nat → Nat → Option Val} : ∀ {l : List Sym} {i j : Nat} {v : Val}, Row (fun s i j v => ∃ h, Dr K leaf em h s i j v) l i j v → ∃ h, Row (Dr K leaf em h) l i j v
  | [], _, _, _, h => h.elim
  | [s], _, _, _, ⟨h, hd⟩ => ⟨h, hd⟩
  | s :: t :: l, i, j, v, ⟨m, a, b, h1, h2, ⟨ha, hda⟩, hb, e⟩ => by
    obtain ⟨k, hk⟩ := row_ex hb
    exact ⟨max ha k, m, a, b, h1, h2, dr_le (Nat.le_max_left _ _) hda, hk.mono (fun _ _ _ _ => dr_le (Nat.le_max_right _ _)), e⟩
theorem good_row0 {V : Sym → Nat → Nat → Option Val} : ∀ {l : List Sym} {i j : Nat} {v : Val}, (∀ s ∈ l, ∀ i j v, i ≤ j → j ≤ n → V s i j = some v → Good tm v i j) → Row0 (VP V n) l i j v → Good tm v i j
  | [], i, j, v, _, h => by obtain ⟨rfl, rfl⟩ := h; exact good_zero i
  | s :: l, i, j, v, hV, ⟨m, a, b, h1, h2, h3, h4, e⟩ => by
    subst e
    exact good_thn (hV s (by simp) i m a h3.1 h3.2.1 h3.2.2) (good_row0 (fun s hs => hV s (by simp [hs])) h4) h1 h2
theorem row_mem {P Q : Sym → Nat → Nat → Val → Prop} : ∀ {l : List Sym} {i j : Nat} {v : Val}, (∀ s ∈ l, ∀ i j v, P s i j v → Q s i j v) → Row P l i j v → Row Q l i j v
  | [], _, _, _, _, h => h.elim
  | [s], _, _, _, hPQ, h => hPQ s (by simp) _ _ _ h
  | s :: t :: l, _, _, _, hPQ, ⟨m, a, b, h1, h2, h3, h4, e⟩ => ⟨m, a, b, h1, h2, hPQ s (by simp) _ _ _ h3, row_mem (fun s hs => hPQ s (by simp [List.mem_cons] at hs ⊢; exact .inr hs)) h4, e⟩
theorem cf_upd (hK : KOk N tm K) {T : Tb} (h : CF c w n N tm K T) {r : Rule} (hr : r ∈ K) {i j : Nat} (hij : i ≤ j) (hj : j ≤ n) {v : Val} (hg : Good tm v i j ∧ DrE c w n K ⟨false, r.left⟩ i j v) : CF c w n N tm K (upd T r.left i j (some v)) := by
  intro A x y u e
  unfold upd at e
  split at e
  · rename_i e2
    obtain ⟨rfl, rfl, rfl⟩ := e2
    cases e
    obtain ⟨h1, h2, _, _⟩ := hK r hr
    exact ⟨hij, hj, h1, h2, hg⟩
  · exact h A x y u e
end
end Rp
end Go.Proofs.Ytjpmebppdcclbaa
namespace Go.Proofs.Ytjpmebppdcclbaa
namespace Rp

def Mf : Nat → Nat
  | 0 => 1300
  | f + 1 => 4 * Mf f + 1300
section
variable (n N : Nat)
def AN (T : Tb) (a : Nat) : Prop := ∀ x y, x ≤ y → y ≤ n → T (a : Int) x y = none
def AS (T : Tb) (a m : Nat) : Prop := ∀ x y, x ≤ y → y ≤ n → ∃ v, T (a : Int) x y = some v ∧ v.c ≤ m
/-- F: the found ones -/
def FOk (F : List Nat) : Prop := F.Nodup ∧ ∀ a ∈ F, a < N
def GS (F : List Nat) (T : Tb) : Prop := FOk N F ∧ ∀ a, a < N → (a ∈ F → AS n T a (Mf F.length)) ∧ (a ∉ F → AN n T a)
def blk (F : List Nat) (r : Rule) : Prop := ∃ s ∈ r.right, s.term = false ∧ s.n.toNat ∉ F
structure NEW (F : List Nat) (r : Rule) (la : Nat) (vis : Nat → Nat → Prop) (T : Tb) : Prop where
  fok : FOk N F
  no : la ∉ F
  old : ∀ a, a < N → a ≠ la → (a ∈ F → AS n T a (Mf F.length)) ∧ (a ∉ F → AN n T a)
  rt : ∀ s ∈ r.right, s.term = false → s.n.toNat ∈ F
  yes : ∀ x y, x ≤ y → y ≤ n → vis x y → ∃ v, T (la : Int) x y = some v ∧ v.c ≤ Mf (F.length + 1)
  non : ∀ x y, x ≤ y → y ≤ n → ¬ vis x y → T (la : Int) x y = none
/-- while the rule r is being applied -/
def RS (r : Rule) (la : Nat) (vis : Nat → Nat → Prop) (T : Tb) : Prop := ∃ F, (GS n N F T ∧ (la ∈ F ∨ blk F r)) ∨ NEW n N F r la vis T
end
section
variable {c : Co} {w : List Int} {n N tm : Nat} {K : List Rule}
end
end Rp
end Go.Proofs.Ytjpmebppdcclbaa
namespace Go.Proofs.Ytjpmebppdcclbaa
namespace Rp

section
variable {c : Co} {w : List Int} {n N tm : Nat} {K : List Rule}
theorem RS.congr {r : Rule} {la : Nat} {vis vis' : Nat → Nat → Prop} {T : Tb} (hv : ∀ x y, x ≤ y → y ≤ n → (vis x y ↔ vis' x y)) (h : RS n N r la vis T) : RS n N r la vis' T := by
  obtain ⟨F, h | h⟩ := h
  · exact ⟨F, .inl h⟩
  · exact ⟨F, .inr ⟨h.fok, h.no, h.old, h.rt, fun x y h1 h2 h3 => h.yes x y h1 h2 ((hv x y h1 h2).2 h3), fun x y h1 h2 h3 => h.non x y h1 h2 (fun h4 => h3 ((hv x y h1 h2).1 h4))⟩⟩
theorem symF_lt {V : Sym → Nat → Nat → Option Val} {s : Sym} {at' : Nat → Option Val} {i j : Nat} (h : j < i) : ∀ m, symF V s at' i m j = none
  | 0 => rfl
  | m + 1 => by
    show stepK V s at' (i + m) (symF V s at' i m) j = none
    rw [stepK_lt (by omega)]
    exact symF_lt h m
theorem foldF_lt {V : Sym → Nat → Nat → Option Val} {i n j : Nat} (h : j < i) : ∀ (l : List Sym) (at' : Nat → Option Val), at' j = none → foldF V i n l at' j = none
  | [], _, e => e
  | s :: l, at', _ => foldF_lt h l _ (symF_lt h _)
end
end Rp
end Go.Proofs.Ytjpmebppdcclbaa
namespace Go.Proofs.Ytjpmebppdcclbaa
namespace Rp

section
variable {c : Co} {w : List Int} {n N tm : Nat} {K : List Rule}
theorem row_bnd {V : Sym → Nat → Nat → Option Val} : ∀ {l : List Sym} {i j : Nat} {v : Val}, Row (VP V n) l i j v → i ≤ j ∧ j ≤ n
  | [], _, _, _, h => h.elim
  | [s], i, j, v, h => ⟨h.1, h.2.1⟩
  | s :: t :: l, i, j, v, ⟨m, a, b, h1, h2, h3, h4, _⟩ => ⟨by omega, (row_bnd h4).2⟩
theorem not_better {T : Tb} (hw : ∀ A x y, WfO (T A x y)) {A : Int} {i j : Nat} {b : Val} (hwb : Wf b) (hb : lessB (some b) (T A i j) = false) : ∃ u, T A i j = some u ∧ le u b := by
  cases e : T A i j with
  | none => rw [e] at hb; cases hb
  | some u =>
    refine ⟨u, rfl, le_of_not (fun hlt => ?_)⟩
    rw [e] at hb
    have := (less_some hwb (hw _ _ _ _ e)).2 hlt
    rw [this] at hb
    cases hb
end
end Rp
end Go.Proofs.Ytjpmebppdcclbaa
namespace Go.Proofs.Ytjpmebppdcclbaa
namespace Rp

def pK : List Rule := [⟨0, [⟨true, 0⟩, ⟨false, 0⟩, ⟨true, 1⟩]⟩, ⟨0, [⟨true, 0⟩, ⟨true, 1⟩]⟩]
end Rp
end Go.Proofs.Ytjpmebppdcclbaa
namespace Go.Proofs.Ytjpmebppdcclbaa
namespace Hl
open Rp

def pL : List Sym := [⟨true, -1⟩, ⟨true, -1⟩, ⟨true, 1⟩, ⟨true, -1⟩]
/-- the least words -/
def pV0 (y : Sym) (i j : Nat) : Option Val := if y.term then leafS y i j else if y.n = 0 then some ⟨0, 2, [0, 1]⟩ else none
def pSv (y : Sym) : Option Val := pV0 y 0 0
def pTab : Nat → Nat → Option Val
  | 0, 2 => some ⟨0, 2, [0, 1]⟩
  | 1, 3 => some ⟨0, 2, [0, 1]⟩
  | 0, 4 => some ⟨0, 4, [0, 0, 1, 1]⟩
  | _, _ => none
def pV4 (y : Sym) (i j : Nat) : Option Val := if y.term then leafH pSv pL y i j else if y.n = 0 then pTab i j else none
theorem pKG : KG 1 pK (okS 1 2) := by
  intro r hr
  simp only [pK, List.mem_cons, List.not_mem_nil, or_false] at hr
  rcases hr with rfl | rfl
  · refine ⟨by decide, by decide, fun s hs => ?_⟩
    simp only [List.mem_cons, List.not_mem_nil, or_false] at hs
    rcases hs with rfl | rfl | rfl <;> exact ⟨by decide, by decide, by decide⟩
  · refine ⟨by decide, by decide, fun s hs => ?_⟩
    simp only [List.mem_cons, List.not_mem_nil, or_false] at hs
    rcases hs with rfl | rfl <;> exact ⟨by decide, by decide, by decide⟩
theorem pV0_none {y : Sym} {i j : Nat} {v : Val} (e : pV0 y i j = some v) : (y.term = true ∧ v = ⟨0, 1, [y.n]⟩) ∨ (y = ⟨false, 0⟩ ∧ v = ⟨0, 2, [0, 1]⟩) := by
  unfold pV0 at e
  by_cases ht : y.term = true
  · rw [if_pos ht] at e
    unfold leafS at e
    rw [if_pos ht] at e
    cases e
    exact .inl ⟨ht, rfl⟩
  · rw [if_neg ht] at e
    split at e
    · rename_i h
      cases e
      refine .inr ⟨?_, rfl⟩
      obtain ⟨a, b⟩ := y
      simp at ht h
      rw [ht, h]
    · cases e
theorem pVO0 : VO leafS emS 0 pK (okS 1 2) (GS 2) pV0 := by
  refine ⟨fun s i j v e => ?_, fun s i j v hij hj e => ?_⟩
  · rcases pV0_none e with ⟨_, rfl⟩ | ⟨_, rfl⟩
    · exact .inl ⟨by simp [maxL], rfl⟩
    · exact .inl ⟨by simp [maxL], rfl⟩
  · obtain rfl : j = 0 := by omega
    obtain rfl : i = 0 := by omega
    rcases pV0_none e with ⟨ht, rfl⟩ | ⟨rfl, rfl⟩
    · refine ⟨⟨0, ?_⟩, fun hs => ⟨.inl ⟨by simp [maxL], rfl⟩, rfl, fun t h => ?_⟩⟩
      · show clL leafS 0 s 0 0 = _
        unfold clL leafS
        rw [if_pos ⟨Nat.le_refl _, Nat.le_refl _⟩, if_pos ht]
      · simp at h
        subst h
        exact ⟨hs.1, hs.2.1 ht⟩
    · refine ⟨⟨1, .inr ⟨rfl, ⟨0, [⟨true, 0⟩, ⟨true, 1⟩]⟩, by simp [pK], rfl, .inr ?_⟩⟩, fun _ => ⟨.inl ⟨by simp [maxL], rfl⟩, rfl, fun t h => ?_⟩⟩
      · exact ⟨0, ⟨0, 1, [0]⟩, ⟨0, 1, [1]⟩, Nat.le_refl _, Nat.le_refl _, rfl, rfl, rfl⟩
      · simp at h
        rcases h with rfl | rfl <;> decide
theorem pCl0 : Closed pK (clL leafS 0) (clE emS 0) (clV 0 pV0) := by
  refine cl_closed (gokS 1 2) pVO0.1 (fun y i j v _ _ e => ⟨v, ?_, le_refl _⟩) (fun r hr i j v hij hj e => ?_)
  · unfold pV0
    by_cases ht : y.term = true
    · rw [if_pos ht]; exact e
    · unfold leafS at e; rw [if_neg ht] at e; cases e
  · obtain rfl : j = 0 := by omega
    obtain rfl : i = 0 := by omega
    have hb : lessB (rvV emS pV0 r 0 0) (pV0 ⟨false, r.left⟩ 0 0) = false := by
      simp only [pK, List.mem_cons, List.not_mem_nil, or_false] at hr
      rcases hr with rfl | rfl <;> kernel_rfl
    rw [e] at hb
    exact not_better (pVO0.1 _ _ _) (rv_wf (gokS 1 2) pVO0.1 r (Nat.le_refl 0) (Nat.le_refl 0) v e) hb
theorem pSvOk : SvOk 1 2 1048576 pSv := by
  refine ⟨fun y => pVO0.1 y 0 0, fun y v e => ?_, fun y ht => ?_, fun y v hy e => ?_, fun y => ?_⟩
  · rcases pV0_none e with ⟨_, rfl⟩ | ⟨_, rfl⟩ <;> rfl
  · unfold pSv pV0 leafS
    rw [if_pos ht, if_pos ht]
  · exact ((pVO0.2 y 0 0 v (Nat.le_refl _) (Nat.le_refl _) e).2 hy).2.2
  · cases e : pSv y with
    | none => exact Nat.zero_le _
    | some v =>
      rcases pV0_none e with ⟨_, rfl⟩ | ⟨_, rfl⟩
      · show 1 ≤ _; omega
      · show 2 ≤ _; omega
theorem pV4_some {y : Sym} {i j : Nat} {v : Val} (e : pV4 y i j = some v) : (y.term = true ∧ leafH pSv pL y i j = some v) ∨ (y = ⟨false, 0⟩ ∧ ((i = 0 ∧ j = 2 ∧ v = ⟨0, 2, [0, 1]⟩) ∨ (i = 1 ∧ j = 3 ∧ v = ⟨0, 2, [0, 1]⟩) ∨ (i = 0 ∧ j = 4 ∧ v = ⟨0, 4, [0, 0, 1, 1]⟩))) := by
  unfold pV4 at e
  by_cases ht : y.term = true
  · rw [if_pos ht] at e
    exact .inl ⟨ht, e⟩
  · rw [if_neg ht] at e
    split at e
    · rename_i h
      refine .inr ⟨?_, ?_⟩
      · obtain ⟨a, b⟩ := y
        simp at ht h
        rw [ht, h]
      · unfold pTab at e
        split at e
        · cases e; exact .inl ⟨rfl, rfl, rfl⟩
        · cases e; exact .inr (.inl ⟨rfl, rfl, rfl⟩)
        · cases e; exact .inr (.inr ⟨rfl, rfl, rfl⟩)
        · cases e
    · cases e
theorem pVO4 : VO (leafH pSv pL) emH 4 pK (okS 1 2) (GH pSv pL 2) pV4 := by
  have g : GOk (leafH pSv pL) emH 4 (okS 1 2) (GH pSv pL 2) := gokH (l := pL) pSvOk
  have lt : ∀ t ∈ [(0 : Int), 1], 0 ≤ t ∧ t < ((2 : Nat) : Int) := by decide
  have lt4 : ∀ t ∈ [(0 : Int), 0, 1, 1], 0 ≤ t ∧ t < ((2 : Nat) : Int) := by decide
  refine ⟨fun s i j v e => ?_, fun s i j v hij hj e => ?_⟩
  · rcases pV4_some e with ⟨_, h⟩ | ⟨_, ⟨_, _, rfl⟩ | ⟨_, _, rfl⟩ | ⟨_, _, rfl⟩⟩
    · exact g.lwf s i j v h
    · exact .inl ⟨by simp [maxL], rfl⟩
    · exact .inl ⟨by simp [maxL], rfl⟩
    · exact .inl ⟨by simp [maxL], rfl⟩
  · have d2 : ∀ i j, (i = 0 ∧ j = 2) ∨ (i = 1 ∧ j = 3) → Dr pK (clL (leafH pSv pL) 4) (clE emH 4) 1 ⟨false, 0⟩ i j ⟨0, 2, [0, 1]⟩ := by
      intro i j h
      refine .inr ⟨rfl, ⟨0, [⟨true, 0⟩, ⟨true, 1⟩]⟩, by simp [pK], rfl, .inr ?_⟩
      rcases h with ⟨rfl, rfl⟩ | ⟨rfl, rfl⟩
      · exact ⟨1, ⟨0, 1, [0]⟩, ⟨0, 1, [1]⟩, by omega, by omega, rfl, rfl, rfl⟩
      · exact ⟨2, ⟨0, 1, [0]⟩, ⟨0, 1, [1]⟩, by omega, by omega, rfl, rfl, rfl⟩
    rcases pV4_some e with ⟨_, h⟩ | ⟨rfl, ⟨rfl, rfl, rfl⟩ | ⟨rfl, rfl, rfl⟩ | ⟨rfl, rfl, rfl⟩⟩
    · refine ⟨⟨0, ?_⟩, fun hs => g.leaf s i j v hs hij hj h⟩
      show clL (leafH pSv pL) 4 s i j = some v
      unfold clL
      rw [if_pos ⟨hij, hj⟩]; exact h
    · exact ⟨⟨1, d2 0 2 (.inl ⟨rfl, rfl⟩)⟩, fun _ => ⟨.inl ⟨by simp [maxL], rfl⟩, rfl, rfl, lt⟩⟩
    · exact ⟨⟨1, d2 1 3 (.inr ⟨rfl, rfl⟩)⟩, fun _ => ⟨.inl ⟨by simp [maxL], rfl⟩, rfl, rfl, lt⟩⟩
    · refine ⟨⟨2, .inr ⟨rfl, ⟨0, [⟨true, 0⟩, ⟨false, 0⟩, ⟨true, 1⟩]⟩, by simp [pK], rfl, .inr ?_⟩⟩, fun _ => ⟨.inl ⟨by simp [maxL], rfl⟩, rfl, rfl, lt4⟩⟩
      refine ⟨1, ⟨0, 1, [0]⟩, ⟨0, 3, [0, 1, 1]⟩, by omega, by omega, .inl rfl, ⟨3, ⟨0, 2, [0, 1]⟩, ⟨0, 1, [1]⟩, by omega, by omega, d2 1 3 (.inr ⟨rfl, rfl⟩), .inl rfl, rfl⟩, rfl⟩
def pChk4 : Bool := pK.all fun r => (List.range 5).all fun i => (List.range 5).all fun j => !decide (i ≤ j) || !lessB (rvV emH pV4 r i j) (pV4 ⟨false, r.left⟩ i j)
theorem pChk4_ok : pChk4 = true := by kernel_rfl
theorem pCl4 : Closed pK (clL (leafH pSv pL) 4) (clE emH 4) (clV 4 pV4) := by
  have g : GOk (leafH pSv pL) emH 4 (okS 1 2) (GH pSv pL 2) := gokH (l := pL) pSvOk
  refine cl_closed g pVO4.1 (fun y i j v _ _ e => ⟨v, ?_, le_refl _⟩) (fun r hr i j v hij hj e => ?_)
  · unfold pV4
    by_cases ht : y.term = true
    · rw [if_pos ht]; exact e
    · exfalso
      unfold leafH at e
      split at e
      · rename_i h
        obtain ⟨_, hf, hi⟩ := h
        have hc : (pL.getD i ⟨true, 0⟩).term = true := by
          have hi' : i < 4 := hi
          match i, hi' with
          | 0, _ => rfl
          | 1, _ => rfl
          | 2, _ => rfl
          | 3, _ => rfl
        unfold fitB at hf
        simp only [Bool.or_eq_true, Bool.and_eq_true, decide_eq_true_eq] at hf
        rcases hf with hf | hf
        · rw [← hf] at hc; exact ht hc
        · exact ht hf.1.1
      · cases e
  · have h := pChk4_ok
    unfold pChk4 at h
    have h1 := List.all_eq_true.1 h r hr
    have h2 := List.all_eq_true.1 h1 i (List.mem_range.2 (by omega))
    have h3 := List.all_eq_true.1 h2 j (List.mem_range.2 (by omega))
    rw [show decide (i ≤ j) = true by simpa using hij] at h3
    have hb : lessB (rvV emH pV4 r i j) (pV4 ⟨false, r.left⟩ i j) = false := by simpa using h3
    rw [e] at hb
    exact not_better (pVO4.1 _ _ _) (rv_wf g pVO4.1 r hij hj v e) hb
theorem pVal : cvOf pSv pL pK 1 2 ⟨false, ((0 : Nat) : Int)⟩ 0 pL.length = some ⟨0, 4, [0, 0, 1, 1]⟩ := by
  have := oneV_eq (n := 4) (gokH (l := pL) pSvOk) pVO4 pCl4 ⟨false, 0⟩ (Nat.zero_le 4) (Nat.le_refl 4)
  have e : pV4 ⟨false, 0⟩ 0 4 = some ⟨0, 4, [0, 0, 1, 1]⟩ := rfl
  rw [e] at this
  exact this.symm
end Hl
end Go.Proofs.Ytjpmebppdcclbaa
namespace Go.Proofs.Ytjpmebppdcclbaa
open Go.RowKit

structure DRel (w : World) (c0 c1 c2 : Int) (bt n m : Nat) (D : Nat → Nat → Int) (k : Nat) (wr : World) : Prop where
  tab : ∃ rb, Tab (w.heap.size + 1) bt n m rb k D wr
  bel : Below w.heap.size w wr
  box : wr.heap[w.heap.size]? = some (.cells #[.int .i64 c0, .int .i64 c1, .int .i64 c2] 26 (0, 0))
structure ERel (w : World) (c0 c1 c2 : Int) (bt n m : Nat) (D : Nat → Nat → Int) (i q : Nat) (wr : World) : Prop where
  tab : ∃ rb val, Tab (w.heap.size + 1) bt n m rb i val wr ∧ (∀ a j, i < a → a ≤ n → j ≤ m → val a j = D a j) ∧ ∀ j, q ≤ j → j ≤ m → val i j = D i j
  bel : Below w.heap.size w wr
  box : wr.heap[w.heap.size]? = some (.cells #[.int .i64 c0, .int .i64 c1, .int .i64 c2] 26 (0, 0))
/-- one number more -/
theorem ERel.next {w : World} {c0 c1 c2 : Int} {bt n m : Nat} {D : Nat → Nat → Int} {i j : Nat} {wr : World} {rb : Nat → Nat} {val : Nat → Nat → Int} (ht : Tab (w.heap.size + 1) bt n m rb i val wr) (h1 : ∀ a j, i < a → a ≤ n → j ≤ m → val a j = D a j) (h2 : ∀ l, j + 1 ≤ l → l ≤ m → val i l = D i l)
    (hb : Below w.heap.size w wr) (hx : wr.heap[w.heap.size]? = some (.cells #[.int .i64 c0, .int .i64 c1, .int .i64 c2] 26 (0, 0))) (hi : i ≤ n) (hj : j ≤ m) {x : Int} (he : x = D i j) : ERel w c0 c1 c2 bt n m D i j (wr.setCell ⟨rb i, j, none⟩ (.int .i64 x)) := by
  have hne := ht.ne i (Nat.le_refl _) hi
  refine ⟨⟨rb, _, ht.set (Nat.le_refl _) hi hj x, fun a l ha hn hl => ?_, fun l hl hm => ?_⟩, hb.setCell (by simp; omega) _, bx_other hx (by omega) _ _⟩
  · simp only [show ¬ (a = i ∧ l = j) from fun h => by omega, if_false]; exact h1 a l ha hn hl
  · by_cases e : l = j
    · subst e; simp [he]
    · simp only [e, and_false, if_false]; exact h2 l (by omega) hm

end Go.Proofs.Ytjpmebppdcclbaa
namespace Go.Proofs.Ytjpmebppdcclbaa
open Go.RowKit
namespace Al

def Op.d (o : Op) : D := .agg [.int o.kind, .int o.at', .int o.term]
theorem Rd.op {S : Nat → Prop} {w : World} {o : Op} {cs : List Value} (h : Rd S w o.d cs) : cs = [.int .i64 o.kind, .int .i64 o.at', .int .i64 o.term] := by
  obtain ⟨c1, c2, rfl, h1, c3, c4, rfl, h2, h3⟩ := h
  rw [RdAll.one_iff] at h3
  simp [Rd] at h1 h2 h3
  subst h1 h2 h3
  rfl
section
variable {c0 c1 c2 : Int} {l r : List Int} {i j : Nat}
end
end Al
end Go.Proofs.Ytjpmebppdcclbaa
namespace Go.Proofs.Ytjpmebppdcclbaa
open Go.RowKit
namespace Rp
open Al

end Rp
end Go.Proofs.Ytjpmebppdcclbaa
namespace Go.Proofs.Ytjpmebppdcclbaa
open Go.RowKit
namespace Rp
open Al

theorem CM.setb {cb : Nat} {gt gn gs : Int} {gr bv : Value} {c : Co} {w : List Int} {W : World} (h : CM cb gt gn gs gr bv c w W) (bv' : Value) : CM cb gt gn gs gr bv' c w (W.setCell ⟨cb, 0 + 8, none⟩ bv') := by
  obtain ⟨wa, wk, h1, h2⟩ := h.box
  refine ⟨wa, wk, ?_, rd_grown h2 (grown_cell W ⟨cb, 0 + 8, none⟩ bv') (fun k e h => by cases e; exact Nat.lt_irrefl _ h)⟩
  have := bx_set h1 (0 + 8) bv'
  simpa using this
/-- the table while it is made: a nonterminals have their rows -/
structure BU (W : World) (gt : Int) (N st : Nat) (gr : Value) (cb : Nat) (c : Co) (w : List Int) (n1 a : Nat) (ra : Nat → Nat) (bv : Value) (wr : World) : Prop where
  bel : Below W.heap.size W wr
  gbox : wr.heap[W.heap.size]? = some (.cells #[.int .i64 gt, .int .i64 (N : Int), .int .i64 (st : Int), gr] 24 (0, 0))
  cm : CM cb gt N st gr bv c w wr
  own : wr.ownsRow (cb + 1) 66 1 bv a ((List.range a).map fun k => .slice (some ⟨ra k, 0, none⟩) n1 n1)
  mid : ∀ a', a' < a → ∀ i, i < n1 → wr.cell? ⟨ra a', i, none⟩ = some (.slice (some ⟨ra a' + 1 + i, 0, none⟩) n1 n1)
  row : ∀ a', a' < a → ∀ i, i < n1 → WRow (fun _ => False) (ra a' + 1 + i) n1 (fun _ => none) wr
  lb : ∀ a', a' < a → cb < ra a' ∧ ra a' + n1 < wr.heap.size
  sep : ∀ a' a'', a' < a'' → a'' < a → ra a' + n1 < ra a''
  ob : ∀ k, bv.ownBlock = some k → ∀ a', a' < a → k < ra a' ∨ ra a' + n1 < k
theorem BU.keep {W : World} {gt : Int} {N st : Nat} {gr : Value} {cb : Nat} {c : Co} {w : List Int} {n1 a : Nat} {ra : Nat → Nat} {bv : Value} {wr w' : World} (h : BU W gt N st gr cb c w n1 a ra bv wr) (hb : Below wr.heap.size wr w') : BU W gt N st gr cb c w n1 a ra bv w' :=
  ⟨h.bel.trans (hb.mono h.bel.size), bx_keep h.gbox hb, h.cm.keep hb, own_keep h.own hb, fun a' ha i hi => (hb.cell (p := ⟨ra a', i, none⟩) (lt_of_cell (h.mid a' ha i hi))).trans (h.mid a' ha i hi), fun a' ha i hi => (h.row a' ha i hi).keep hb, fun a' ha => ⟨(h.lb a' ha).1, Nat.lt_of_lt_of_le (h.lb a' ha).2 hb.size⟩, h.sep, h.ob⟩
/-- rows of one nonterminal while they are made -/
structure RU (n1 R i : Nat) (wr : World) : Prop where
  sz : wr.heap.size = R + 1 + i
  rows : Vrow 67 R n1 (fun x => if x < i then .slice (some ⟨R + 1 + x, 0, none⟩) n1 n1 else .slice none 0 0) wr
  row : ∀ x, x < i → WRow (fun _ => False) (R + 1 + x) n1 (fun _ => none) wr
theorem RU.step {n1 R i : Nat} {wr : World} (h : RU n1 R i wr) (hi : i < n1) : RU n1 R (i + 1) ((wr.alloc (.cells (madeCells #[.int .i64 0, .int .i64 0, .slice none 0 0, .bool false] (n1 * 4)) 72)).setCell ⟨R, i, none⟩ (.slice (some ⟨R + 1 + i, 0, none⟩) n1 n1)) := by
  have hal : Below wr.heap.size wr (wr.alloc (.cells (madeCells #[.int .i64 0, .int .i64 0, .slice none 0 0, .bool false] (n1 * 4)) 72)) := (Below.refl _ _).alloc (Nat.le_refl _) _
  have hg := grown_cell (wr.alloc (.cells (madeCells #[.int .i64 0, .int .i64 0, .slice none 0 0, .bool false] (n1 * 4)) 72)) ⟨R, i, none⟩ (.slice (some ⟨R + 1 + i, 0, none⟩) n1 n1)
  refine ⟨?_, (h.rows.keep hal).set hi (fun k hk => ?_), fun x hx => ?_⟩
  · simp [World.setCell, h.sz]; omega
  · by_cases e : k = i
    · rw [if_pos e, e, if_pos (by omega)]
    · rw [if_neg e]
      by_cases h2 : k < i
      · rw [if_pos h2, if_pos (by omega)]
      · rw [if_neg h2, if_neg (by omega)]
  · by_cases e : x = i
    · subst e
      exact (wrow_new _ wr n1 h.sz.symm).grown hg (by simp; omega) (fun _ _ h => h)
    · exact ((h.row x (by omega)).keep hal).grown hg (by simp; omega) (fun _ _ h => h)
theorem BU.app {W : World} {gt : Int} {N st : Nat} {gr : Value} {cb : Nat} {c : Co} {w : List Int} {n1 a : Nat} {ra : Nat → Nat} {bv : Value} {w5 w7 wz : World} (h : BU W gt N st gr cb c w n1 a ra bv w5) (hb : Below w5.heap.size w5 w7) (hr : RU n1 w5.heap.size n1 w7) {v' : Value}
    (hoz : wz.ownsRow (cb + 1) 66 1 v' (a + 1) (((List.range a).map fun k => .slice (some ⟨ra k, 0, none⟩) n1 n1) ++ [.slice (some ⟨w5.heap.size, 0, none⟩) n1 n1])) (hgz : w7.grownBy wz bv.ownBlock) (hat : v'.ownBlock = bv.ownBlock ∨ ∃ k, v'.ownBlock = some k ∧ w7.heap.size ≤ k) (hWcb : W.heap.size < cb) :
    BU W gt N st gr cb c w n1 (a + 1) (fun k => if k = a then w5.heap.size else ra k) v' (wz.setCell ⟨cb, 0 + 8, none⟩ v') := by
  have h7 := h.keep hb
  have hg2 := grown_cell wz ⟨cb, 0 + 8, none⟩ v'
  have hcb5 : cb < w5.heap.size := h.cm.lt
  have hs7 := hr.sz
  have hsz := hgz.size
  have hk : ∀ k, bv.ownBlock = some k → cb < k ∧ k < w5.heap.size := fun k e => by have := h.own.lt k e; omega
  have hkn : ∀ b, w5.heap.size ≤ b → bv.ownBlock ≠ some b := fun b hb e => by have := hk b e; omega
  have hra : ∀ a', a' < a → (fun k => if k = a then w5.heap.size else ra k) a' = ra a' := fun a' ha => by simp; omega
  have hko : ∀ a', a' < a → ∀ i, i ≤ n1 → bv.ownBlock ≠ some (ra a' + i) := fun a' ha i hi e => by have := h.ob _ e a' ha; omega
  refine ⟨(h7.bel.grown hgz h7.bel.size (fun k e => by have := hk k e; omega)).grown hg2 ?_ (fun k e => by cases e; show W.heap.size ≤ cb; omega), ?_, ?_, ?_, ?_, ?_, ?_, ?_, ?_⟩
  · have := h7.bel.size; omega
  · have h1 := (hgz.block _ (Array.getElem?_eq_some_iff.1 h7.gbox).1 (fun e => by have := hk _ e.symm; omega)).trans h7.gbox
    exact (hg2.block _ (Array.getElem?_eq_some_iff.1 h1).1 (by simp; omega)).trans h1
  · exact (h7.cm.grown hgz (fun k e => (hk k e).1)).setb v'
  · have e : ((List.range (a + 1)).map fun k => Value.slice (some ⟨(fun k => if k = a then w5.heap.size else ra k) k, 0, none⟩) n1 n1) = ((List.range a).map fun k => .slice (some ⟨ra k, 0, none⟩) n1 n1) ++ [.slice (some ⟨w5.heap.size, 0, none⟩) n1 n1] := by
      rw [List.range_succ, List.map_append]
      congr 1
      · refine List.map_congr_left fun k hk => ?_
        have := List.mem_range.1 hk
        simp; omega
      · simp
    rw [e]
    exact hoz.kept hg2 (.inr (fun e3 => by have h4 : v'.ownBlock = some cb := e3; have := (hoz.lt cb h4).1; omega))
  · intro a' ha' i hi
    by_cases e : a' = a
    · subst e
      simp only [if_true]
      have h1 := (hr.rows.grown hgz (hkn _ (Nat.le_refl _))).cell hi
      rw [if_pos hi] at h1
      exact cell_grown h1 hg2 (by simp; omega)
    · have ha : a' < a := by omega
      rw [show (if a' = a then w5.heap.size else ra a') = ra a' from if_neg e]
      have h1 := cell_grown (h7.mid a' ha i hi) hgz (by have := hko a' ha 0 (by omega); simpa using this)
      exact cell_grown h1 hg2 (by have := (h.lb a' ha).1; simp; omega)
  · intro a' ha' i hi
    by_cases e : a' = a
    · subst e
      simp only [if_true]
      exact ((hr.row i hi).grown hgz (hkn _ (by omega)) (fun _ _ h => h)).grown hg2 (by simp; omega) (fun _ _ h => h)
    · have ha : a' < a := by omega
      rw [show (if a' = a then w5.heap.size else ra a') = ra a' from if_neg e]
      exact ((h7.row a' ha i hi).grown hgz (by have := hko a' ha (1 + i) (by omega); rw [show ra a' + (1 + i) = ra a' + 1 + i by omega] at this; exact this) (fun _ _ h => h)).grown hg2 (by have := (h.lb a' ha).1; simp; omega) (fun _ _ h => h)
  · intro a' ha'
    have hs2 := hg2.size
    by_cases e : a' = a
    · rw [show (if a' = a then w5.heap.size else ra a') = w5.heap.size from if_pos e]
      exact ⟨hcb5, by omega⟩
    · rw [show (if a' = a then w5.heap.size else ra a') = ra a' from if_neg e]
      have := h7.lb a' (by omega)
      exact ⟨this.1, by omega⟩
  · intro a' a'' h1 h2
    rw [show (if a' = a then w5.heap.size else ra a') = ra a' from if_neg (by omega)]
    by_cases e : a'' = a
    · rw [show (if a'' = a then w5.heap.size else ra a'') = w5.heap.size from if_pos e]
      exact (h.lb a' (by omega)).2
    · rw [show (if a'' = a then w5.heap.size else ra a'') = ra a'' from if_neg e]
      exact h.sep a' a'' h1 (by omega)
  · intro k e a' ha'
    rcases hat with h1 | ⟨k', h1, h2⟩
    · rw [h1] at e
      by_cases e2 : a' = a
      · rw [show (if a' = a then w5.heap.size else ra a') = w5.heap.size from if_pos e2]
        exact .inl (hk k e).2
      · rw [show (if a' = a then w5.heap.size else ra a') = ra a' from if_neg e2]
        exact h.ob k e a' (by omega)
    · rw [h1] at e
      cases e
      by_cases e2 : a' = a
      · rw [show (if a' = a then w5.heap.size else ra a') = w5.heap.size from if_pos e2]
        exact .inr (by omega)
      · rw [show (if a' = a then w5.heap.size else ra a') = ra a' from if_neg e2]
        have := (h7.lb a' (by omega)).2
        exact .inr (by omega)
end Rp
end Go.Proofs.Ytjpmebppdcclbaa
