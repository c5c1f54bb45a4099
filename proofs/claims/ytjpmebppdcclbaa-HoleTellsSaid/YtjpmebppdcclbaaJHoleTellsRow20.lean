/- For every input the law HoleTells returns true, and its arguments read afterwards as before. No condition. -/
import Derived.Test.YtjpmebppdcclbaaJHoleTellsRow19
import Derived.Test.YtjpmebppdcclbaaRows
import Derived.Test.YtjpmebppdcclbaaJHoleTellsRow1
import Derived.ChangeArms
import Derived.ChangeSame
import Derived.SizedLaws
import Derived.Deep.Slices
import Derived.Test.YtjpmebppdcclbaaJHoleTellsRow2
import Derived.Lib.SmallJoins
import Derived.Test.YtjpmebppdcclbaaJHoleTellsRow3
import Derived.OpenShut
import Derived.ChangeOld
import Derived.Carry
import Derived.JoinedCond
namespace Go.Proofs.Ytjpmebppdcclbaa
open Go.RowKit
namespace Ho
open Rp Hl Al
open Ht hiding D
def RP (L : List Bool) (z : Int) (W : World) (e : Ending) (w' : World) : Prop := ∃ v, e = .returned (.tuple #[v, .int .i64 z]) ∧ Sl w' v (bls L) ∧ Below W.heap.size W w'
theorem sl_nilB (w : World) : Sl w (.slice none 0 0) (bls []) := ⟨none, 0, rfl, Nat.le_refl _, Nat.zero_le _, fun _ => rfl, fun i h => by cases h⟩
open Classical in
noncomputable def mayR (cv : List Sym → Option Val) (l : List Sym) (i : Int) (tm : Nat) : List Bool := if noAny l i then [] else mayL cv l i.toNat tm
open Classical in
noncomputable def mayZ (l : List Sym) (i : Int) : Int := if noAny l i then 5 else 0
theorem may_rp {cv : List Sym → Option Val} {l : List Sym} {i : Int} {tm : Nat} {W w' : World} {e : Ending} (h : MayPost cv l i tm W e w') : RP (mayR cv l i tm) (mayZ l i) W e w' := by
  obtain ⟨v, z, rfl, h1, h2, h3⟩ := h
  unfold mayR mayZ
  by_cases hn : noAny l i
  · obtain ⟨rfl, rfl⟩ := h2 hn
    rw [if_pos hn, if_pos hn]
    exact ⟨_, rfl, sl_nilB _, h1⟩
  · obtain ⟨h4, rfl⟩ := h3 hn
    rw [if_neg hn, if_neg hn]
    exact ⟨_, rfl, h4, h1⟩
def nxR (bs : List Bool) : List Bool := if (bs.any fun x => x) = true then bs else []
def nxZ (bs : List Bool) : Int := if (bs.any fun x => x) = true then 0 else 10
theorem next_rp {bs : List Bool} {v : Value} {z : Int} {W w' : World} (h1 : Below W.heap.size W w') (h : NextM bs v z w') : RP (nxR bs) (nxZ bs) W (.returned (.tuple #[v, .int .i64 z])) w' := by
  unfold NextM at h
  unfold nxR nxZ
  split at h
  · rename_i ha
    obtain ⟨h2, rfl⟩ := h
    rw [if_pos ha, if_pos ha]
    exact ⟨_, rfl, h2, h1⟩
  · rename_i ha
    obtain ⟨rfl, rfl⟩ := h
    rw [if_neg ha, if_neg ha]
    exact ⟨_, rfl, sl_nilB _, h1⟩
section
variable (g : Gram) (l : List Sym) (ga : Option Addr) (gc : Nat) (la : Option Addr) (lk : Nat) (w0 : World) (hgr : Rd AnyB w0 (.sl (g.rules.map Rule.d)) [.slice ga g.rules.length gc]) (hrl : Rd AnyB w0 (.sl (l.map Sym.d)) [.slice la l.length lk])
include hgr hrl
set_option maxHeartbeats 2000000 in
theorem fourE (i : Int) : ∃ (Lm : List Bool) (zm : Int) (Ln : List Bool) (zn : Int),
    (∀ W', Below w0.heap.size w0 W' → Calls Try.prog 24 #[.agg #[.int .i64 g.terms, .int .i64 g.nons, .int .i64 g.start, .slice ga g.rules.length gc], .slice la l.length lk, .int .i64 i] W' (RP Lm zm W')) ∧
    (∀ W', Below w0.heap.size w0 W' → Calls Try.prog 22 #[.agg #[.int .i64 g.terms, .int .i64 g.nons, .int .i64 g.start, .slice ga g.rules.length gc], .slice la l.length lk] W' (RP Ln zn W')) ∧
    (patF g l ≠ 0 → Lm = [] ∧ zm = patF g l ∧ Ln = [] ∧ zn = patF g l) ∧
    (patF g l = 0 → (∀ W', Below w0.heap.size w0 W' → Calls Try.prog 25 #[.agg #[.int .i64 g.terms, .int .i64 g.nons, .int .i64 g.start, .slice ga g.rules.length gc], .slice la l.length lk, .int .i64 i] W' (RP Lm zm W')) ∧
      (∀ W', Below w0.heap.size w0 W' → Calls Try.prog 26 #[.agg #[.int .i64 g.terms, .int .i64 g.nons, .int .i64 g.start, .slice ga g.rules.length gc], .slice la l.length lk] W' (RP Ln zn W'))) := by
  by_cases hp : patF g l = 0
  · obtain ⟨hck, hl12, hcl⟩ := pat_zero hp
    obtain ⟨N, tm, st, hok, hN, hN1, htm, htm1, hst, hsN, hK, hr4⟩ := kg_of hck
    have hcl := hcl N tm hN htm
    have hkl := (checkG_zero hck).2.1
    obtain ⟨T, hcg, hjs, hclo⟩ := sh_ex (by omega) hK hr4
    have hT : ShT g.rules N tm T := ⟨hcg, hjs, hclo⟩
    have hH := hw_ok hcg hclo
    have hsv : svOf g.rules N tm = fun y => ofT leafS T y 0 0 := funext fun y => (sv_eqT hcg hclo y).symm
    have hvo := of_vo (gokS N tm) hcg
    have hvc := closed_of (gokS N tm) (cg_wf (gokS N tm) hcg) hclo
    obtain ⟨cv, hcv⟩ : ∃ cv : List Sym → Option Val, ∀ l', cv l' = cvOf (svOf g.rules N tm) l' g.rules N tm ⟨false, (st : Int)⟩ 0 l'.length := ⟨_, fun _ => rfl⟩
    have hfi : ∀ (W' : World) (l' : List Sym) a c, Below w0.heap.size w0 W' → l'.length = l.length → (∀ c ∈ l', cellOk N tm c) → Rd AnyB W' (.sl (l'.map Sym.d)) [.slice a l'.length c] → Calls Try.prog 50 #[.agg #[.int .i64 g.terms, .int .i64 g.nons, .int .i64 g.start, .slice ga g.rules.length gc], .slice a l'.length c] W' fun e w' => ∃ x, e = .returned x ∧ HR (fun k => W'.heap.size ≤ k) w' x (cv l') ∧ Below W'.heap.size W' w' := by
      intro W' l' a c hb hl' hc' hr'
      have hgr' := hgr.below hb
      rw [hcv]
      refine fillE g (svOf g.rules N tm) l' (by omega) N hok.nons hok.n1 hok.n2 st hst hsN tm 1048576 (Nat.le_refl _) (svOk hN1 hcg hjs hclo) hK hr4 hc' ga gc a c W' hgr' hr' (fun W2 h2 => ?_) (fun a v ha hv W2 h2 => ?_)
      · rw [hsv]
        exact lenE hck hok hK hr4 hvo hvc ga gc W2 (hgr'.below h2)
      · rw [hsv] at hv
        exact lstE hck hok hK hr4 hvo hvc a v ha hv ga gc W2 (hgr'.below h2)
    have hco : ∀ (W' : World) (l' : List Sym) a c, Below w0.heap.size w0 W' → l'.length = l.length → (∀ c ∈ l', cellOk N tm c) → Rd AnyB W' (.sl (l'.map Sym.d)) [.slice a l'.length c] → Calls Try.prog 21 #[.agg #[.int .i64 g.terms, .int .i64 g.nons, .int .i64 g.start, .slice ga g.rules.length gc], .slice a l'.length c] W' fun e w' => ∃ x, e = .returned x ∧ VR (fun k => W'.heap.size ≤ k) w' x (cv l') ∧ Below W'.heap.size W' w' := by
      intro W' l' a c hb hl' _ hr'
      rw [hcv, hst]
      refine (completeE g.rules N tm st hN1 (by omega) hsN hK hr4 l' (by omega) g.terms g.nons ga gc a c W' (hgr.below hb) hr').mono ?_
      rintro e w' ⟨S, x, _, h2, h3, h4⟩
      exact ⟨x, h2, h3, h4⟩
    have hmay : ∀ W', Below w0.heap.size w0 W' → Calls Try.prog 24 #[.agg #[.int .i64 g.terms, .int .i64 g.nons, .int .i64 g.start, .slice ga g.rules.length gc], .slice la l.length lk, .int .i64 i] W' (RP (mayR cv l i tm) (mayZ l i) W') := by
      intro W' hb
      refine (mayE g l ga gc la lk W' (hgr.below hb) (hrl.below hb) i hp hl12 htm htm1 hcl cv (fun W2 l' a c h2 => hfi W2 l' a c (hb.trans (h2.mono hb.size)))).mono ?_
      exact fun e w' h => may_rp h
    have hmays : ∀ W', Below w0.heap.size w0 W' → Calls Try.prog 25 #[.agg #[.int .i64 g.terms, .int .i64 g.nons, .int .i64 g.start, .slice ga g.rules.length gc], .slice la l.length lk, .int .i64 i] W' (RP (mayR cv l i tm) (mayZ l i) W') := by
      intro W' hb
      refine (maysE g l ga gc la lk W' (hrl.below hb) i hp hl12 htm htm1 hcl cv (fun W2 l' a c h2 => hco W2 l' a c (hb.trans (h2.mono hb.size)))).mono ?_
      exact fun e w' h => may_rp h
    classical
    have hbe : ∀ (W' : World) (t : Nat) a c, t < tm → Below w0.heap.size w0 W' → Rd AnyB W' (.sl ((l ++ [(⟨true, (t : Int)⟩ : Sym)]).map Sym.d)) [.slice a (l.length + 1) c] → Calls Try.prog 49 #[.agg #[.int .i64 g.terms, .int .i64 g.nons, .int .i64 g.start, .slice ga g.rules.length gc], .slice a (l.length + 1) c] W' fun e w' => e = .returned (.bool (decide (It (KW g.rules (hwOf g.rules N tm)) (lfB (hwOf g.rules N tm) N l) (st : Int) l.length (t : Int)))) ∧ Below W'.heap.size W' w' := by
      intro W' t a c ht hb hr
      have hlen : (l ++ [(⟨true, (t : Int)⟩ : Sym)]).length = l.length + 1 := by simp
      rw [hN, hst]
      have hbg := beginsE g.rules N tm st hN1 (by omega) hsN hK hr4 (by omega) (l ++ [(⟨true, (t : Int)⟩ : Sym)]) (by omega) g.terms ga gc a c W' (hgr.below hb) (by rw [hlen]; exact hr)
      rw [hlen] at hbg
      refine hbg.mono ?_
      rintro e w' ⟨S, b, _, rfl, hiff, h4⟩
      refine ⟨?_, h4⟩
      rw [hlen] at hiff
      have : b = decide (It (KW g.rules (hwOf g.rules N tm)) (lfB (hwOf g.rules N tm) N l) (st : Int) l.length (t : Int)) := by
        rw [Bool.eq_iff_iff, decide_eq_true_eq, hiff]
        exact next_it hK hH hcl (by omega) (by omega)
      rw [this]
    have hco2 : ∀ (W' : World), Below w0.heap.size w0 W' → Calls Try.prog 21 #[.agg #[.int .i64 g.terms, .int .i64 g.nons, .int .i64 g.start, .slice ga g.rules.length gc], .slice la l.length lk] W' fun e w' => ∃ x, e = .returned x ∧ VR (fun k => W'.heap.size ≤ k) w' x (cv l) ∧ Below W'.heap.size W' w' :=
      fun W' hb => hco W' l la lk hb rfl hcl (hrl.below hb)
    have hnx : ∀ W', Below w0.heap.size w0 W' → Calls Try.prog 26 #[.agg #[.int .i64 g.terms, .int .i64 g.nons, .int .i64 g.start, .slice ga g.rules.length gc], .slice la l.length lk] W' (NextsPost (nxB g.rules N tm (hwOf g.rules N tm) l (st : Int) (cv l).isSome) (l.length = 12) W') := by
      intro W' hb
      exact nextsE g l ga gc la lk W' (hrl.below hb) hl12 htm htm1 (fun t : Nat => decide (It (KW g.rules (hwOf g.rules N tm)) (lfB (hwOf g.rules N tm) N l) (st : Int) l.length (t : Int))) (cv l) (fun W2 t a c ht h2 => hbe W2 t a c ht (hb.trans (h2.mono hb.size))) (fun W2 h2 => hco2 W2 (hb.trans (h2.mono hb.size)))
    by_cases h12 : l.length = 12
    · refine ⟨_, _, [], 2, hmay, fun W' hb => ?_, fun h => absurd hp h, fun _ => ⟨hmays, fun W' hb => ?_⟩⟩
      · refine (nextFull g l ga gc la lk W' (hgr.below hb) (hrl.below hb) hp h12).mono ?_
        rintro e w' ⟨rfl, h2⟩
        exact ⟨_, rfl, sl_nilB _, h2⟩
      · refine (hnx W' hb).mono ?_
        rintro e w' ⟨v, z, rfl, h2, h3⟩
        obtain ⟨rfl, rfl⟩ := h3.1 h12
        exact ⟨_, rfl, sl_nilB _, h2⟩
    · refine ⟨_, _, nxR (nxB g.rules N tm (hwOf g.rules N tm) l (st : Int) (cv l).isSome), nxZ (nxB g.rules N tm (hwOf g.rules N tm) l (st : Int) (cv l).isSome), hmay, fun W' hb => ?_, fun h => absurd hp h, fun _ => ⟨hmays, fun W' hb => (hnx W' hb).mono ?_⟩⟩
      · refine (holeNextE g l ga gc la lk W' (hgr.below hb) (hrl.below hb) hp (by omega) hok hN1 htm htm1 hst hsN hK hr4 hkl hcl hT).mono ?_
        rintro e w' ⟨v, z, rfl, h2, h3⟩
        rw [← hcv] at h3
        exact next_rp h2 h3
      · rintro e w' ⟨v, z, rfl, h2, h3⟩
        exact next_rp h2 (h3.2 h12)
  · refine ⟨[], patF g l, [], patF g l, fun W' hb => ?_, fun W' hb => ?_, fun _ => ⟨rfl, rfl, rfl, rfl⟩, fun h => absurd h hp⟩
    · refine (mayBad g l ga gc la lk W' (hgr.below hb) (hrl.below hb) i hp).mono ?_
      rintro e w' ⟨rfl, h2⟩
      exact ⟨_, rfl, sl_nilB _, h2⟩
    · refine (nextBad g l ga gc la lk W' (hgr.below hb) (hrl.below hb) hp).mono ?_
      rintro e w' ⟨rfl, h2⟩
      exact ⟨_, rfl, sl_nilB _, h2⟩
end
theorem p_nxB : nxB pK 1 2 (hwOf pK 1 2) [] 0 (cvOf (svOf pK 1 2) [] pK 1 2 ⟨false, ((0 : Nat) : Int)⟩ 0 0).isSome = [true, false, false] := by
  unfold nxB
  rw [p_cv]
  classical
  have e0 : It (KW pK (hwOf pK 1 2)) (lfB (hwOf pK 1 2) 1 []) 0 ([] : List Sym).length ((0 : Nat) : Int) := (p_it 0).2 rfl
  have e1 : ¬ It (KW pK (hwOf pK 1 2)) (lfB (hwOf pK 1 2) 1 []) 0 ([] : List Sym).length ((1 : Nat) : Int) := fun h => by have := (p_it 1).1 h; omega
  simp only [List.range_succ, List.range_zero, List.nil_append, List.map_append, List.map_cons, List.map_nil, List.cons_append]
  rw [decide_eq_true e0, decide_eq_false e1]
  rfl
theorem fixedE (a : Option Addr) (k : Nat) (W' : World) (hrd : Rd AnyB W' (.sl (pK.map Rule.d)) [.slice a 2 k]) : Calls Try.prog 22 #[.agg #[.int .i64 2, .int .i64 1, .int .i64 0, .slice a 2 k], .slice none 0 0] W' (RP [true, false, false] 0 W') := by
  have hp : patF hG [] = 0 := by decide
  obtain ⟨N, hok⟩ := Cs.okC_of hG_ok
  have hN1 : N = 1 := by have := hok.nons; have e : hG.nons = 1 := rfl; omega
  subst hN1
  obtain ⟨T, hT⟩ := sh_ex (K := pK) (N := 1) (tm := 2) (by omega) pKG (by decide)
  have hnil : Rd AnyB W' (.sl (([] : List Sym).map Sym.d)) [.slice none 0 0] := ⟨none, 0, [], rfl, Nat.le_refl _, Nat.zero_le _, fun _ => rfl, (fun i h => by cases h), by simp [RdAll]⟩
  refine (holeNextE hG [] a k none 0 W' hrd hnil hp (by simp) hok (tm := 2) (st := 0) (by omega) rfl (by omega) rfl (by omega) pKG (by decide) (by decide) (by simp) hT).mono ?_
  rintro e w' ⟨v, z, rfl, h2, h3⟩
  have e1 := p_nxB
  rw [show nxB hG.rules 1 2 (hwOf hG.rules 1 2) [] ((0 : Nat) : Int) (cvOf (svOf hG.rules 1 2) [] hG.rules 1 2 ⟨false, ((0 : Nat) : Int)⟩ 0 [].length).isSome = [true, false, false] from e1] at h3
  exact next_rp h2 h3
set_option maxHeartbeats 8000000 in
set_option maxRecDepth 100000 in
theorem lawHT (g : Gram) (u0 : Value) (l : List Sym) (v1 : Value) (i : Int) (W : World) (hr : Rd AnyB W (.sl (g.rules.map Rule.d)) [u0]) (hs : Rd AnyB W (.sl (l.map Sym.d)) [v1]) :
    Calls Try.prog 6 #[.agg #[.int .i64 g.terms, .int .i64 g.nons, .int .i64 g.start, u0], v1, .int .i64 i] W fun e w' => e = .returned (.bool true) ∧ Below W.heap.size W w' := by
  obtain ⟨ga, gc, rfl, hgc1, hgc2⟩ := hr.form
  rw [List.length_map] at hr hgc1 ⊢
  obtain ⟨la, lk, rfl, hlc1, hlc2⟩ := hs.form
  rw [List.length_map] at hs hlc1 ⊢
  obtain ⟨PST, HP⟩ := nameIt (fun (e : Ending) (w' : World) => e = .returned (.bool true) ∧ Below W.heap.size W w')
  have HFIN : Hid (∀ w', Below W.heap.size W w' → PST (.returned (.bool true)) w') := by
    intro w' h; rw [← HP.out]; exact ⟨rfl, h⟩
  rw [HP.out]
  obtain ⟨w0, HW0⟩ := nameIt (W.alloc (.cells #[.int .i64 g.terms, .int .i64 g.nons, .int .i64 g.start, .slice ga g.rules.length gc] 24))
  have hw0 : Below W.heap.size W w0 := by rw [← HW0.out]; exact (Below.refl _ _).alloc (Nat.le_refl _) _
  have HG0 : Hid (w0.heap[W.heap.size]? = some (.cells #[.int .i64 g.terms, .int .i64 g.nons, .int .i64 g.start, .slice ga g.rules.length gc] 24 (0, 0))) := by rw [← HW0.out]; exact bx_new _ _ _ rfl
  have HB0 := Lib.hid hw0
  have HPF : Hid (∀ W', Below w0.heap.size w0 W' → Calls Try.prog 19 #[.agg #[.int .i64 g.terms, .int .i64 g.nons, .int .i64 g.start, .slice ga g.rules.length gc], .slice la l.length lk] W' fun e w' => e = .returned (.int .i64 (patF g l)) ∧ Below W'.heap.size W' w') := fun W' hb => patFE g l ga gc la lk W' (hr.below (hw0.trans (hb.mono hw0.size))) (hs.below (hw0.trans (hb.mono hw0.size)))
  obtain ⟨Lm, zm, Ln, zn, hmay, hnext, hbad, hok⟩ := fourE g l ga gc la lk w0 (hr.below hw0) (hs.below hw0) i
  have HMAY := Lib.hid hmay
  have HNEXT := Lib.hid hnext
  have HBAD := Lib.hid hbad
  have HOK := Lib.hid hok
  obtain ⟨z, HZ⟩ := nameIt (patF g l)
  obtain ⟨gt, HGT⟩ := nameIt g.terms
  obtain ⟨gn, HGN⟩ := nameIt g.nons
  obtain ⟨gs, HGS⟩ := nameIt g.start
  obtain ⟨kn, HKN⟩ := nameIt g.rules.length
  obtain ⟨n, HN⟩ := nameIt l.length
  rw [HGT.out, HGN.out, HGS.out, HKN.out, HN.out] at HPF HMAY HNEXT HOK
  rw [HZ.out] at HPF HBAD HOK
  rw [HGT.out, HGN.out, HGS.out, HKN.out] at HG0 HW0
  rw [HGT.out, HGN.out, HGS.out, HKN.out, HN.out]
  obtain ⟨lm, HLM⟩ := nameIt (bls Lm).length
  obtain ⟨ln, HLN⟩ := nameIt (bls Ln).length
  clear hw0 HP hr hs HZ hmay hnext hbad hok
  go_enter Try.func6, Try.ntmps6
  go_upto_region 1 with fail
  rw [HW0.out]
  clear HW0
  go_wp2_with fail
  refine (pairsE w0).mono ?_
  rintro e w1 ⟨a, k, rfl, hrd, hb1⟩
  have HB1 := Lib.hid hb1
  have HFX := Lib.hid (fixedE a k w1 hrd)
  clear hb1 hrd
  go_wp2_with fail
  refine HFX.out.mono ?_
  rintro e w5 ⟨v, rfl, hsv, hb5⟩
  have HB5 := Lib.hid (HB1.out.trans (hb5.mono HB1.out.size))
  obtain ⟨va, vk, hvf⟩ := hsv.form
  subst hvf
  have heq := equalB [true, false, false] _ _ (w5.alloc (.cells #[.bool true, .bool false, .bool false] 4)) (hsv.keep ((Below.refl _ _).alloc (Nat.le_refl _) _)) (sl_lit (w := w5) (v := #[.bool true, .bool false, .bool false]) rfl (by simp [maxLen]))
  have HEQ := Lib.hid heq
  clear hb5 hsv heq
  go_wp2_with fail
  refine HEQ.out.mono ?_
  rintro e w6 ⟨rfl, hb6⟩
  have hal2 : Below w5.heap.size w5 (w5.alloc (.cells #[.bool true, .bool false, .bool false] 4)) := (Below.refl _ _).alloc (Nat.le_refl _) _
  have HB6 := Lib.hid (HB5.out.trans ((hal2.trans (hb6.mono hal2.size)).mono HB5.out.size))
  obtain ⟨x0, x1, x2, x3⟩ := bx_cells4 (bx_keep HG0.out HB6.out)
  clear hb6 hal2 HEQ HFX
  go_wp2_with fail
  refine (HPF.out w6 HB6.out).mono ?_
  rintro e w7 ⟨rfl, hb7⟩
  have HB7 := Lib.hid (HB6.out.trans (hb7.mono HB6.out.size))
  obtain ⟨x0, x1, x2, x3⟩ := bx_cells4 (bx_keep HG0.out HB7.out)
  clear hb7
  go_wp2_with fail
  refine (HMAY.out w7 HB7.out).mono ?_
  rintro e w8 ⟨vm, rfl, hsm, hb8⟩
  obtain ⟨ma, mc, hmf⟩ := hsm.form
  subst hmf
  rw [HLM.out] at hsm
  rw [HLM.out]
  have HSM := Lib.hid hsm
  have HB8 := Lib.hid (HB7.out.trans (hb8.mono HB7.out.size))
  obtain ⟨x0, x1, x2, x3⟩ := bx_cells4 (bx_keep HG0.out HB8.out)
  clear hb8 hsm
  go_wp2_with fail
  refine (HNEXT.out w8 HB8.out).mono ?_
  rintro e w9 ⟨vn, rfl, hsn, hb9⟩
  obtain ⟨na, nc, hnf⟩ := hsn.form
  subst hnf
  rw [HLN.out] at hsn
  rw [HLN.out]
  have HSN := Lib.hid hsn
  have HSM9 := Lib.hid (HSM.out.keep hb9)
  have HB9 := Lib.hid (HB8.out.trans (hb9.mono HB8.out.size))
  obtain ⟨x0, x1, x2, x3⟩ := bx_cells4 (bx_keep HG0.out HB9.out)
  clear hb9 hsn HSM
  by_cases e1 : z = 0
  · subst e1
    obtain ⟨hmays, hnexts⟩ := HOK.out rfl
    have HMS := Lib.hid (hmays w9 HB9.out)
    have HNSX := Lib.hid hnexts
    have hzm : (zm == zm) = true := by simp
    have hzn : (zn == zn) = true := by simp
    clear hmays hnexts
    go_wp2_with fail
    refine HMS.out.mono ?_
    rintro e w10 ⟨vm2, rfl, hsm2, hb10⟩
    obtain ⟨ma2, mc2, hmf2⟩ := hsm2.form
    subst hmf2
    rw [HLM.out] at hsm2
    rw [HLM.out]
    have HSM2 := Lib.hid hsm2
    have HSM10 := Lib.hid (HSM9.out.keep hb10)
    have HSN10 := Lib.hid (HSN.out.keep hb10)
    have HB10 := Lib.hid (HB9.out.trans (hb10.mono HB9.out.size))
    obtain ⟨x0, x1, x2, x3⟩ := bx_cells4 (bx_keep HG0.out HB10.out)
    clear hb10 hsm2
    go_wp2_with fail
    refine (HNSX.out w10 HB10.out).mono ?_
    rintro e w11 ⟨vn2, rfl, hsn2, hb11⟩
    obtain ⟨na2, nc2, hnf2⟩ := hsn2.form
    subst hnf2
    rw [HLN.out] at hsn2
    rw [HLN.out]
    have HSN11 := Lib.hid (HSN10.out.keep hb11)
    have HSN2 := Lib.hid hsn2
    have HB11 := Lib.hid (HB10.out.trans (hb11.mono HB10.out.size))
    have HE1 := Lib.hid (equalB Lm _ _ w11 (HSM10.out.keep hb11) (HSM2.out.keep hb11))
    clear hb11 hsn2 x0 x1 x2 x3
    go_wp2_with fail
    refine HE1.out.mono ?_
    rintro e w12 ⟨rfl, hb12⟩
    have HB12 := Lib.hid (HB11.out.trans (hb12.mono HB11.out.size))
    have HE2 := Lib.hid (equalB Ln _ _ w12 (HSN11.out.keep hb12) (HSN2.out.keep hb12))
    clear hb12
    go_wp2_with fail
    refine HE2.out.mono ?_
    rintro e w13 ⟨rfl, hb13⟩
    have HE := Lib.hid (HFIN.out w13 (HB0.out.trans ((HB12.out.trans (hb13.mono HB12.out.size)).mono HB0.out.size)))
    clear hb13
    go_wp2_with fail
    exact HE.out
  · have hne : (z == 0) = false := by simpa using e1
    have hne' : (z != 0) = true := by simpa using e1
    obtain ⟨h1, h2, h3, h4⟩ := HBAD.out e1
    subst h1 h3 h2 h4
    have hlm0 : lm = 0 := by rw [← HLM.out]; rfl
    have hln0 : ln = 0 := by rw [← HLN.out]; rfl
    subst hlm0 hln0
    have hzz : (zn == zn) = true := by simp
    have HE := Lib.hid (HFIN.out w9 (HB0.out.trans (HB9.out.mono HB0.out.size)))
    clear e1
    go_wp2_with fail
    exact HE.out
end Ho
end Go.Proofs.Ytjpmebppdcclbaa
namespace Go.Proofs.Ytjpmebppdcclbaa
open Go.RowKit Go.ChangeShapes Go.WideShapes Go.Deep
def OpensF {α : Type} (P : Program) (t : TypeId) (e : α → D) (sz : α → Nat) (ok lim : α → Prop) (N : Nat) : Prop :=
  ∀ (H : Type) (enc : TypeId × Value → H) (w : World) (n : Nat) (cs : List Value) (x : DataW H × List MemPlace), n ≤ N → DataW.trod enc P w 0 (fun _ => true) true n t cs = some x →
    ∃ a : α, Rd AnyB w (e a) cs ∧ sz a ≤ Rows.uptoBulk x.1 ∧ ok a ∧ ((∀ y ∈ DataW.weights P t x.1, y ≤ reachBytes) → lim a)
def Opens {α : Type} (P : Program) (t : TypeId) (e : α → D) (sz : α → Nat) (ok lim : α → Prop) : Prop := ∀ N, OpensF P t e sz ok lim N
def i64 (n : Int) : Prop := -9223372036854775808 ≤ n ∧ n ≤ 9223372036854775807
def one {α : Type} (_ : α) : Nat := 1
def any {α : Type} (_ : α) : Prop := True
theorem opens_int {P : Program} {t : TypeId} (ht : P.underlying t = some (.int .i64)) : Opens P t D.int one i64 any := by
  intro N H enc w n cs x _ h
  obtain ⟨z, h1, h2, h3⟩ := DataW.trod_int ht h
  subst h1 h2
  refine ⟨z, rfl, by simp [Rows.uptoBulk, one], ?_, fun _ => trivial⟩
  simpa [Lit.wf, IntKind.min, IntKind.max, IntKind.signed, IntKind.bits, i64] using h3
theorem opens_bool {P : Program} {t : TypeId} (ht : P.underlying t = some .bool) : Opens P t D.bool one any any := by
  intro N H enc w n cs x _ h
  obtain ⟨z, h1, h2⟩ := DataW.trod_bool ht h
  subst h1 h2
  exact ⟨z, rfl, by simp [Rows.uptoBulk, one], trivial, fun _ => trivial⟩
theorem bulkAll_append {H : Type} (l r : List (DataW H)) : Rows.uptoBulkAll (l ++ r) = Rows.uptoBulkAll l + Rows.uptoBulkAll r := by
  induction l with
  | nil => simp [Rows.uptoBulkAll]
  | cons x l ih => simp only [List.cons_append, Rows.uptoBulkAll, ih]; omega
theorem weightsAll_append {H : Type} (P : Program) (e : TypeId) (l r : List (DataW H)) : DataW.weightsAll P e (l ++ r) = DataW.weightsAll P e l ++ DataW.weightsAll P e r := by
  induction l with
  | nil => simp [DataW.weightsAll]
  | cons x l ih => simp [DataW.weightsAll, ih]
def slD {α : Type} (e : α → D) (l : List α) : D := .sl (l.map e)
def slSz {α : Type} (sz : α → Nat) (l : List α) : Nat := (l.map sz).sum + 1
def slOk {α : Type} (ok : α → Prop) (l : List α) : Prop := ∀ a ∈ l, ok a
def slLim {α : Type} (b : Nat) (lim : α → Prop) (l : List α) : Prop := l.length * b ≤ reachBytes ∧ ∀ a ∈ l, lim a
theorem opens_slice {α : Type} {P : Program} {t el : TypeId} {e : α → D} {sz : α → Nat} {ok lim : α → Prop} {N b : Nat} (ht : P.underlying t = some (.slice el)) (hby : P.bytesOf el = b) (ho : OpensF P el e sz ok lim N) :
    OpensF P t (slD e) (slSz sz) (slOk ok) (slLim b lim) N := by
  intro H enc w n cs x hn h
  rcases DataW.trod_slice ht h with ⟨rfl, rfl⟩ | ⟨a, len, cap, elems, rest, n', hf, rfl, rfl, hb, hl, hm, hlen, hel, _, _⟩
  · exact ⟨[], ⟨none, 0, [], rfl, by simp, by simp [maxLen], fun _ => rfl, fun i hi => by simp at hi, rfl⟩, by simp [Rows.uptoBulk, slSz], by simp [slOk], fun _ => ⟨by simp, by simp⟩⟩
  · have key : ∀ k, k ≤ len → ∃ (l : List α) (L : List Value), l.length = k ∧ RdAll AnyB w (l.map e) L ∧ L.length = k * P.cellsOf el ∧ (∀ j (hj : j < L.length), w.cell? (a.add j) = some L[j]) ∧
        (l.map sz).sum ≤ Rows.uptoBulkAll ((elems.take k).map (·.1)) ∧ slOk ok l ∧ ((∀ y ∈ DataW.weightsAll P el ((elems.take k).map (·.1)), y ≤ reachBytes) → ∀ a ∈ l, lim a) := by
      intro k
      induction k with
      | zero => intro _; exact ⟨[], [], rfl, by simp [RdAll], by simp, fun j hj => by simp at hj, by simp, by simp [slOk], fun _ => by simp⟩
      | succ k ih =>
        intro hk
        obtain ⟨l, L, h1, h2, h3, h4, h5, h6, h7⟩ := ih (by omega)
        have hk' : k < elems.length := by omega
        have he := hel k (by omega)
        rw [List.getElem?_eq_getElem hk'] at he
        obtain ⟨cs', hc1, hc2⟩ := Option.bind_eq_some_iff.1 he
        obtain ⟨a', r1, r2, r3, r4⟩ := ho H enc w n' cs' elems[k] (by omega) hc2
        obtain ⟨_, hcl, hcc⟩ := World.cells?_some hc1
        refine ⟨l ++ [a'], L ++ cs', by simp [h1], by rw [List.map_append]; exact RdAll.append h2 (RdAll.one r1), by simp [h3, hcl, Nat.add_mul], ?_, ?_, ?_, ?_⟩
        · intro j hj
          by_cases hjl : j < L.length
          · rw [List.getElem_append_left hjl]; exact h4 j hjl
          · simp at hj
            rw [List.getElem_append_right (by omega)]
            have := hcc (j - L.length) (by omega)
            rw [Deep.add_add, ← h3, show L.length + (j - L.length) = j by omega] at this
            rw [this, List.getElem?_eq_getElem (by omega)]
        · rw [List.take_succ_eq_append_getElem hk', List.map_append, List.map_append, bulkAll_append]
          simp [Rows.uptoBulkAll]
          simp at h5
          omega
        · intro y hy
          rcases List.mem_append.1 hy with h | h
          · exact h6 y h
          · simp at h; subst h; exact r3
        · intro hw y hy
          rw [List.take_succ_eq_append_getElem hk', List.map_append, weightsAll_append] at hw
          rcases List.mem_append.1 hy with h | h
          · exact h7 (fun z hz => hw z (List.mem_append_left _ hz)) y h
          · simp at h; subst h
            exact r4 (fun z hz => hw z (List.mem_append_right _ (by simpa [DataW.weightsAll] using hz)))
    obtain ⟨l, L, h1, h2, h3, h4, h5, h6, h7⟩ := key len (Nat.le_refl _)
    rw [List.take_of_length_le (by omega)] at h5 h7
    refine ⟨l, ⟨some a, cap, L, by simp [h1], by simpa [h1] using hl, hm, (fun h => by cases h), fun i hi => ⟨a, rfl, trivial, h4 i hi⟩, h2⟩, ?_, h6, ?_⟩
    · simp only [Rows.uptoBulk, slSz]; omega
    · intro hw
      simp only [DataW.weights, ht] at hw
      refine ⟨?_, h7 fun y hy => hw y (by simp [hy])⟩
      have := hw ((elems.map (·.1)).length + (rest.map (·.1)).length |>.mul (P.bytesOf el)) (by left)
      rw [h1, ← hlen, ← hby]
      have h8 : elems.length * P.bytesOf el ≤ ((elems.map (·.1)).length + (rest.map (·.1)).length) * P.bytesOf el := Nat.mul_le_mul_right _ (by simp)
      exact Nat.le_trans h8 this
theorem split2 {cs : List Value} {c0 c1 : Nat} (h : cs.length = c0 + c1) : cs = (cs.drop 0).take c0 ++ (cs.drop c0).take c1 := by
  rw [List.drop_zero, List.take_of_length_le (l := cs.drop c0) (by simp; omega), List.take_append_drop]
theorem split3 {cs : List Value} {c0 c1 c2 : Nat} (h : cs.length = c0 + c1 + c2) : cs = (cs.drop 0).take c0 ++ ((cs.drop c0).take c1 ++ (cs.drop (c0 + c1)).take c2) := by
  rw [← List.drop_drop, ← split2' (cs := cs.drop c0) (by simp; omega)]
  simp
where
  split2' {cs : List Value} {c1 c2 : Nat} (h : cs.length = c1 + c2) : cs = cs.take c1 ++ (cs.drop c1).take c2 := by
    have := split2 h
    simpa using this
theorem split4 {cs : List Value} {c0 c1 c2 c3 : Nat} (h : cs.length = c0 + c1 + c2 + c3) : cs = (cs.drop 0).take c0 ++ ((cs.drop c0).take c1 ++ ((cs.drop (c0 + c1)).take c2 ++ (cs.drop (c0 + c1 + c2)).take c3)) := by
  have h3 := split3 (cs := cs.drop c0) (c0 := c1) (c1 := c2) (c2 := c3) (by simp; omega)
  simp only [List.drop_drop, List.drop_zero] at h3 ⊢
  rw [← Nat.add_assoc, Nat.add_zero] at h3
  rw [← h3, List.take_append_drop]
theorem opens_struct2 {α β δ : Type} {P : Program} {t : TypeId} {f0 f1 : Field} {e0 : α → D} {e1 : β → D} {s0 : α → Nat} {s1 : β → Nat} {k0 l0 : α → Prop} {k1 l1 : β → Prop} {N c0 c1 : Nat} (mk : α → β → δ) {e : δ → D} {sz : δ → Nat} {ok lim : δ → Prop}
    (ht : P.underlying t = some (.struct #[f0, f1])) (ho : f0.offset = 0 ∧ f1.offset = c0 ∧ P.cellsOf f0.type = c0 ∧ P.cellsOf f1.type = c1 ∧ P.cellsOf t = c0 + c1)
    (h0 : OpensF P f0.type e0 s0 k0 l0 N) (h1 : OpensF P f1.type e1 s1 k1 l1 N)
    (he : ∀ a b, e (mk a b) = .agg [e0 a, e1 b]) (hs : ∀ a b, sz (mk a b) ≤ s0 a + s1 b + 1) (hk : ∀ a b, k0 a → k1 b → ok (mk a b)) (hl : ∀ a b, l0 a → l1 b → lim (mk a b)) : OpensF P t e sz ok lim (N + 1) := by
  intro H enc w n cs x hn h
  obtain ⟨xs, n', hf, rfl, hcl, hlen, hfs⟩ := DataW.trod_struct ht h
  obtain ⟨o0, o1, p0, p1, p2⟩ := ho
  match xs, hlen with
  | [y0, y1], _ =>
    have g0 : DataW.trod enc P w 0 (fun _ => true) true n' f0.type ((cs.drop f0.offset).take (P.cellsOf f0.type)) = some y0 := by simpa using hfs 0 f0 rfl
    have g1 : DataW.trod enc P w 0 (fun _ => true) true n' f1.type ((cs.drop f1.offset).take (P.cellsOf f1.type)) = some y1 := by simpa using hfs 1 f1 rfl
    obtain ⟨a, r1, r2, r3, r4⟩ := h0 H enc w n' _ _ (by omega) g0
    obtain ⟨b, q1, q2, q3, q4⟩ := h1 H enc w n' _ _ (by omega) g1
    rw [o0, p0] at r1
    rw [o1, p1] at q1
    refine ⟨mk a b, ?_, ?_, hk a b r3 q3, fun hw => ?_⟩
    · rw [he, split2 (hcl.trans p2)]
      exact ⟨_, _, rfl, r1, RdAll.one q1⟩
    · have := hs a b
      simp [Rows.uptoBulk, Rows.uptoBulkAll]; omega
    · simp [DataW.weights, ht, DataW.weightsEach] at hw
      exact hl a b (r4 fun y hy => hw y (by simp [hy])) (q4 fun y hy => hw y (by simp [hy]))
theorem opens_struct4 {α β γ ε δ : Type} {P : Program} {t : TypeId} {f0 f1 f2 f3 : Field} {e0 : α → D} {e1 : β → D} {e2 : γ → D} {e3 : ε → D} {s0 : α → Nat} {s1 : β → Nat} {s2 : γ → Nat} {s3 : ε → Nat} {k0 l0 : α → Prop} {k1 l1 : β → Prop} {k2 l2 : γ → Prop} {k3 l3 : ε → Prop} {N c0 c1 c2 c3 : Nat} (mk : α → β → γ → ε → δ) {e : δ → D} {sz : δ → Nat} {ok lim : δ → Prop}
    (ht : P.underlying t = some (.struct #[f0, f1, f2, f3])) (ho : f0.offset = 0 ∧ f1.offset = c0 ∧ f2.offset = c0 + c1 ∧ f3.offset = c0 + c1 + c2 ∧ P.cellsOf f0.type = c0 ∧ P.cellsOf f1.type = c1 ∧ P.cellsOf f2.type = c2 ∧ P.cellsOf f3.type = c3 ∧ P.cellsOf t = c0 + c1 + c2 + c3)
    (h0 : OpensF P f0.type e0 s0 k0 l0 N) (h1 : OpensF P f1.type e1 s1 k1 l1 N) (h2 : OpensF P f2.type e2 s2 k2 l2 N) (h3 : OpensF P f3.type e3 s3 k3 l3 N)
    (he : ∀ a b c d, e (mk a b c d) = .agg [e0 a, e1 b, e2 c, e3 d]) (hs : ∀ a b c d, sz (mk a b c d) ≤ s0 a + s1 b + s2 c + s3 d + 1) (hk : ∀ a b c d, k0 a → k1 b → k2 c → k3 d → ok (mk a b c d)) (hl : ∀ a b c d, l0 a → l1 b → l2 c → l3 d → lim (mk a b c d)) : OpensF P t e sz ok lim (N + 1) := by
  intro H enc w n cs x hn h
  obtain ⟨xs, n', hf, rfl, hcl, hlen, hfs⟩ := DataW.trod_struct ht h
  obtain ⟨o0, o1, o2, o3, p0, p1, p2, p3, p4⟩ := ho
  match xs, hlen with
  | [y0, y1, y2, y3], _ =>
    have g0 : DataW.trod enc P w 0 (fun _ => true) true n' f0.type ((cs.drop f0.offset).take (P.cellsOf f0.type)) = some y0 := by simpa using hfs 0 f0 rfl
    have g1 : DataW.trod enc P w 0 (fun _ => true) true n' f1.type ((cs.drop f1.offset).take (P.cellsOf f1.type)) = some y1 := by simpa using hfs 1 f1 rfl
    have g2 : DataW.trod enc P w 0 (fun _ => true) true n' f2.type ((cs.drop f2.offset).take (P.cellsOf f2.type)) = some y2 := by simpa using hfs 2 f2 rfl
    have g3 : DataW.trod enc P w 0 (fun _ => true) true n' f3.type ((cs.drop f3.offset).take (P.cellsOf f3.type)) = some y3 := by simpa using hfs 3 f3 rfl
    obtain ⟨a, r1, r2, r3, r4⟩ := h0 H enc w n' _ _ (by omega) g0
    obtain ⟨b, q1, q2, q3, q4⟩ := h1 H enc w n' _ _ (by omega) g1
    obtain ⟨c, u1, u2, u3, u4⟩ := h2 H enc w n' _ _ (by omega) g2
    obtain ⟨d, v1, v2, v3, v4⟩ := h3 H enc w n' _ _ (by omega) g3
    rw [o0, p0] at r1
    rw [o1, p1] at q1
    rw [o2, p2] at u1
    rw [o3, p3] at v1
    refine ⟨mk a b c d, ?_, ?_, hk a b c d r3 q3 u3 v3, fun hw => ?_⟩
    · rw [he, split4 (hcl.trans p4)]
      exact ⟨_, _, rfl, r1, _, _, rfl, q1, _, _, rfl, u1, RdAll.one v1⟩
    · have := hs a b c d
      simp [Rows.uptoBulk, Rows.uptoBulkAll]; omega
    · simp [DataW.weights, ht, DataW.weightsEach] at hw
      exact hl a b c d (r4 fun y hy => hw y (by simp [hy])) (q4 fun y hy => hw y (by simp [hy])) (u4 fun y hy => hw y (by simp [hy])) (v4 fun y hy => hw y (by simp [hy]))
theorem open_arg {α : Type} {P : Program} {t : TypeId} {e : α → D} {sz : α → Nat} {ok lim : α → Prop} (ho : Opens P t e sz ok lim) {H : Type} {enc : TypeId × Value → H} {W : World} {v : Value} {d : DataW H} {p : List MemPlace} (h : DataW.Trod enc P W 0 (fun _ => true) true t v d p) :
    ∃ a : α, Rd AnyB W (e a) v.cells.toList ∧ sz a ≤ Rows.uptoBulk d ∧ ok a ∧ ((∀ y ∈ DataW.weights P t d, y ≤ reachBytes) → lim a) := by
  obtain ⟨n, hn⟩ := h
  exact ho n H enc W n _ _ (Nat.le_refl _) hn
end Go.Proofs.Ytjpmebppdcclbaa
namespace Go.Proofs.Ytjpmebppdcclbaa
open Go.RowKit Go.ChangeShapes Go.WideShapes Go.Deep Go.Joins
def okSym (s : Sym) : Prop := i64 s.n
def okRule (r : Rule) : Prop := i64 r.left ∧ ∀ s ∈ r.right, okSym s
def okGram (g : Gram) : Prop := i64 g.terms ∧ i64 g.nons ∧ i64 g.start ∧ ∀ r ∈ g.rules, okRule r
def szSym (_ : Sym) : Nat := 1
def szRule (r : Rule) : Nat := slSz szSym r.right
def szGram (g : Gram) : Nat := slSz szRule g.rules
set_option maxRecDepth 100000 in
theorem opens_symF (N : Nat) : OpensF Try.prog 44 Sym.d szSym okSym any (N + 1) :=
  opens_struct2 (c0 := 1) (c1 := 1) (fun a b => Sym.mk a b) Try.underlying44 ⟨rfl, rfl, by kernel_rfl, by kernel_rfl, by kernel_rfl⟩ (opens_bool Try.underlying4 N) (opens_int Try.underlying3 N)
    (fun _ _ => rfl) (fun _ _ => by simp [szSym]) (fun _ _ _ h => h) (fun _ _ _ _ => trivial)
set_option maxRecDepth 100000 in
theorem opens_ruleF (N : Nat) : OpensF Try.prog 69 Rule.d szRule okRule any (N + 1 + 1) :=
  opens_struct2 (c0 := 1) (c1 := 1) (fun a b => Rule.mk a b) Try.underlying69 ⟨rfl, rfl, by kernel_rfl, by kernel_rfl, by kernel_rfl⟩ (opens_int Try.underlying3 (N + 1)) (opens_slice Try.underlying47 (b := 16) (by kernel_rfl) (opens_symF N))
    (fun _ _ => rfl) (fun _ _ => by simp [szRule]; omega) (fun _ _ h k => ⟨h, k⟩) (fun _ _ _ _ => trivial)
set_option maxRecDepth 100000 in
theorem opens_gramF (N : Nat) : OpensF Try.prog 24 Gram.d szGram okGram any (N + 1 + 1 + 1) :=
  opens_struct4 (c0 := 1) (c1 := 1) (c2 := 1) (c3 := 1) (fun a b c d => Gram.mk a b c d) Try.underlying24 ⟨rfl, rfl, rfl, rfl, by kernel_rfl, by kernel_rfl, by kernel_rfl, by kernel_rfl, by kernel_rfl⟩ (opens_int Try.underlying3 (N + 1 + 1)) (opens_int Try.underlying3 (N + 1 + 1)) (opens_int Try.underlying3 (N + 1 + 1)) (opens_slice Try.underlying22 (b := 32) (by kernel_rfl) (opens_ruleF N))
    (fun _ _ _ _ => rfl) (fun _ _ _ _ => by simp [szGram]; omega) (fun _ _ _ _ h1 h2 h3 h4 => ⟨h1, h2, h3, h4⟩) (fun _ _ _ _ _ _ _ _ => trivial)
theorem opens_gram : Opens Try.prog 24 Gram.d szGram okGram any := by
  intro N H enc w n cs x hn h
  exact opens_gramF N H enc w n cs x (by omega) h
set_option maxRecDepth 100000 in
theorem open_gramV {W : World} {base : Nat} {v : Value} {g : Gram} (hv : Value.okWide Try.prog W .any base 24 v) (h : Rd AnyB W g.d v.cells.toList) : ∃ u, v = .agg #[.int .i64 g.terms, .int .i64 g.nons, .int .i64 g.start, u] ∧ Rd AnyB W (.sl (g.rules.map Rule.d)) [u] := by
  obtain ⟨cs, rfl, hsz⟩ := okWide_struct Try.underlying24 hv
  obtain ⟨c1, r1, e1, h1, h2⟩ := h
  obtain ⟨c2, r2, rfl, h2, h3⟩ := h2
  obtain ⟨c3, r3, rfl, h3, h4⟩ := h3
  rw [RdAll.one_iff] at h4
  simp [Rd] at h1 h2 h3
  subst h1 h2 h3
  have h5 := h4
  obtain ⟨a, cap, L, e, _⟩ := h4
  subst e
  refine ⟨_, ?_, h5⟩
  congr 1
  exact Array.toList_inj.1 e1
end Go.Proofs.Ytjpmebppdcclbaa
namespace Go.Proofs.Ytjpmebppdcclbaa
open Go.RowKit Go.ChangeShapes Go.WideShapes Go.Deep Go.Joins
end Go.Proofs.Ytjpmebppdcclbaa
namespace Go.Proofs.Ytjpmebppdcclbaa
open Go.RowKit Go.ChangeShapes Go.WideShapes Go.Deep
set_option maxRecDepth 100000 in
theorem opens_syms : Opens Try.prog 47 (slD Sym.d) (slSz szSym) (slOk okSym) (slLim 16 any) := by
  intro N H enc w n cs x hn h
  exact opens_slice Try.underlying47 (b := 16) (by kernel_rfl) (opens_symF N) H enc w n cs x (by omega) h
set_option maxRecDepth 100000 in
theorem open_symsV {W : World} {base : Nat} {v : Value} {l : List Sym} (hv : Value.okWide Try.prog W .any base 47 v) (h : Rd AnyB W (slD Sym.d l) v.cells.toList) : Rd AnyB W (.sl (l.map Sym.d)) [v] := by
  obtain ⟨ad, len, cap, rfl⟩ := okWide_slice Try.underlying47 hv
  exact h
end Go.Proofs.Ytjpmebppdcclbaa
namespace Go.Proofs.Ytjpmebppdcclbaa.RowHoleTells
open Go.ChangeShapes Go.WideShapes Go.ChangeAt Go.RowKit
theorem own : ownKnob Try.prog.godebug = none := by kernel_rfl
theorem laidOut : laidOutB Try.prog = true := by kernel_rfl
set_option maxRecDepth 100000 in
theorem contract (H : Type) (enc : TypeId × Value → H) (W : World) (base : Nat) (args : Array Value) (ds gs : List (DataW H)) (before : List MemPlace)
    (hval0 : ∀ (j : Nat) t v, Try.f6.params[j]? = some t → args[j]? = some v → Value.okWide Try.prog W .any base t v)
    (hW : DataW.Whole enc Try.prog Try.f6.params.toList Rows.holeTellsSpec.vars false W args.toList ds gs before)
    (hsz0 : (DataW.weightsEach Try.prog (Try.f6.params.toList ++ Rows.holeTellsSpec.plain.varTypes Try.prog) (ds ++ gs)).all (· ≤ reachBytes) = true) :
    Calls Try.prog 6 args W fun e W' => ∃ v, e = .returned v ∧ Rows.holeTellsSpec.post enc Try.prog Try.f6 false true false false W args v W' := by
  have hval : ∀ (j : Nat) t v, Try.f6.params[j]? = some t → args[j]? = some v → Value.okWide Try.prog W .any base t v := hval0
  have hW' := hW
  obtain ⟨p, q, hA0, hV, rfl, hfz, hnd⟩ := hW
  have hA : DataW.TrodAll enc Try.prog W 0 (fun _ => true) true Try.f6.params.toList args.toList ds p := hA0
  have hsz : (DataW.weightsEach Try.prog (Try.f6.params.toList ++ Rows.holeTellsSpec.plain.varTypes Try.prog) (ds ++ gs)).all (· ≤ reachBytes) = true := hsz0
  rw [Try.params6] at hA hval hsz
  obtain ⟨v0, vs0, d0, ds0, p0, q0, hargs, rfl, rfl, h0, r0'⟩ := trodAll_cons hA
  obtain ⟨v1, vs1, d1, ds1, p1, q1, rfl, rfl, rfl, h1, r1'⟩ := trodAll_cons r0'
  obtain ⟨v2, vs2, d2, ds2, p2, q2, rfl, rfl, rfl, h2, r2'⟩ := trodAll_cons r1'
  obtain ⟨rfl, rfl, rfl⟩ := trodAll_nil r2'
  obtain rfl : args = #[v0, v1, v2] := by cases args; simp_all
  obtain ⟨rfl, rfl⟩ := trodVars_none hV
  have lt0 : ∀ x ∈ p0, x.block < W.heap.size := by obtain ⟨m, hm⟩ := h0; exact DataW.trod_lt m _ _ _ hm
  have tr0 := h0
  have lt1 : ∀ x ∈ p1, x.block < W.heap.size := by obtain ⟨m, hm⟩ := h1; exact DataW.trod_lt m _ _ _ hm
  have tr1 := h1
  have lt2 : ∀ x ∈ p2, x.block < W.heap.size := by obtain ⟨m, hm⟩ := h2; exact DataW.trod_lt m _ _ _ hm
  have tr2 := h2
  have weightsAt : ∀ (j : Nat) {t : TypeId} {d : DataW H}, (Try.f6.params.toList ++ Rows.holeTellsSpec.plain.varTypes Try.prog)[j]? = some t → ([d0, d1, d2] ++ [])[j]? = some d → ∀ y ∈ DataW.weights Try.prog t d, y ≤ reachBytes := fun j t d ht hd y hy => of_decide_eq_true (List.all_eq_true.1 hsz0 y (DataW.weights_mem_each ht hd y hy))
  obtain ⟨a0, rd0, sz0, k0, li0⟩ := open_arg opens_gram h0
  have lim0 := li0 (weightsAt 0 rfl rfl)
  obtain ⟨u0, rfl, r0⟩ := open_gramV (hval 0 24 v0 rfl rfl) rd0
  obtain ⟨a1, rd1, sz1, k1, li1⟩ := open_arg opens_syms h1
  have lim1 := li1 (weightsAt 1 rfl rfl)
  have r1 := open_symsV (hval 1 47 v1 rfl rfl) rd1
  obtain ⟨x2, rfl, rfl, rfl, wf2⟩ := open_int Try.underlying3 (hval 2 3 v2 rfl rfl) h2
  have k2 : i64 x2 := by simpa [Lit.wf, IntKind.min, IntKind.max, IntKind.signed, IntKind.bits, i64] using wf2
  clear hA0 hval0
  refine (Ho.lawHT a0 u0 a1 v1 x2 W r0 r1).mono fun e W' ⟨he, bel⟩ => ?_
  subst he
  exact ⟨_, rfl, _, _, _, [], _, [], hW', trodAll_mk1 (shut_bool Try.underlying4 _), (trodAll_cons_mk (Below.trod laidOut (by kernel_rfl) (of_decide_eq_true (by kernel_rfl)) tr0 bel lt0) (trodAll_cons_mk (Below.trod laidOut (by kernel_rfl) (of_decide_eq_true (by kernel_rfl)) tr1 bel lt1) (trodAll_cons_mk (Below.trod laidOut (by kernel_rfl) (of_decide_eq_true (by kernel_rfl)) tr2 bel lt2) trodAll_mk0))), rfl, bel.frame _, fun h => by cases h⟩
set_option maxRecDepth 100000 in
theorem lifted (os : Os) (started : os.Started) (H : Type) (enc : TypeId × Value → H) :
    ReturnsInHanded {} Try.checked os 6 .any (Rows.holeTellsSpec.pre6 enc Try.prog Try.f6 Rows.holeTellsRow.domain false) (Rows.holeTellsSpec.post enc Try.prog Try.f6 false true false false) := by
  refine returnsInHanded_of_change_sized (C := Try.checked) own started (by kernel_rfl) Try.func6
    (ChangeSpec.witness6 (enc := enc) (C := Try.checked) false ⟨#[], #[.agg #[.int .i64 0, .int .i64 0, .int .i64 0, .slice none 0 0], .slice none 0 0, .int .i64 0], []⟩ 8 (by kernel_rfl) (by kernel_rfl) (by kernel_rfl) (by kernel_rfl)) ?_
  intro W base args ds gs before hval0 hW hcnd hsz0 _
  exact contract H enc W base args ds gs before hval0 hW hsz0
theorem over : Rows.holeTellsRow.holds Try.pinned (OpenSpec.ofChange Rows.holeTellsSpec) :=
  OpenClaim.holds_of_wide 6 Try.f6 rfl rfl rfl rfl rfl rfl rfl ⟨rfl, rfl, rfl, rfl, rfl⟩ rfl rfl rfl rfl rfl (by kernel_rfl) Try.func6 (by kernel_rfl)
    (of_decide_eq_true (by kernel_rfl)) (by unfold Func.isWrapper; first | (rw [if_pos (by decide +kernel)]; kernel_rfl) | (rw [if_neg (by decide +kernel)]; exact ⟨rfl, rfl⟩))
    (fun os started H enc _ => lifted os started H enc)
end Go.Proofs.Ytjpmebppdcclbaa.RowHoleTells
namespace Go.Proofs.Ytjpmebppdcclbaa
theorem holeTells_holds : Rows.HoleTellsSaid := RowHoleTells.over
#print axioms holeTells_holds
end Go.Proofs.Ytjpmebppdcclbaa
