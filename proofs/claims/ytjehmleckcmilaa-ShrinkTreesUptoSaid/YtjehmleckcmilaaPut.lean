/- The contracts of tree.put and tree.Put. -/
import Derived.Test.YtjehmleckcmilaaPutT
import Derived.Deep.RegionHeld3
namespace Go.Proofs.Ytjehmleckcmilaa
open Go.RowKit

def NoB : Nat → Prop := fun _ => False

set_option maxHeartbeats 4000000 in
set_option maxRecDepth 100000 in
theorem putE : ∀ (p : List Int) (t : Tree) (v : Value) (ap : Option Addr) (cp : Nat) (s : Tree) (vs : Value) (w : World), Rd AnyB w (.sl (t.kids.map Tree.d)) [v] → Rd AnyB w (.sl (s.kids.map Tree.d)) [vs] → Sl w (.slice ap p.length cp) (ints p) → t.size ≤ 1099511627776 → s.size ≤ 1099511627776 →
    Calls Try.prog 242 #[.agg #[.int .i64 t.rule, .int .i64 t.term, v], .slice ap p.length cp, .agg #[.int .i64 s.rule, .int .i64 s.term, vs]] w (TreePost (putT t p s) w) := by
  intro p
  induction p with
  | nil =>
    intro t v ap cp s vs w hv hs hp hsz hss
    obtain ⟨a, cap, rfl, -, -⟩ := hv.form
    obtain ⟨ax, cx, rfl, -, -⟩ := hs.form
    obtain ⟨n, HN⟩ := nameIt (t.kids.map Tree.d).length
    obtain ⟨m, HM⟩ := nameIt (s.kids.map Tree.d).length
    rw [HM.out] at hs
    rw [HN.out, HM.out]
    obtain ⟨w0, HW0⟩ := nameIt (((w.alloc (.cells #[.int .i64 t.rule, .int .i64 t.term, .slice a n cap] 43)).alloc (.cells #[.int .i64 s.rule, .int .i64 s.term, .slice ax m cx] 43)).alloc (.cells #[.int .i64 0, .int .i64 0, .slice none 0 0] 43))
    have hb : Below w.heap.size w w0 := by rw [← HW0.out]; exact (((Below.refl _ _).alloc (Nat.le_refl _) _).alloc (by simp) _).alloc (by simp; omega) _
    have hres : w0.heap[w.heap.size + 1 + 1]? = some (.cells #[.int .i64 0, .int .i64 0, .slice none 0 0] 43 (0, 0)) := by rw [← HW0.out]; exact bx_new _ _ _ (by simp)
    have hsz0 : w.heap.size + 1 + 1 < w0.heap.size := (Array.getElem?_eq_some_iff.1 hres).1
    have HC := Lib.hid (cloneT s _ w0 hss (hs.below hb))
    have HB := Lib.hid hb
    have HRES := Lib.hid hres
    clear hv hs hp hb hres
    simp only [List.length_nil]
    go_enter Try.func242, Try.ntmps242
    go_wp2_with fail
    rw [HW0.out]
    refine HC.out.mono ?_
    rintro e w1 ⟨v1, rfl, hr1, hb1⟩
    obtain ⟨a1, c1, rfl, -, -⟩ := hr1.form
    obtain ⟨u1, HU1⟩ := nameIt (s.kids.map Tree.d).length
    rw [HU1.out] at hr1
    rw [HU1.out]
    have hbx := bx_keep HRES.out hb1
    obtain ⟨y0, y1, y2⟩ := bx_cells3 hbx
    obtain ⟨f0, f1, f2⟩ := bx_free3 hbx
    have hlt1 := (Array.getElem?_eq_some_iff.1 hbx).1
    have HR1 := Lib.hid hr1
    have HB1 := Lib.hid hb1
    clear hr1 hb1 hbx
    go_wp2_with fail
    refine bodyPost_ret (v := .agg #[.int .i64 s.rule, .int .i64 s.term, .slice a1 u1 c1]) (by simp [results, Try.results242, go_sem, y0, y1, y2]) rfl ?_
    have h2 : Below w.heap.size w w1 := HB.out.trans (HB1.out.mono HB.out.size)
    have h3 := (HR1.out.box3 (b := w.heap.size + 1 + 1) (by simp [FreshB]; omega) (.int .i64 s.rule) (.int .i64 s.term) (.slice a1 u1 c1)).mono (S' := FreshB w) (fun k hk _ => by have := HB.out.size; simp [FreshB] at hk ⊢; omega)
    exact ⟨_, rfl, h3, below_box3 h2 (by omega) _ _ _⟩
  | cons p0 p ih =>
    intro t v ap cp s vs w hv hs hp hsz hss
    obtain ⟨a, cap, rfl, hc1, hc2⟩ := hv.form
    obtain ⟨ax, cx, rfl, -, -⟩ := hs.form
    obtain ⟨m, HM⟩ := nameIt (s.kids.map Tree.d).length
    rw [HM.out] at hs
    rw [HM.out]
    have hlen : t.kids.length ≤ 1099511627776 := by have := sizeL_len t.kids; rw [Tree.size_eq] at hsz; omega
    have hpl := hp.len
    unfold maxLen at hpl
    obtain ⟨-, hp1, hp2⟩ := hpl
    have HV := Lib.hid hv
    have HS := Lib.hid hs
    have HP := Lib.hid hp
    have HSZ := Lib.hid hsz
    have HSS := Lib.hid hss
    have IH := Lib.hid ih
    obtain ⟨K', HK'⟩ := nameIt (putK t p0 p s)
    have hkl : K'.length = t.kids.length := by rw [← HK'.out, putK_len]
    have HTK := Lib.hid (fun j h => putK_take (t := t) (i := p0) (p := p) (s := s) (j := j) h)
    rw [HK'.out] at HTK
    obtain ⟨r, HRr⟩ := nameIt t.rule
    obtain ⟨tm, HRt⟩ := nameIt t.term
    obtain ⟨K, HKN⟩ := nameIt t.kids
    rw [List.length_map, HKN.out] at hc1
    rw [HKN.out] at hlen hkl
    rw [List.length_map, HKN.out] at HV
    simp only [HKN.out] at HTK
    rw [HRr.out, HRt.out, List.length_map, HKN.out]
    have HKL := Lib.hid hkl
    unfold maxLen at hc2
    have hpl : 0 < (p0 :: p).length := by simp
    obtain ⟨bp, op, hap, hcp⟩ := hp.at hpl
    have hc0 := hcp 0 (by rw [ints_len]; exact hpl)
    rw [ints_get] at hc0
    simp only [List.getElem_cons_zero, Nat.add_zero] at hc0
    have hbp := lt_of_cell hc0
    have HC0 := Lib.hid hc0
    have HAP := Lib.hid hap
    obtain ⟨q, HQ⟩ := nameIt p.length
    have hpl1 : (p0 :: p).length = q + 1 := by rw [← HQ.out]; simp
    rw [hpl1] at HP hp1
    rw [hpl1]
    rw [HQ.out] at IH
    clear hpl1
    clear hv hs hp hsz ih hkl hpl hcp hc0 hap hss
    obtain ⟨w0, HW0⟩ := nameIt ((((w.alloc (.cells #[.int .i64 r, .int .i64 tm, .slice a K.length cap] 43)).alloc (.cells #[.int .i64 s.rule, .int .i64 s.term, .slice ax m cx] 43)).alloc (.cells #[.int .i64 0, .int .i64 0, .slice none 0 0] 43)).alloc (.cells #[.int .i64 r, .int .i64 tm, .slice none 0 0] 43))
    have HR0 : Hid (WithRel NoB t s (.slice ax m cx) K' w 0 (.slice none 0 0) w0) := by
      rw [← HW0.out]
      refine ⟨⟨?_, ⟨[], by simpa using World.ownsRow_nil _ _ _ _, by simp [RdAll]⟩, by omega, ?_, by simp⟩, ?_, ?_, ((((Below.refl _ _).alloc (Nat.le_refl _) _).alloc (by simp) _).alloc (by simp; omega) _).alloc (by simp; omega) _⟩
      · rw [HRr.out, HRt.out]; exact bx_new _ _ _ (by simp)
      · rintro (h | h)
        · exact h
        · omega
      · exact bx_keep (bx_new _ _ _ (by simp)) ((Below.refl _ _).alloc (Nat.le_refl _) _)
      · exact bx_keep (bx_keep (bx_new _ _ _ (by simp)) ((Below.refl _ _).alloc (Nat.le_refl _) _)) ((Below.refl _ _).alloc (Nat.le_refl _) _)
    go_enter Try.func242, Try.ntmps242
    go_wp2_with fail
    rw [HW0.out]
    go_loopg [23] K.length (fun gg v23 wr => ∃ (i : Nat) (vr : Value), i ≤ K.length ∧ K.length - i ≤ gg ∧ v23 = .int .i64 i ∧ Hid (WithRel NoB t s (.slice ax m cx) K' w i vr wr))
    case atStart => exact ⟨0, _, by omega, by omega, rfl, HR0⟩
    case round =>
      clear HR0 HW0
      obtain ⟨i, vr, hi, hg, rfl, HR⟩ := hrel
      by_cases hlt : i < K.length
      · have hlt' : (i : Int) < (K.length : Int) := by omega
        obtain ⟨b, off, v, hae, -, hbl, e0, e1, e2, hkid⟩ := (HV.out.below HR.out.bel).kid hlt
        obtain ⟨av, cv, rfl, -, -⟩ := hkid.form
        obtain ⟨nv, HNV⟩ := nameIt (K[i].kids.map Tree.d).length
        rw [HNV.out] at e2 hkid
        have hms : K[i].size ≤ 1099511627776 := by
          have h1 := HSZ.out
          rw [Tree.size_eq, HKN.out] at h1
          have := sizeL_get hlt
          omega
        have HT1 := Lib.hid (HTK.out i hlt)
        obtain ⟨kid, HKI⟩ := nameIt (K[i]'hlt)
        rw [HKI.out] at e0 e1 hkid hms HT1
        have hih := fun W (hb : Below wr.heap.size wr W) ap' cp' (hp' : Sl W (.slice ap' q cp') (ints p)) => IH.out kid _ ap' cp' s _ W (hkid.below hb) ((HS.out.below HR.out.bel).below hb) hp' hms HSS.out
        have hcl := fun W (hb : Below wr.heap.size wr W) => cloneT kid _ W hms (hkid.below hb)
        obtain ⟨q0, HQ0⟩ := nameIt kid.rule
        obtain ⟨q1, HQ1⟩ := nameIt kid.term
        rw [HQ0.out] at e0 hih hcl
        rw [HQ1.out] at e1 hih hcl
        have HIH := Lib.hid hih
        have HCL := Lib.hid hcl
        have htl : (K'.take i).length = i := by have := HKL.out; simp; omega
        obtain ⟨ar, cr, hvr, hr1, hr2⟩ := HR.out.row.len
        rw [htl] at hvr hr1
        subst hvr
        obtain ⟨xs, ho, hd⟩ := HR.out.row.own
        rw [htl] at ho
        have hout := HR.out.row.out
        rw [HRr.out, HRt.out] at hout
        have hsz := HR.out.row.le
        have hszr : w.heap.size + 1 + 1 + 1 < wr.heap.size := by omega
        have hszs : w.heap.size + 1 < wr.heap.size := by omega
        have HO := Lib.hid ho
        have HD := Lib.hid hd
        have HTL := Lib.hid htl
        have hp0 := (HR.out.bel.cell (p := ⟨bp, op, none⟩) hbp).trans HC0.out
        have hbpw : bp < wr.heap.size := lt_of_cell hp0
        subst hae
        have hap := HAP.out
        subst hap
        clear hih hkid hms ho hd htl hcl
        obtain ⟨W9, HW9⟩ := nameIt (wr.alloc (.cells #[.int .i64 q0, .int .i64 q1, .slice av nv cv] 43))
        have HB9 : Hid (Below wr.heap.size wr W9) := by rw [← HW9.out]; exact (Below.refl _ _).alloc (Nat.le_refl _) _
        have HX9 : Hid (W9.heap[wr.heap.size]? = some (.cells #[.int .i64 q0, .int .i64 q1, .slice av nv cv] 43 (0, 0))) := by rw [← HW9.out]; exact bx_new _ _ _ rfl
        have HZ9 : Hid (W9.heap.size = wr.heap.size + 1) := by rw [← HW9.out]; show _ = _; simp
        obtain ⟨n0, n1, n2⟩ := bx_cells3 HX9.out
        obtain ⟨s0, s1, s2⟩ := bx_cells3 (bx_keep HR.out.sub HB9.out)
        obtain ⟨z0, z1, z2⟩ := bx_cells3 (bx_keep hout HB9.out)
        have hp0 := (HB9.out.cell (p := ⟨bp, op, none⟩) hbpw).trans hp0
        have HOUT := Lib.hid hout
        have hne1 : ¬ wr.heap.size = w.heap.size + 1 + 1 + 1 := by omega
        have hne2 : ¬ w.heap.size + 1 + 1 + 1 = wr.heap.size := by omega
        have hne3 : ¬ w.heap.size + 1 = w.heap.size + 1 + 1 + 1 := by omega
        have hne4 : ¬ w.heap.size + 1 + 1 + 1 = w.heap.size + 1 := by omega
        clear hout
        by_cases heq : (i : Int) = p0
        · rw [if_pos heq] at HT1
          have heqb : ((i : Int) == p0) = true := by simpa using heq
          clear heq
          have hcp1 : (1 : Int) ≤ (cp : Int) := by omega
          have hcp2 : (1 : Int) ≤ (q : Int) + 1 := by omega
          have hcp3 : (q : Int) + 1 ≤ (cp : Int) := by omega
          have hcp4 : (0 : Int) ≤ (q : Int) := by omega
          obtain ⟨vp, HVP, HSL⟩ : ∃ vp, Hid (vp = Value.slice (if cp = 1 then some ⟨bp, op, none⟩ else some ⟨bp, op + 1, none⟩) q (cp - 1)) ∧ Hid (Sl W9.drew vp (ints p)) := by
            refine ⟨_, rfl, ?_⟩
            have h := HP.out
            have h2 := (sl_tail (by have h3 := h; rw [← HQ.out] at h3; exact h3)).keep ((HR.out.bel.trans (HB9.out.mono HR.out.bel.size)).drew)
            rw [HQ.out] at h2
            show Sl _ _ _
            simpa [add_at] using h2
          obtain ⟨pt, HPT⟩ := nameIt (putT kid p s)
          rw [HPT.out] at HT1 HIH
          by_cases hct : cp = 1
          all_goals
            first | (rw [if_pos hct] at HVP; subst hct; obtain rfl : q = 0 := (by omega)) | rw [if_neg hct] at HVP
            go_upto_region 7 with fail
            rw [HW9.out]
            go_upto_region 8 with fail
            go_region_law
              (first
                | (refine step_app1 elTree (by rfl) _ _ (by rfl) (own_keep HO.out HBW.out) (by rfl) (by rfl) rfl (by rfl) (by rfl) (by omega) (by unfold maxLen; omega) (by have := HBW.out.size; omega) ?_; intro g cap4 w4 ho4 hg4 hat hlt4; obtain ⟨hx4, hR4⟩ := WithRel.next HR.out HBW.out HTL.out HO.out HD.out HT1.out HRD.out (by rw [HR2n.out, HT2n.out]; exact ho4) hg4 hat; obtain ⟨_, _, j2⟩ := bx_cells3 hx4; obtain ⟨_, _, jf2⟩ := bx_free3 hx4; have HR4 := Lib.hid hR4; have hlt5 : w.heap.size + 1 + 1 + 1 < w4.heap.size := (Array.getElem?_eq_some_iff.1 hx4).1; clear ho4 hg4 hat hx4 hR4)
                | (go_simp; go_at_call 242; ((with_reducible refine (HIH.out _ HB9.out.drew _ _ (by have h := HSL.out; rw [HVP.out] at h; simpa using h)).mono ?_); rintro e w2 ⟨v2, rfl, hr2, hb2⟩; obtain ⟨a2, c2, rfl, -, -⟩ := hr2.form; obtain ⟨u2, HU2⟩ := nameIt (pt.kids.map Tree.d).length; obtain ⟨r2, HR2n⟩ := nameIt pt.rule; obtain ⟨t2, HT2n⟩ := nameIt pt.term; rw [HU2.out] at hr2; rw [HU2.out, HR2n.out, HT2n.out]; have hbw : Below wr.heap.size wr w2 := HB9.out.drew.trans (hb2.mono HB9.out.size); have hx9 := bx_keep (w := W9.drew) HX9.out hb2; obtain ⟨k0, k1, k2⟩ := bx_cells3 hx9; obtain ⟨_, _, k3⟩ := bx_cells3 (bx_keep HOUT.out hbw); have hz2 : wr.heap.size < w2.heap.size := (Array.getElem?_eq_some_iff.1 hx9).1; have hz3 : w.heap.size + 1 + 1 + 1 < w2.heap.size := Nat.lt_trans hszr hz2; have HRD : Hid (Rd (fun k => (NoB k ∨ w.heap.size + 1 + 1 + 1 + 1 ≤ k) ∧ (Value.slice ar i cr).ownBlock ≠ some k) w2 (.sl (pt.kids.map Tree.d)) [.slice a2 u2 c2]) := (hr2.mono (fun k hk _ => ⟨.inr (by have h := HZ9.out; have h2 : W9.heap.size ≤ k := hk; omega), fun e => by have h := HZ9.out; have h2 : W9.heap.size ≤ k := hk; have := (HO.out.lt k e).2; omega⟩)); have HBW := Lib.hid hbw; clear hr2 hb2 hbw hx9)))
            all_goals
             go_wp2_with fail
             go_roundg (K.length - (i + 1))
             case measure => omega
             case rel => exact ⟨i + 1, _, by omega, by omega, by go_num, HR4⟩
        · rw [if_neg heq] at HT1
          have heqb : ((i : Int) == p0) = false := by simpa using heq
          clear heq
          go_upto_region 7 with fail
          rw [HW9.out]
          go_upto_region 9 with fail
          go_region_law
            (first
              | (refine step_app1 elTree (by rfl) _ _ (by rfl) (own_keep HO.out HBW.out) (by rfl) (by rfl) rfl (by rfl) (by rfl) (by omega) (by unfold maxLen; omega) (by have := HBW.out.size; omega) ?_; intro g cap4 w4 ho4 hg4 hat hlt4; obtain ⟨hx4, hR4⟩ := WithRel.next HR.out HBW.out HTL.out HO.out HD.out HT1.out HRD.out (by rw [HR2n.out, HT2n.out]; exact ho4) hg4 hat; obtain ⟨_, _, j2⟩ := bx_cells3 hx4; obtain ⟨_, _, jf2⟩ := bx_free3 hx4; have HR4 := Lib.hid hR4; have hlt5 : w.heap.size + 1 + 1 + 1 < w4.heap.size := (Array.getElem?_eq_some_iff.1 hx4).1; clear ho4 hg4 hat hx4 hR4)
              | (go_simp; go_at_call 141; ((with_reducible refine (HCL.out _ HB9.out.drew).mono ?_); rintro e w2 ⟨v2, rfl, hr2, hb2⟩; obtain ⟨a2, c2, rfl, -, -⟩ := hr2.form; obtain ⟨u2, HU2⟩ := nameIt (kid.kids.map Tree.d).length; obtain ⟨r2, HR2n⟩ := nameIt kid.rule; obtain ⟨t2, HT2n⟩ := nameIt kid.term; rw [HU2.out] at hr2; rw [HU2.out, HR2n.out, HT2n.out]; have hbw : Below wr.heap.size wr w2 := HB9.out.drew.trans (hb2.mono HB9.out.size); have hx9 := bx_keep (w := W9.drew) HX9.out hb2; obtain ⟨k0, k1, k2⟩ := bx_cells3 hx9; obtain ⟨_, _, k3⟩ := bx_cells3 (bx_keep HOUT.out hbw); have hz2 : wr.heap.size < w2.heap.size := (Array.getElem?_eq_some_iff.1 hx9).1; have hz3 : w.heap.size + 1 + 1 + 1 < w2.heap.size := Nat.lt_trans hszr hz2; have HRD : Hid (Rd (fun k => (NoB k ∨ w.heap.size + 1 + 1 + 1 + 1 ≤ k) ∧ (Value.slice ar i cr).ownBlock ≠ some k) w2 (.sl (kid.kids.map Tree.d)) [.slice a2 u2 c2]) := (hr2.mono (fun k hk _ => ⟨.inr (by have h := HZ9.out; have h2 : W9.heap.size ≤ k := hk; omega), fun e => by have h := HZ9.out; have h2 : W9.heap.size ≤ k := hk; have := (HO.out.lt k e).2; omega⟩)); have HBW := Lib.hid hbw; clear hr2 hb2 hbw hx9)))
          all_goals
           go_wp2_with fail
           go_roundg (K.length - (i + 1))
           case measure => omega
           case rel => exact ⟨i + 1, _, by omega, by omega, by go_num, HR4⟩
      · have hlt' : ¬ (i : Int) < (K.length : Int) := by omega
        have hout := HR.out.row.out
        rw [HRr.out, HRt.out] at hout
        have htk : K'.take i = K' := List.take_of_length_le (by have := HKL.out; omega)
        obtain ⟨ar, cr, hvr, hr1, hr2⟩ := HR.out.row.len
        rw [htk] at hvr hr1
        subst hvr
        obtain ⟨xs, ho, hd⟩ := HR.out.row.own
        rw [htk] at ho hd
        obtain ⟨z0, z1, z2⟩ := bx_cells3 hout
        obtain ⟨y0, y1, y2⟩ := bx_cells3 HR.out.res
        obtain ⟨f0, f1, f2⟩ := bx_free3 HR.out.res
        have hsz := HR.out.row.le
        have hszr : w.heap.size + 1 + 1 + 1 < wr.heap.size := by omega
        have HO := Lib.hid ho
        have HD := Lib.hid hd
        clear hout ho hd htk
        go_wp2_with fail
        refine bodyPost_ret (v := .agg #[.int .i64 r, .int .i64 tm, .slice ar K'.length cr]) (by simp [results, Try.results242, go_sem, y0, y1, y2]) rfl ?_
        rw [putT_cons, HRr.out, HRt.out, HK'.out]
        refine ⟨_, rfl, ?_, by simpa using below_box3 HR.out.bel (b := w.heap.size + 1 + 1) (by omega) (.int .i64 r) (.int .i64 tm) (.slice ar K'.length cr)⟩
        have hb := grown_box3 (w.heap.size + 1 + 1) wr (.int .i64 r) (.int .i64 tm) (.slice ar K'.length cr)
        refine rd_of_own (HO.out.kept hb (.inr fun e => by have := (HO.out.lt _ e).1; omega)) (RdAll.keep (fun k hk hlt => ⟨?_, hb.block k hlt ?_⟩) _ _ HD.out) (by simp [Tree.kids]) (fun k e => by have := (HO.out.lt _ e).1; show _ ≤ _; omega)
        · rcases hk.1 with h | h
          · exact h.elim
          · show _ ≤ _; omega
        · intro e
          cases e
          rcases hk.1 with h | h
          · exact h
          · omega
end Go.Proofs.Ytjehmleckcmilaa
