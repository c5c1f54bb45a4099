/- doc.norm. -/
import Derived.Test.YtgpikophndbmeaaDocNoI
import Derived.Test.YtgpikophndbmeaaDocHas
namespace Go.Proofs.Ytgpikophndbmeaa
open Go.RowKit
namespace Dc

set_option maxHeartbeats 4000000 in
set_option maxRecDepth 100000 in
theorem normE : ∀ (m : Nat) (t : Doc) (v : Value) (w : World), (nodes t).length ≤ m → (nodes t).length ≤ 100000 → okA t → Rd AnyB w (.sl (t.kids.map Doc.d)) [v] →
    Calls Try.prog 19 #[.agg #[.int .i64 t.kind, .string t.txt, .int .i64 t.n, v]] w (CatPost NoB (nrm t) w) := by
  intro m
  induction m with
  | zero => intro t v w hm; have := nodes_pos t; omega
  | succ m ih =>
  intro t v w hm hN hok hv
  obtain ⟨a, cap, rfl, hc1, hc2⟩ := hv.form
  unfold maxLen at hc2
  have HIH := Lib.hid ih
  have HV := Lib.hid hv
  have HM := Lib.hid hm
  have HN := Lib.hid hN
  obtain ⟨hok1, hok2⟩ := (okA_iff t).1 hok
  obtain ⟨p1, p2, p3, p4, p5, p6, p7, p8⟩ := ok_parts hok1
  have HKO := Lib.hid hok2
  have HNE := Lib.hid (nrm_eq t)
  obtain ⟨nk, HNK⟩ := nameIt (t.kids.map Doc.d).length
  have HKL : Hid (t.kids.length = nk) := by show _ = _; rw [← HNK.out, List.length_map]
  have HKM : Hid (∀ k ∈ t.kids, (nodes k).length ≤ m ∧ (nodes k).length ≤ 100000) := fun k hk => by
    have h1 := nodes_kid k hk
    have h2 := HM.out
    have h3 := HN.out
    rw [nodes_eq] at h2 h3
    simp at h2 h3
    omega
  have HNL : Hid (nk ≤ 100000) := by
    show _ ≤ _
    rw [← HKL.out]
    have h1 := len_szL t.kids
    have h2 : sz t ≤ 100000 := HN.out
    rw [sz_eq] at h2
    omega
  obtain ⟨PST, HP⟩ := nameIt (CatPost NoB (nrm t) w)
  have HFIN : Hid (∀ (d : Doc) u w', nrm t = d → Rd (fun k => w.heap.size ≤ k) w' (.sl (d.kids.map Doc.d)) [u] → Below w.heap.size w w' → PST (.returned (.agg #[.int .i64 d.kind, .string d.txt, .int .i64 d.n, u])) w') := fun d u w' hd h1 h2 => by subst hd; rw [← HP.out]; exact ⟨u, rfl, h1.mono fun k hk _ => .inr hk, h2⟩
  rw [HP.out]
  obtain ⟨tk, HTK⟩ := nameIt t.kind
  obtain ⟨tx, HTX⟩ := nameIt t.txt
  obtain ⟨tn, HTN⟩ := nameIt t.n
  rw [HNK.out] at hc1 HV
  rw [HTK.out, HTX.out, HTN.out] at HNE
  rw [HTK.out] at p1 p2 p3 p4 p5 p6 p7 p8
  rw [HTX.out] at p5 p6
  rw [HTN.out] at p7 p8
  rw [HTK.out, HTX.out, HTN.out, HNK.out]
  obtain ⟨wa, HWA⟩ := nameIt ((w.alloc (.cells #[.int .i64 tk, .string tx, .int .i64 tn, .slice a nk cap] 24)).alloc (.cells #[.int .i64 0, .string ⟨#[]⟩, .int .i64 0, .slice none 0 0] 24))
  have hba : Below w.heap.size w wa := by rw [← HWA.out]; exact ((Below.refl _ _).alloc (Nat.le_refl _) _).alloc (by simp) _
  have HXA : Hid (wa.heap[w.heap.size]? = some (.cells #[.int .i64 tk, .string tx, .int .i64 tn, .slice a nk cap] 24 (0, 0))) := by rw [← HWA.out]; exact bx_keep (bx_new _ _ _ rfl) ((Below.refl _ _).alloc (Nat.le_refl _) _)
  have HRA : Hid (wa.heap[w.heap.size + 1]? = some (.cells #[.int .i64 0, .string ⟨#[]⟩, .int .i64 0, .slice none 0 0] 24 (0, 0))) := by rw [← HWA.out]; exact bx_new _ _ _ (by simp)
  have HSA : Hid (wa.heap.size = w.heap.size + 2) := by rw [← HWA.out]; show _ = _; simp
  obtain ⟨w0, HW0⟩ := nameIt (wa.alloc (.cells #[.int .i64 tk, .string tx, .int .i64 tn, .slice none 0 0] 24))
  have HI0 : Hid (NoI w tk tn tx (.slice a nk cap) ((t.kids.take 0).map nrm) (.slice none 0 0) w0) := by
    have hb : Below wa.heap.size wa w0 := by rw [← HW0.out]; exact (Below.refl _ _).alloc (Nat.le_refl _) _
    refine ⟨⟨RowD.nil _ _ _ _ _ (by have h := HSA.out; rw [← HW0.out]; simp; omega), bx_keep HXA.out hb, bx_keep HRA.out hb, hba.trans (hb.mono hba.size)⟩, by rw [← HW0.out]; exact bx_new _ _ _ HSA.out.symm⟩
  obtain ⟨x0, x1, x2, x3⟩ := bx_cells4d HXA.out
  clear hm hN hok hok1 hok2 hv ih hba
  go_enter Try.func19, Try.ntmps19
  go_upto_region 1 with fail
  rw [HWA.out]
  go_upto_region 2 with fail
  rw [HSA.out, HW0.out]
  clear x0 x1 x2 x3
  obtain ⟨x0, x1, x2, x3⟩ := bx_cells4d HI0.out.base.top
  go_wp2_with fail
  clear x0 x1 x2 x3
  go_loopg [23] nk (fun gg v23 wr => ∃ (i : Nat) (v : Value), i ≤ nk ∧ nk - i ≤ gg ∧ v23 = .int .i64 i ∧ Hid (NoI w tk tn tx (.slice a nk cap) ((t.kids.take i).map nrm) v wr))
  case atStart => exact ⟨0, _, by omega, by omega, rfl, HI0⟩
  case round =>
    clear HI0 HW0 HWA HXA HRA HSA
    obtain ⟨i, vr, hi, hg, rfl, HI⟩ := hrel
    obtain ⟨wo, rfl⟩ : ∃ ww : World, ww = wr := ⟨_, rfl⟩
    obtain ⟨a3, c3, rfl, hs1, hs2, hs3⟩ := HI.out.base.row.form
    have HOL := Lib.hid hs3
    have HLN : Hid (((t.kids.take i).map nrm).map Doc.d = ((t.kids.take i).map nrm).map Doc.d ∧ (((t.kids.take i).map nrm).map Doc.d).length = i) := ⟨rfl, by simp; rw [HKL.out]; omega⟩
    rw [HLN.out.2] at HI HOL hs1
    unfold maxLen at hs2
    clear hs3
    by_cases hlt : i < nk
    · have hlt' : (i : Int) < (nk : Int) := by omega
      have hix : i < t.kids.length := by rw [HKL.out]; exact hlt
      obtain ⟨b, off, v, hae, -, hbl0, j0, j1, j2, j3, hkid⟩ := Rd.kid HV.out hix
      obtain ⟨av, cv, rfl, hd1, hd2⟩ := hkid.form
      have HT : Hid ((t.kids.take (i + 1)).map nrm = (t.kids.take i).map nrm ++ [nrm t.kids[i]]) := nrm_kids hix
      have hkm := HKM.out t.kids[i] (List.getElem_mem hix)
      have hko := HKO.out t.kids[i] (List.getElem_mem hix)
      obtain ⟨x, HX⟩ := nameIt (t.kids[i]'hix)
      rw [HX.out] at j0 j1 j2 j3 hkid HT hkm hko hd1
      have hbw := HI.out.base.bel
      have e0 := (hbw.cell (p := ⟨b, off + i * 4, none⟩) hbl0).trans j0
      have e1 := (hbw.cell (p := ⟨b, off + i * 4 + 1, none⟩) hbl0).trans j1
      have e2 := (hbw.cell (p := ⟨b, off + i * 4 + 2, none⟩) hbl0).trans j2
      have e3 := (hbw.cell (p := ⟨b, off + i * 4 + 3, none⟩) hbl0).trans j3
      have hbl : b < wo.heap.size := Nat.lt_of_lt_of_le hbl0 hbw.size
      obtain ⟨nv, HNV⟩ := nameIt (x.kids.map Doc.d).length
      rw [HNV.out] at e3 hkid hd1
      have hcall := fun W (hb : Below wo.heap.size wo W) => HIH.out x _ W hkm.1 hkm.2 hko ((hkid.below hbw).below hb)
      obtain ⟨q0, HQ0⟩ := nameIt x.kind
      obtain ⟨q1, HQ1⟩ := nameIt x.txt
      obtain ⟨q2, HQ2⟩ := nameIt x.n
      rw [HQ0.out] at e0
      rw [HQ1.out] at e1
      rw [HQ2.out] at e2
      simp only [HQ0.out, HQ1.out, HQ2.out] at hcall
      have HC := Lib.hid hcall
      obtain ⟨nx, HNX⟩ := nameIt (nrm x)
      simp only [HNX.out] at HC
      rw [HNX.out] at HT
      obtain ⟨ys, ho, hd⟩ := HI.out.base.row.own
      rw [HLN.out.2] at ho
      have HO := Lib.hid ho
      have HD := Lib.hid hd
      obtain ⟨z0, z1, z2, z3⟩ := bx_cells4d HI.out.out
      have HLE := HI.out.base.row.le
      have hszr : w.heap.size + 2 < wo.heap.size := by omega
      have hn100 := HNL.out
      subst hae
      clear j0 j1 j2 j3 hkid hkm hko hcall hbw ho hd
      go_wp2_with fail
      go_region_law
        (first
          | (refine step_app1 elDoc (by rfl) _ _ (by rfl) (own_keep HO.out HBW.out) (by rfl) (by rfl) rfl (by rfl) (by rfl) (by omega) (by unfold maxLen; omega) (by have := HBW.out.size; omega) ?_; intro g cap3 w3 ho3 hg3 hat3 hlt3; have hst := NoI.step (wr := wo) (x := nx) (HI.out.keep HBW.out) HBW.out (fun k e => (HOL.out k e).2) HLE (own_keep HO.out HBW.out) (HD.out.below HBW.out) HLN.out.2.symm (HR2.out.mono (fun k hk _ => by have h : NoB k ∨ wo.heap.size + 1 ≤ k := (by simpa using hk); exact Nat.le_of_succ_le (h.resolve_left id))) ho3 hg3 (hat3.elim (fun h => .inl h.symm) (fun h => .inr ⟨g, rfl, h⟩)); obtain ⟨_, _, _, j0⟩ := bx_cells4d hst.1; obtain ⟨_, _, _, jf⟩ := bx_free4 hst.1; have HST := Lib.hid hst.2; have hlt4 : w.heap.size + 2 < w3.heap.size := (by have := hg3.size; omega); clear hst ho3 hg3 hat3)
          | (go_simp; go_at_call 19; (refine (HC.out _ (((Below.refl _ _).alloc (Nat.le_refl _) _).drew)).mono ?_; rintro e w2 ⟨v2, rfl, hr2, hb2⟩; obtain ⟨a2, c2, rfl, -, -⟩ := hr2.form; obtain ⟨nu, HNU⟩ := nameIt (nx.kids.map Doc.d).length; rw [HNU.out] at hr2 ⊢; have hbw : Below wo.heap.size wo w2 := ((Below.refl _ _).alloc (Nat.le_refl _) _).drew.trans (hb2.mono (by simp)); have k0 := (hbw.cell (p := ⟨w.heap.size + 2, 0 + 3, none⟩) hszr).trans z3; have hbx := bx_keep (w := (wo.alloc (.cells #[.int .i64 q0, .string q1, .int .i64 q2, .slice av nv cv] 24)).drew) (bx_new wo _ wo.heap.size rfl) hb2; obtain ⟨k1, k2, k3, k4⟩ := bx_cells4d hbx; have hz2 : wo.heap.size < w2.heap.size := (Array.getElem?_eq_some_iff.1 hbx).1; have hz3 : w.heap.size + 2 < w2.heap.size := Nat.lt_trans hszr hz2; have HBW := Lib.hid hbw; have HR2 := Lib.hid hr2; clear hbx hbw hr2 hb2)))
      all_goals
       rw [← HT.out] at HST
       go_wp2_with fail
       go_roundg (nk - (i + 1))
       case measure => omega
       case rel => exact ⟨i + 1, _, by omega, by omega, by go_num, HST⟩
    · have hlt' : ¬ (i : Int) < (nk : Int) := by omega
      obtain rfl : i = nk := by omega
      have htl : t.kids.take i = t.kids := List.take_of_length_le (by rw [HKL.out]; omega)
      rw [htl] at HI HLN
      obtain ⟨x0, x1, x2, x3⟩ := bx_cells4d HI.out.base.top
      obtain ⟨y0, y1, y2, y3⟩ := bx_cells4d HI.out.base.res
      obtain ⟨f0, f1, f2, f3⟩ := bx_free4 HI.out.base.res
      obtain ⟨z0, z1, z2, z3⟩ := bx_cells4d HI.out.out
      have hlr := HI.out.base.row.le
      have HRD : Hid (∀ w', wo.grownBy w' (some (w.heap.size + 1)) → Rd (fun k => w.heap.size ≤ k) w' (.sl ((t.kids.map nrm).map Doc.d)) [.slice a3 i c3]) := fun w' hw => by
        have hrr := HI.out.base.row.rd
        refine Rd.keep (fun k hk hlt => ?_) _ _ hrr
        have hk2 : w.heap.size + 3 ≤ k := by rcases hk with hk | hk <;> exact hk
        exact ⟨by show _ ≤ _; omega, hw.block k hlt (fun e => by simp at e; omega)⟩
      have HST := Lib.hid (fun c0 c1 c2 c3 => stored4 (c0 := c0) (c1 := c1) (c2 := c2) (c3 := c3) HI.out.base.bel (Nat.le_succ w.heap.size))
      clear htl hg hi
      by_cases k5 : tk = 5
      · subst k5
        obtain ⟨x, hkx⟩ := p4 (.inl rfl)
        obtain rfl := p6 (by omega)
        have hn20 := p7 rfl
        have hi1 : i = 1 := by rw [← HKL.out, hkx]; rfl
        have hxo := HKO.out x (by rw [hkx]; simp)
        have hxN := (nrm_ok _ x (Nat.le_refl _) hxo)
        have hxs := (HKM.out x (by rw [hkx]; simp)).2
        have hne := HNE.out
        rw [if_pos rfl, hkx] at hne
        have hne2 : nrm t = nestD tn (nrm x) := hne
        have hmk : t.kids.map nrm = [nrm x] := by rw [hkx]; rfl
        rw [hmk] at HRD HI
        obtain ⟨g, cg, u, hae, hbl, e0, e1, e2, e3, hkid⟩ := RowD.elem (L := [nrm x]) HI.out.base.row (i := 0) (by simp)
        simp only [List.getElem_cons_zero, Nat.zero_mul, Nat.zero_add] at e0 e1 e2 e3 hkid
        obtain ⟨rfl, rfl⟩ : a3 = some ⟨g, 0, none⟩ ∧ c3 = cg := by cases hae; exact ⟨rfl, rfl⟩
        obtain ⟨au, cu, rfl, hd1, hd2⟩ := hkid.form
        have hyo := ok_parts ((okA_iff _).1 hxN.1).1
        obtain ⟨y, HY⟩ := nameIt (nrm x)
        rw [HY.out] at e0 e1 e2 e3 hkid hne2 hxN hyo hd1 HRD HI
        obtain ⟨w6, HW6⟩ := nameIt (wo.alloc (.cells #[.int .i64 y.kind, .string y.txt, .int .i64 y.n, .slice au (y.kids.map Doc.d).length cu] 24))
        have hb6 : Below wo.heap.size wo w6 := by rw [← HW6.out]; exact (Below.refl _ _).alloc (Nat.le_refl _) _
        have hx6 : w6.heap[wo.heap.size]? = some (.cells #[.int .i64 y.kind, .string y.txt, .int .i64 y.n, .slice au (y.kids.map Doc.d).length cu] 24 (0, 0)) := by rw [← HW6.out]; exact bx_new _ _ _ rfl
        have hs6 : w6.heap.size = wo.heap.size + 1 := by rw [← HW6.out]; simp
        have HK6 := Lib.hid (hkid.below hb6)
        have HKS := Lib.hid (hkid.mono (S' := fun k => w.heap.size + 3 ≤ k ∧ k < wo.heap.size) fun k hk hlt => ⟨hk, hlt⟩)
        have HX6 := Lib.hid hx6
        have HB6 := Lib.hid hb6
        have HHS := Lib.hid (fun W (h : Below w6.heap.size w6 W) (b c : Nat) (hs : Sl W (.slice (some ⟨b, 0, none⟩) 3 c) (ints [1, 2, 3])) => hasE [1, 2, 3] y _ (some ⟨b, 0, none⟩) c W ((HK6.out.below h).any) hs)
        rw [any_line] at HHS
        have hgl : g < wo.heap.size := hbl
        obtain ⟨nv, HNV⟩ := nameIt (y.kids.map Doc.d).length
        obtain ⟨q0, HQ0⟩ := nameIt y.kind
        obtain ⟨q1, HQ1⟩ := nameIt y.txt
        obtain ⟨q2, HQ2⟩ := nameIt y.n
        obtain ⟨p'1, p'2, p'3, p'4, p'5, p'6, p'7, p'8⟩ := hyo
        rw [HNV.out] at e3 HW6 HX6 HHS HK6 HKS hd1
        rw [HQ0.out] at e0 HW6 HX6 HHS p'6 p'7
        rw [HQ1.out] at e1 HW6 HX6 HHS p'6
        rw [HQ2.out] at e2 HW6 HX6 HHS p'7
        have HQQ : Hid (nestD tn y = if tn = 0 ∨ (nodes y).any isLine = false then y else if q0 = 5 ∧ q2 + tn ≤ 20 then .mk 5 ⟨#[]⟩ (q2 + tn) y.kids else .mk 5 ⟨#[]⟩ tn [y]) := by
          show _ = _
          rw [← HQ0.out, ← HQ2.out]; rfl
        have hne3 := hne2.trans HQQ.out
        obtain ⟨AB, HAB⟩ := nameIt ((nodes y).any isLine)
        rw [HAB.out] at hne3 HHS
        have HP7 := Lib.hid p'7
        subst hi1
        clear hkid hae hxo hxN hxs hne hne2 HQQ hmk hkx hb6 hx6 p1 p2 p3 p4 p5 p6 p7 p8 p'1 p'2 p'3 p'4 p'5 p'6 p'7 p'8
        go_upto_region 10 with fail
        rw [HW6.out]
        have HFA : Hid ((tn = 0 ∨ AB = false) → ∀ w', Rd (fun k => w.heap.size ≤ k) w' (.sl (y.kids.map Doc.d)) [.slice au nv cu] → Below w.heap.size w w' → PST (.returned (.agg #[.int .i64 q0, .string q1, .int .i64 q2, .slice au nv cu])) w') := fun h w' h1 h2 => by
          rw [if_pos h] at hne3
          rw [← HQ0.out, ← HQ1.out, ← HQ2.out]
          exact HFIN.out y _ w' hne3 h1 h2
        have HFB : Hid (¬ (tn = 0 ∨ AB = false) → nrm t = if q0 = 5 ∧ q2 + tn ≤ 20 then .mk 5 ⟨#[]⟩ (q2 + tn) y.kids else .mk 5 ⟨#[]⟩ tn [y]) := fun h => by rw [if_neg h] at hne3; exact hne3
        have HKD : Hid (∀ W w', Below wo.heap.size wo W → W.grownBy w' (some (w.heap.size + 1)) → Rd (fun k => w.heap.size ≤ k) w' (.sl (y.kids.map Doc.d)) [.slice au nv cu]) := fun W w' hb hw =>
          Rd.keep (fun k hk hlt => ⟨by show _ ≤ _; omega, hw.block k hlt (fun e => by simp at e; omega)⟩) _ _ (HKS.out.below hb)
        clear hne3 x0 x1 x2 x3 y0 y1 y2 y3 f0 f1 f2 f3 e0 e1 e2 e3 z0 z1 z2 z3
        by_cases hA0 : tn = 0
        · subst hA0
          have HI6 := Lib.hid (HI.out.keep HB6.out)
          obtain ⟨x0, x1, x2, x3⟩ := bx_cells4d HI6.out.base.top
          obtain ⟨y0, y1, y2, y3⟩ := bx_cells4d HI6.out.base.res
          obtain ⟨f0, f1, f2, f3⟩ := bx_free4 HI6.out.base.res
          obtain ⟨z0, z1, z2, z3⟩ := bx_cells4d HX6.out
          have hne6 : ¬ w.heap.size + 1 = wo.heap.size := by omega
          have hne7 : ¬ wo.heap.size = w.heap.size + 1 := by omega
          have HST6 := Lib.hid (fun c0 c1 c2 c3 => stored4 (c0 := c0) (c1 := c1) (c2 := c2) (c3 := c3) HI6.out.base.bel (Nat.le_succ w.heap.size))
          go_wp2_with fail
          refine bodyPost_ret (v := .agg #[.int .i64 q0, .string q1, .int .i64 q2, .slice au nv cu]) (by simp [results, Try.results19, go_sem, y0, y1, y2, y3]) rfl ?_
          have hst := HST6.out (.int .i64 q0) (.string q1) (.int .i64 q2) (.slice au nv cu)
          exact HFA.out (by simp) _ (HKD.out _ _ HB6.out hst.1) hst.2
        · have hA0' : (tn == 0) = false := by simpa using hA0
          have HI6 := Lib.hid (HI.out.keep HB6.out)
          obtain ⟨x0, x1, x2, x3⟩ := bx_cells4d HI6.out.base.top
          obtain ⟨z0, z1, z2, z3⟩ := bx_cells4d HX6.out
          obtain ⟨w7, HW7⟩ := nameIt (w6.alloc (.cells #[.int .i64 1, .int .i64 2, .int .i64 3] 3))
          have hb7 : Below w6.heap.size w6 w7 := by rw [← HW7.out]; exact (Below.refl _ _).alloc (Nat.le_refl _) _
          have HH7 := Lib.hid (HHS.out w7 hb7 (wo.heap.size + 1) 3 (by
            rw [← HW7.out]
            exact sl_of_own (own_litD (w := w6) (B := 0) (g := wo.heap.size + 1) (e := 3) (size := 1) (n := 3) (news := #[.int .i64 1, .int .i64 2, .int .i64 3]) hs6.symm (Nat.zero_le _) (by rfl) (by simp [maxLen]))))
          have HB7 := Lib.hid hb7
          have hz7 := hb7
          clear hb7
          go_wp2_with fail
          rw [HW7.out]
          refine HH7.out.mono ?_
          rintro e w8 ⟨rfl, hb8⟩
          have HB68 := Lib.hid (HB7.out.trans (hb8.mono HB7.out.size))
          have HB8 := Lib.hid (HB6.out.trans (HB68.out.mono HB6.out.size))
          have HI8 := Lib.hid (HI.out.keep HB8.out)
          clear x0 x1 x2 x3 z0 z1 z2 z3 hz7 hb8
          obtain ⟨x0, x1, x2, x3⟩ := bx_cells4d HI8.out.base.top
          obtain ⟨y0, y1, y2, y3⟩ := bx_cells4d HI8.out.base.res
          obtain ⟨f0, f1, f2, f3⟩ := bx_free4 HI8.out.base.res
          have hx68 := bx_keep HX6.out HB68.out
          obtain ⟨z0, z1, z2, z3⟩ := bx_cells4d hx68
          obtain ⟨j0, j1, j2, j3⟩ := bx_cells4d HI8.out.out
          have hne6 : ¬ w.heap.size + 1 = wo.heap.size := by omega
          have hne7 : ¬ wo.heap.size = w.heap.size + 1 := by omega
          have HST8 := Lib.hid (fun c0 c1 c2 c3 => stored4 (c0 := c0) (c1 := c1) (c2 := c2) (c3 := c3) HI8.out.base.bel (Nat.le_succ w.heap.size))
          clear hx68
          cases AB with
          | false =>
            go_wp2_with fail
            refine bodyPost_ret (v := .agg #[.int .i64 q0, .string q1, .int .i64 q2, .slice au nv cu]) (by simp [results, Try.results19, go_sem, y0, y1, y2, y3]) rfl ?_
            have hst := HST8.out (.int .i64 q0) (.string q1) (.int .i64 q2) (.slice au nv cu)
            exact HFA.out (by simp) _ (HKD.out _ _ HB8.out hst.1) hst.2
          | true =>
            have hne3 := HFB.out (by simp [hA0])
            have HRE : Hid (∀ w', w8.grownBy w' (some (w.heap.size + 1)) → Rd (fun k => w.heap.size ≤ k) w' (.sl (([y] : List Doc).map Doc.d)) [.slice (some ⟨g, 0, none⟩) 1 c3]) := fun w' hw => by
              have hrr := HI8.out.base.row.rd
              refine Rd.keep (fun k hk hlt => ?_) _ _ hrr
              have hk2 : w.heap.size + 3 ≤ k := by rcases hk with hk | hk <;> exact hk
              exact ⟨by show _ ≤ _; omega, hw.block k hlt (fun e => by simp at e; omega)⟩
            by_cases hB : q0 = 5 ∧ q2 + tn ≤ 20
            · rw [if_pos hB] at hne3
              obtain ⟨rfl, hB2⟩ := hB
              have hp7 := HP7.out rfl
              obtain ⟨ns, HNS⟩ := nameIt (q2 + tn)
              have hwr : IntKind.i64.wrap (q2 + tn) = ns := by rw [← HNS.out]; exact IntWalk.i64_in _ (by omega)
              have hns : ns ≤ 20 := by rw [← HNS.out]; exact hB2
              rw [HNS.out] at hne3
              have HF := Lib.hid (fun w' => HFIN.out (.mk 5 ⟨#[]⟩ ns y.kids) (.slice au nv cu) w' hne3)
              clear hne3 hB2 hp7
              go_wp2_with fail
              refine bodyPost_ret (v := .agg #[.int .i64 5, .string ⟨#[]⟩, .int .i64 ns, .slice au nv cu]) (by simp [results, Try.results19, go_sem, y0, y1, y2, y3]) rfl ?_
              have hst := HST8.out (.int .i64 5) (.string ⟨#[]⟩) (.int .i64 ns) (.slice au nv cu)
              exact HF.out _ (HKD.out _ _ HB8.out hst.1) hst.2
            · rw [if_neg hB] at hne3
              have HF := Lib.hid (fun w' => HFIN.out (.mk 5 ⟨#[]⟩ tn [y]) (.slice (some ⟨g, 0, none⟩) 1 c3) w' hne3)
              clear hne3
              by_cases h5 : q0 = 5
              · subst h5
                have hp7 := HP7.out rfl
                have hwr : IntKind.i64.wrap (q2 + tn) = q2 + tn := IntWalk.i64_in _ (by omega)
                have hns : ¬ q2 + tn ≤ 20 := fun h => hB ⟨rfl, h⟩
                clear hB hp7
                go_wp2_with fail
                refine bodyPost_ret (v := .agg #[.int .i64 5, .string ⟨#[]⟩, .int .i64 tn, .slice (some ⟨g, 0, none⟩) 1 c3]) (by simp [results, Try.results19, go_sem, y0, y1, y2, y3]) rfl ?_
                have hst := HST8.out (.int .i64 5) (.string ⟨#[]⟩) (.int .i64 tn) (.slice (some ⟨g, 0, none⟩) 1 c3)
                exact HF.out _ (HRE.out _ hst.1) hst.2
              · have h5' : (q0 == 5) = false := by simpa using h5
                clear hB
                go_wp2_with fail
                refine bodyPost_ret (v := .agg #[.int .i64 5, .string ⟨#[]⟩, .int .i64 tn, .slice (some ⟨g, 0, none⟩) 1 c3]) (by simp [results, Try.results19, go_sem, y0, y1, y2, y3]) rfl ?_
                have hst := HST8.out (.int .i64 5) (.string ⟨#[]⟩) (.int .i64 tn) (.slice (some ⟨g, 0, none⟩) 1 c3)
                exact HF.out _ (HRE.out _ hst.1) hst.2
      · have k5' : (tk == 5) = false := by simpa using k5
        by_cases k4 : tk = 4
        · subst k4
          obtain rfl := p6 (by omega)
          obtain rfl := p8 (by omega)
          have hne := HNE.out
          rw [if_neg (by omega), if_pos rfl] at hne
          obtain ⟨xs, HXS⟩ := nameIt (t.kids.map nrm)
          rw [HXS.out] at HI HLN hne HRD
          have hXO : ∀ x ∈ xs, okA x := fun x hx => by
            rw [← HXS.out] at hx
            obtain ⟨k, h1, rfl⟩ := List.mem_map.1 hx
            exact (nrm_ok _ k (Nat.le_refl _) (HKO.out k h1)).1
          have hXN : szL xs ≤ 2000000 := by
            have h2 : sz t ≤ 100000 := HN.out
            rw [sz_eq] at h2
            have h3 := szL_nrm HKO.out
            rw [HXS.out] at h3
            omega
          have HXL : Hid (xs.length = i) := by show _ = _; have := HLN.out.2; rw [map_len] at this; exact this
          have HFO := Lib.hid (okA_flatL hXO)
          have HFN : Hid (szL (flatL xs) ≤ 2000000) := Nat.le_trans (szL_flatL xs) hXN
          have HNE2 := Lib.hid hne
          have hn100 := HNL.out
          obtain ⟨S, HSD⟩ := nameIt (fun k => w.heap.size + 3 ≤ k ∧ k < wo.heap.size)
          have HSI : Hid (∀ k, S k → w.heap.size + 3 ≤ k ∧ k < wo.heap.size) := fun k h => by rw [← HSD.out] at h; exact h
          have HSJ : Hid (∀ k, w.heap.size + 3 ≤ k → k < wo.heap.size → S k) := fun k h1 h2 => by rw [← HSD.out]; exact ⟨h1, h2⟩
          have HQ0 : Hid (QuI S wo (flatL (xs.take 0)) (.slice none 0 0) wo) := ⟨RowD.nil _ _ _ _ _ (Nat.le_refl _), Below.refl _ _⟩
          clear hne HNE HSD hXO hXN p1 p2 p3 p4 p5 p6 p7 p8 f0 f1 f2 f3 y0 y1 y2 y3
          go_wp2_with fail
          clear x0 x1 x2 x3 z0 z1 z2 z3 hlt hlt'
          go_loopg [7, 77] i (fun gg v7 v77 wr => ∃ j : Nat, j ≤ i ∧ i - j ≤ gg ∧ v77 = .int .i64 j ∧ Hid (QuI S wo (flatL (xs.take j)) v7 wr))
          case atStart => exact ⟨0, by omega, by omega, rfl, HQ0⟩
          case round =>
            clear HQ0
            obtain ⟨j, hj, hg, rfl, HQ⟩ := hrel
            obtain ⟨wq, rfl⟩ : ∃ ww : World, ww = wr := ⟨_, rfl⟩
            obtain ⟨L, HL⟩ := nameIt (flatL (xs.take j))
            rw [HL.out] at HQ
            obtain ⟨a7, c7, rfl, hr1, hr2, -⟩ := HQ.out.row.form
            obtain ⟨k, HK⟩ := nameIt (L.map Doc.d).length
            rw [HK.out] at HQ hr1
            rw [HK.out]
            unfold maxLen at hr2
            by_cases hjt : j < i
            · have hjt' : (j : Int) < (i : Int) := by omega
              have hjx : j < xs.length := by rw [HXL.out]; exact hjt
              have hkn : k + szL (flat1 xs[j]) ≤ 2000000 := by
                have h1 := flatL_take hjx
                have h2 : flatL xs = flatL (xs.take (j + 1)) ++ flatL (xs.drop (j + 1)) := by rw [← flatL_append, List.take_append_drop]
                have h3 := HFN.out
                rw [h2, h1, HL.out, szL_append, szL_append] at h3
                have h4 := len_szL L
                rw [← HK.out, map_len]
                omega
              obtain ⟨b', cb, v, hae', hbl0, j0, j1, j2, j3, hkid⟩ := RowD.elem HI.out.base.row hjx
              obtain ⟨rfl, rfl⟩ : a3 = some ⟨b', 0, none⟩ ∧ c3 = cb := by
                rw [HLN.out.2] at hae'
                cases hae'; exact ⟨rfl, rfl⟩
              obtain ⟨av, cv, rfl, hd1, hd2⟩ := hkid.form
              have HT : Hid (flatL (xs.take (j + 1)) = L ++ flat1 xs[j]) := by show _ = _; rw [flatL_take hjx, HL.out]
              have hkidS : Rd S wo (.sl (xs[j].kids.map Doc.d)) [.slice av (xs[j].kids.map Doc.d).length cv] := hkid.mono fun k hk hlt => HSJ.out k hk hlt
              obtain ⟨x, HX⟩ := nameIt (xs[j]'hjx)
              rw [HX.out] at j0 j1 j2 j3 hkidS HT hkn hd1
              have HFX : Hid (flat1 x = if x.kind = 4 then x.kids else [x]) := rfl
              have HRX := Lib.hid (rd_doc hkidS)
              have HKID := Lib.hid hkidS
              obtain ⟨nv, HNV⟩ := nameIt (x.kids.map Doc.d).length
              rw [HNV.out] at j3 HKID HRX hd1
              obtain ⟨q0, HQ0⟩ := nameIt x.kind
              obtain ⟨q1, HQ1⟩ := nameIt x.txt
              obtain ⟨q2, HQ2⟩ := nameIt x.n
              rw [HQ0.out] at j0 HFX HRX
              rw [HQ1.out] at j1 HRX
              rw [HQ2.out] at j2 HRX
              have hbl : b' < wq.heap.size := Nat.lt_of_lt_of_le hbl0 HQ.out.bel.size
              have e0 := (HQ.out.bel.cell (p := ⟨b', j * 4, none⟩) hbl0).trans j0
              have e1 := (HQ.out.bel.cell (p := ⟨b', j * 4 + 1, none⟩) hbl0).trans j1
              have e2 := (HQ.out.bel.cell (p := ⟨b', j * 4 + 2, none⟩) hbl0).trans j2
              have e3 := (HQ.out.bel.cell (p := ⟨b', j * 4 + 3, none⟩) hbl0).trans j3
              obtain ⟨w2, HW2⟩ := nameIt (wq.alloc (.cells #[.int .i64 q0, .string q1, .int .i64 q2, .slice av nv cv] 24))
              have hb2 : Below wq.heap.size wq w2 := by rw [← HW2.out]; exact (Below.refl _ _).alloc (Nat.le_refl _) _
              have HI2 := Lib.hid (HQ.out.keep hb2)
              have hx2 : w2.heap[wq.heap.size]? = some (.cells #[.int .i64 q0, .string q1, .int .i64 q2, .slice av nv cv] 24 (0, 0)) := by rw [← HW2.out]; exact bx_new _ _ _ rfl
              obtain ⟨x0, x1, x2, x3⟩ := bx_cells4d hx2
              obtain ⟨ys, ho, hd⟩ := HI2.out.row.own
              rw [HK.out] at ho
              have HO := Lib.hid ho
              have HD := Lib.hid hd
              have HKD := Lib.hid (HKID.out.below (HI2.out.bel))
              have HRD2 := Lib.hid (HRX.out.below (HI2.out.bel))
              have hsz2 : wo.heap.size ≤ w2.heap.size := HI2.out.row.le
              have HSK : Hid (∀ k, S k → k < wo.heap.size) := fun k h => (HSI.out k h).2
              clear j0 j1 j2 j3 hkid hkidS hx2 hb2 ho hd hae'
              by_cases hk4 : q0 = 4
              · subst hk4
                have hfx : flat1 x = x.kids := by rw [HFX.out, if_pos rfl]
                rw [hfx] at HT hkn
                have hkl : k + nv ≤ 2000000 := by
                  have h1 := len_szL x.kids
                  have h2 := HNV.out
                  rw [map_len] at h2
                  omega
                clear hfx HFX
                go_upto_region 19 with fail
                rw [HW2.out]
                go_wp2_with (at_builtin; refine wp_appD elDoc rfl _ _ rfl HO.out rfl HKD.out rfl (docs_cells _) (by rw [HNV.out]; omega) (by rw [HNV.out]; unfold maxLen; omega) (by omega) ?_)
                intro v' w' M hM ho hg2 hat
                have HN := Lib.hid (HI2.out.step HSK.out HO.out HD.out HK.out.symm hM (by rw [map_len]; exact ho) hg2 hat)
                obtain ⟨a', c', rfl, -, -⟩ := own_len ho
                rw [← HT.out] at HN
                clear hM ho hg2 hat
                go_wp2_with fail
                go_roundg (i - (j + 1))
                case measure => omega
                case rel => exact ⟨j + 1, by omega, by omega, by go_num, HN⟩
              · have hk4' : (q0 == 4) = false := by simpa using hk4
                have hfx : flat1 x = [x] := by rw [HFX.out, if_neg hk4]
                rw [hfx] at HT hkn
                have hkl : k + 1 ≤ 2000000 := by
                  have h1 := len_szL [x]
                  simp at h1; omega
                clear hfx HFX
                go_upto_region 19 with fail
                rw [HW2.out]
                go_wp2_with (at_builtin; refine wp_app1at elDoc rfl _ _ rfl HO.out rfl rfl (by simp) rfl rfl (by omega) (by unfold maxLen; omega) (by omega) ?_)
                intro v' w' ho hg2 hat
                have HN := Lib.hid (HI2.out.step (M := [x]) HSK.out HO.out HD.out HK.out.symm (RdAll.one HRD2.out) ho hg2 hat)
                obtain ⟨a', c', rfl, -, -⟩ := own_len ho
                rw [← HT.out] at HN
                clear ho hg2 hat
                go_wp2_with fail
                go_roundg (i - (j + 1))
                case measure => omega
                case rel => exact ⟨j + 1, by omega, by omega, by go_num, HN⟩
            · have hjt' : ¬ (j : Int) < (i : Int) := by omega
              have HLE : Hid (flatL xs = L) := by show _ = _; rw [← HL.out, List.take_of_length_le (by rw [HXL.out]; omega)]
              have HKL2 : Hid (L.length = k) := by show _ = _; rw [← HK.out, map_len]
              have hk2 : k ≤ 2000000 := by have := HFN.out; rw [HLE.out] at this; have := len_szL L; have := HKL2.out; omega
              rw [HLE.out] at HFO HFN
              have HCD : Hid (nrm t = catOf (gluesL [] L)) := by show _ = _; rw [HNE2.out]; unfold catD; rw [HLE.out]
              have hout := bx_keep HI.out.out HQ.out.bel
              obtain ⟨z0, z1, z2, z3⟩ := bx_cells4d hout
              obtain ⟨f0, f1, f2, f3⟩ := bx_free4 hout
              have hqs := HQ.out.bel.size
              have holt : w.heap.size + 2 < wq.heap.size := by omega
              obtain ⟨w4, HW4⟩ := nameIt (wq.setCell ⟨w.heap.size + 2, 3, none⟩ (.slice none 0 0))
              have hs4 : wq.heap.size ≤ w4.heap.size := by rw [← HW4.out, size_set]; exact Nat.le_refl _
              have hg4 : wq.grownBy w4 (some (w.heap.size + 2)) := by rw [← HW4.out]; exact grown_cell _ _ _
              have HL4 : Hid (RowD S wo.heap.size 24 4 (L.map Doc.d) (.slice a7 k c7) w4) := RowD.grown HQ.out.row hg4 (fun k hk e => by have := (HSI.out k hk).1; omega) (by omega)
              have HG0 : Hid (GlI S (w.heap.size + 2) 4 0 ⟨#[]⟩ w4 (gluesL [] (L.take 0)) (.slice none 0 0) w4) := ⟨by rw [← HW4.out]; exact set3 hout _, RowD.nil _ _ _ _ _ (Nat.le_refl _), ⟨rfl, rfl, rfl, Nat.le_refl _, fun _ _ _ => rfl⟩, by omega⟩
              have HRES : Hid (w4.heap[w.heap.size + 1]? = some (.cells #[.int .i64 0, .string ⟨#[]⟩, .int .i64 0, .slice none 0 0] 24 (0, 0))) := by rw [← HW4.out]; exact bx_other (bx_keep HI.out.base.res HQ.out.bel) (by omega) _ _
              have HBW : Hid (Below w.heap.size w w4) := by rw [← HW4.out]; exact (HI.out.base.bel.trans (HQ.out.bel.mono HI.out.base.bel.size)).setCell (by show w.heap.size ≤ w.heap.size + 2; omega) _
              clear hout
              go_upto_region 24 with fail
              rw [HW4.out]
              go_wp2_with fail
              clear z0 z1 z2 z3 f0 f1 f2 f3 hjt hjt'
              go_loopg [96] k (fun gg v96 wr => ∃ (j : Nat) (vo : Value), j ≤ k ∧ k - j ≤ gg ∧ v96 = .int .i64 j ∧ Hid (GlI S (w.heap.size + 2) 4 0 ⟨#[]⟩ w4 (gluesL [] (L.take j)) vo wr))
              case atStart => exact ⟨0, _, by omega, by omega, rfl, HG0⟩
              case round =>
                clear HG0
                obtain ⟨j', vo, hj', hg', rfl, HJ⟩ := hrel
                obtain ⟨wp, rfl⟩ : ∃ ww : World, ww = wr := ⟨_, rfl⟩
                obtain ⟨O, HO⟩ := nameIt (gluesL [] (L.take j'))
                rw [HO.out] at HJ
                obtain ⟨a4, c4, rfl, hs1, hs2, -⟩ := HJ.out.row.form
                obtain ⟨kk, HKK⟩ := nameIt (O.map Doc.d).length
                have HKO2 : Hid (O.length = kk) := by show _ = _; rw [← HKK.out, map_len]
                rw [HKK.out] at HJ hs1
                unfold maxLen at hs2
                have HLR : Hid (RowD S wo.heap.size 24 4 (L.map Doc.d) (.slice a7 k c7) wp) := RowD.grown HL4.out HJ.out.gr (fun k hk e => by have := (HSI.out k hk).1; omega) (by omega)
                have hgs := HJ.out.gr.size
                have HSK2 : Hid (∀ k, S k → k < w4.heap.size ∧ k ≠ w.heap.size + 2) := fun k h => by have := HSI.out k h; omega
                by_cases hlt : j' < k
                · have hlt' : (j' : Int) < (k : Int) := by omega
                  have hjl : j' < L.length := by rw [HKL2.out]; exact hlt
                  obtain ⟨b', cb, v, hae', hbl, e0, e1, e2, e3, hkid⟩ := RowD.elem HLR.out hjl
                  rw [HK.out] at hae'
                  obtain ⟨rfl, rfl⟩ : a7 = some ⟨b', 0, none⟩ ∧ c7 = cb := by cases hae'; exact ⟨rfl, rfl⟩
                  obtain ⟨av, cv, rfl, hd1, hd2⟩ := hkid.form
                  have hkk : kk ≤ j' := by
                    have h1 := gluesL_len (L.take j') []
                    rw [HO.out, HKO2.out] at h1
                    simp at h1; omega
                  have HT : Hid (gluesL [] (L.take (j' + 1)) = glue O L[j']) := by show _ = _; rw [gluesL_take hjl, HO.out]
                  have hxo := HFO.out L[j'] (List.getElem_mem hjl)
                  have HOO : Hid (∀ y ∈ O, okA y) := fun y hy => by rw [← HO.out] at hy; exact gluesL_ok (by simp) (fun z hz => HFO.out z (List.mem_of_mem_take hz)) y hy
                  obtain ⟨x, HX⟩ := nameIt (L[j']'hjl)
                  rw [HX.out] at e0 e1 e2 e3 hkid HT hd1 hxo
                  have HDB : Hid (dropB x = (decide (x.kind = 0) && x.txt.toList.isEmpty)) := by show _ = _; rw [txE]; rfl
                  have HGB : Hid (∀ o y, O = o ++ [y] → glB O x = (decide (x.kind = 0) && (decide (y.kind = 0) && decide (y.txt.size + x.txt.size ≤ 60)))) := fun o y h => by subst h; rw [glB_app]; rfl
                  have HG0 : Hid (O = [] → glB O x = false) := fun h => by subst h; rfl
                  have HG1 : Hid (x.kind ≠ 0 → glB O x = false) := fun h => by
                    rcases List.eq_nil_or_concat O with h1 | ⟨o, y, h1⟩
                    · rw [h1]; rfl
                    · rw [HGB.out o y (by rw [h1, List.concat_eq_append]), decide_eq_false h]; rfl
                  have HXS2 : Hid (x.kind = 0 → x.txt.size ≤ 60) := fun h => (ok_text ((okA_iff x).1 hxo).1 h).2.2.1
                  have HXO := Lib.hid hxo
                  have HRX := Lib.hid (rd_doc hkid)
                  obtain ⟨nv, HNV⟩ := nameIt (x.kids.map Doc.d).length
                  rw [HNV.out] at e3 HRX hd1
                  obtain ⟨q0, HQ0⟩ := nameIt x.kind
                  obtain ⟨q1, HQ1⟩ := nameIt x.txt
                  obtain ⟨q2, HQ2⟩ := nameIt x.n
                  rw [HQ0.out] at e0 HRX HDB HG1 HXS2
                  rw [HQ1.out] at e1 HRX HDB HXS2
                  rw [HQ2.out] at e2 HRX
                  simp only [HQ0.out, HQ1.out] at HGB
                  obtain ⟨DB, HDN⟩ := nameIt (dropB x)
                  obtain ⟨GB, HGN⟩ := nameIt (glB O x)
                  rw [HDN.out] at HDB
                  rw [HGN.out] at HG0 HG1
                  simp only [HGN.out] at HGB
                  obtain ⟨w2, HW2⟩ := nameIt (wp.alloc (.cells #[.int .i64 q0, .string q1, .int .i64 q2, .slice av nv cv] 24))
                  have hb2 : Below wp.heap.size wp w2 := by rw [← HW2.out]; exact (Below.refl _ _).alloc (Nat.le_refl _) _
                  have HJ2 := Lib.hid (HJ.out.keep hb2)
                  have HX2 : Hid (w2.heap[wp.heap.size]? = some (.cells #[.int .i64 q0, .string q1, .int .i64 q2, .slice av nv cv] 24 (0, 0))) := by rw [← HW2.out]; exact bx_new _ _ _ rfl
                  obtain ⟨x0, x1, x2, x3⟩ := bx_cells4d HX2.out
                  obtain ⟨z0, z1, z2, z3⟩ := bx_cells4d HJ2.out.out
                  have HR2 := Lib.hid (HRX.out.below hb2)
                  obtain ⟨nn, HNN⟩ := nameIt ((kk : Int) - 1)
                  have hwn : IntKind.i64.wrap ((kk : Int) - 1) = nn := by rw [IntWalk.i64_in _ (by omega)]; exact HNN.out
                  clear hkid hb2 hd1 hxo hae'
                  go_upto_region 27 with fail
                  rw [HW2.out]
                  go_upto_region 29 with fail
                  clear hwn
                  go_cut [110] (fun t wx => t = .bool DB ∧ w2 = wx)
                  case first =>
                    have hdb := HDB.out
                    clear e0 e1 e2 e3 z0 z1 z2 z3
                    by_cases hq : q0 = 0
                    · subst hq
                      rw [decide_eq_true rfl, Bool.true_and] at hdb
                      have hdb' := hdb.symm
                      clear hdb
                      go_wp2_with fail
                      go_meet
                      exact ⟨rfl, rfl⟩
                    · rw [decide_eq_false hq, Bool.false_and] at hdb
                      subst hdb
                      have hq' : (q0 == 0) = false := by simpa using hq
                      go_wp2_with fail
                      go_meet
                      exact ⟨rfl, rfl⟩
                  case rest =>
                    obtain ⟨rfl, rfl⟩ := hcut
                    cases DB with
                    | true =>
                      have hgl := glue_drop (out := O) HDN.out
                      rw [← HT.out] at hgl
                      have HJN : Hid (GlI S (w.heap.size + 2) 4 0 ⟨#[]⟩ w4 (gluesL [] (L.take (j' + 1))) (.slice a4 kk c4) w2) := by rw [hgl]; exact HJ2.out
                      clear hgl x0 x1 x2 x3 e0 e1 e2 e3 z0 z1 z2 z3
                      go_wp2_with fail
                      go_roundg (k - (j' + 1))
                      case measure => omega
                      case rel => exact ⟨j' + 1, _, by omega, by omega, by go_num, HJN⟩
                    | false =>
                      go_upto_region 30 with fail
                      go_cut [119] (fun t wx => t = .bool GB ∧ Hid (Below w2.heap.size w2 wx))
                      case first =>
                        clear e0 e1 e2 e3
                        by_cases hq : q0 = 0
                        · subst hq
                          rcases List.eq_nil_or_concat O with h1 | ⟨o, y, h1⟩
                          · obtain rfl : GB = false := HG0.out h1
                            obtain rfl : kk = 0 := by rw [← HKO2.out, h1]; rfl
                            obtain rfl : nn = -1 := by rw [← HNN.out]; rfl
                            clear h1
                            go_quiet (fail)
                            go_wp2_with fail
                            go_meet
                            exact ⟨rfl, below_drewN _ _⟩
                          · rw [List.concat_eq_append] at h1
                            obtain ⟨m', HM'⟩ := nameIt o.length
                            have hkm : kk = m' + 1 := by rw [← HKO2.out, h1, List.length_append, HM'.out]; rfl
                            obtain rfl : nn = (m' : Int) := by rw [← HNN.out, hkm]; omega
                            have hrow := HJ2.out.row
                            rw [h1] at hrow
                            obtain ⟨g', cg', vk, cs, hv4, hls⟩ := RowD.last hrow HM'.out hkm
                            obtain ⟨rfl, rfl⟩ : a4 = some ⟨g', 0, none⟩ ∧ c4 = cg' := by cases hv4; exact ⟨rfl, rfl⟩
                            have hgb := HGB.out o y h1
                            have hyo := HOO.out y (by rw [h1]; simp)
                            have hys : y.kind = 0 → y.txt.size ≤ 60 := fun h => (ok_text ((okA_iff y).1 hyo).1 h).2.2.1
                            have hxs := HXS2.out rfl
                            obtain ⟨t0, t1, t2, t3⟩ := hls.cells
                            have hp : (0 : Int) ≤ (m' : Int) := by omega
                            have hm1 : (m' : Int) < (kk : Int) := by omega
                            have hmn : m' < kk := by omega
                            have HKM2 := Lib.hid hkm
                            clear hkm hls hrow hv4 t2 t3 h1 hyo
                            obtain ⟨p0, HP0⟩ := nameIt y.kind
                            obtain ⟨p1, HP1⟩ := nameIt y.txt
                            rw [HP0.out] at t0 hgb hys
                            rw [HP1.out] at t1 hgb hys
                            rw [decide_eq_true rfl, Bool.true_and] at hgb
                            by_cases hp0 : p0 = 0
                            · subst hp0
                              rw [decide_eq_true rfl, Bool.true_and] at hgb
                              have hys' := hys rfl
                              have hwr : IntKind.i64.wrap ((p1.size : Int) + (q1.size : Int)) = (p1.size : Int) + (q1.size : Int) := IntWalk.i64_in _ (by omega)
                              have hgb2 : decide ((p1.size : Int) + (q1.size : Int) ≤ 60) = GB := by rw [hgb]; exact decide_eq_decide.2 (by omega)
                              clear hys hgb
                              go_quiet (fail)
                              go_wp2_with fail
                              go_meet
                              exact ⟨by first | rfl | (rw [← hgb2]) | (rw [hgb2]), below_drewN _ _⟩
                            · rw [decide_eq_false hp0, Bool.false_and] at hgb
                              subst hgb
                              have hp0' : (p0 == 0) = false := by simpa using hp0
                              clear hys
                              go_quiet (fail)
                              go_wp2_with fail
                              go_meet
                              exact ⟨rfl, below_drewN _ _⟩
                        · have hq' : (q0 == 0) = false := by simpa using hq
                          obtain rfl := HG1.out hq
                          go_quiet (fail)
                          go_wp2_with fail
                          go_meet
                          exact ⟨rfl, below_drewN _ _⟩
                      case rest =>
                        obtain ⟨rfl, HBC⟩ := hcut
                        obtain ⟨ws, rfl⟩ : ∃ ww : World, ww = wc := ⟨_, rfl⟩
                        have HJ3 := Lib.hid (HJ2.out.keep HBC.out)
                        have hx3 := bx_keep HX2.out HBC.out
                        have HR3 := Lib.hid (HR2.out.below HBC.out)
                        clear x0 x1 x2 x3 z0 z1 z2 z3 HJ2 HX2 HR2 e0 e1 e2 e3
                        obtain ⟨x0, x1, x2, x3⟩ := bx_cells4d hx3
                        obtain ⟨z0, z1, z2, z3⟩ := bx_cells4d HJ3.out.out
                        have hss3 : w4.heap.size ≤ ws.heap.size := HJ3.out.gr.size
                        cases GB with
                        | false =>
                          have hgl := glue_no HDN.out HGN.out
                          have HT2 : Hid (gluesL [] (L.take (j' + 1)) = O ++ [x]) := by show _ = _; rw [HT.out, hgl]
                          obtain ⟨ys, ho, hd⟩ := HJ3.out.row.own
                          rw [HKK.out] at ho
                          have HO3 := Lib.hid ho
                          have HD3 := Lib.hid hd
                          clear ho hd hgl hx3
                          go_wp2_with (at_builtin; refine wp_app1at elDoc rfl _ _ rfl HO3.out rfl rfl (by simp) rfl rfl (by omega) (by unfold maxLen; omega) (by omega) ?_)
                          intro v' w' ho hg2 hat
                          have hst := GlI.step (x := x) (u := .slice av nv cv) HJ3.out HSK2.out HO3.out HD3.out HKK.out.symm (rd_of_doc HR3.out) (by rw [HQ0.out, HQ1.out, HQ2.out]; exact ho) hg2 hat
                          obtain ⟨_, _, _, jo⟩ := bx_cells4d hst.1
                          obtain ⟨_, _, _, jf⟩ := bx_free4 hst.1
                          have hltw : w.heap.size + 2 < w'.heap.size := (Array.getElem?_eq_some_iff.1 hst.1).1
                          have HN := Lib.hid hst.2
                          obtain ⟨a', c', rfl, -, -⟩ := own_len ho
                          rw [← HT2.out] at HN
                          clear ho hg2 hat hst z0 z1 z2 z3 x0 x1 x2 x3
                          go_wp2_with fail
                          go_roundg (k - (j' + 1))
                          case measure => omega
                          case rel => exact ⟨j' + 1, _, by omega, by omega, by go_num, HN⟩
                        | true =>
                          obtain ⟨o, y, h1, hgy, hgl⟩ := glue_yes HDN.out HGN.out
                          obtain ⟨m', HM'⟩ := nameIt o.length
                          have hkm : kk = m' + 1 := by rw [← HKO2.out, h1, List.length_append, HM'.out]; rfl
                          obtain rfl : nn = (m' : Int) := by rw [← HNN.out, hkm]; omega
                          have hj3 := HJ3.out
                          rw [h1] at hj3
                          obtain ⟨g', cg', vk, cs, hv4, hls⟩ := RowD.last hj3.row HM'.out hkm
                          obtain ⟨rfl, rfl⟩ : a4 = some ⟨g', 0, none⟩ ∧ c4 = cg' := by cases hv4; exact ⟨rfl, rfl⟩
                          obtain ⟨t0, t1, t2, t3⟩ := hls.cells
                          have HLS := Lib.hid hls
                          have HJ4 := Lib.hid hj3
                          have HGT : Hid (gluesL [] (L.take (j' + 1)) = o ++ [.mk y.kind (y.txt ++ q1) y.n y.kids]) := by show _ = _; rw [HT.out, hgl, ← HQ1.out]; rfl
                          have hss : y.txt.size + q1.size ≤ 60 := by
                            unfold glueB at hgy
                            rw [HQ1.out] at hgy
                            simp at hgy
                            exact hgy.2.2
                          have hm1 : (m' : Int) < (kk : Int) := by omega
                          have hm0 : (0 : Int) ≤ (m' : Int) := by omega
                          have hmn : m' < kk := by omega
                          obtain ⟨p1, HP1⟩ := nameIt y.txt
                          rw [HP1.out] at t1 hss HGT
                          have hadd := fun (W : World) => run_string_add_sum (P := Try.prog) (w := W) p1 q1 (by omega)
                          have hgl' : g' < ws.heap.size := hls.hg.2
                          have i0 := aft_cell t1
                          have i1 := aft_cell x1
                          have i2 := aft_cell z3
                          clear t0 t1 t2 t3 x0 x1 x2 x3 z0 z1 z2 z3 hkm h1 hgy hgl hj3 hv4 hls hx3
                          go_upto_region 31 with fail
                          refine wp_region_after_tail 11 (by kernel_rfl) (by kernel_rfl) ?_
                          simp only [List.take_succ_cons, List.take_zero, List.drop_succ_cons, List.drop_zero]
                          repeat (go_big_quiet_step (fail))
                          refine wpQuiet_nil ?_
                          rintro w9 ⟨⟨_, hb9⟩, rfl⟩
                          have hls9 := HLS.out.keep hb9
                          have hf1 := hls9.free (m' * 4 + 1)
                          obtain ⟨t0, t1, t2, t3⟩ := hls9.cells
                          have hgl9 := hls9.hg.2
                          have HN := Lib.hid ((HJ4.out.keep hb9).set1 hls9 (p1 ++ q1))
                          rw [← HGT.out] at HN
                          rw [HP1.out] at t1
                          clear hls9 hb9 i0 i1 i2
                          go_wp2_with fail
                          go_roundg (k - (j' + 1))
                          case measure => omega
                          case rel => exact ⟨j' + 1, _, by omega, by omega, by go_num, HN⟩
                · have hlt' : ¬ (j' : Int) < (k : Int) := by omega
                  have HOE : Hid (nrm t = catOf O) := by show _ = _; rw [HCD.out, ← HO.out, List.take_of_length_le (by rw [HKL2.out]; omega)]
                  have hrs := (HJ.out.gr.block _ (Array.getElem?_eq_some_iff.1 HRES.out).1 (fun e => by simp at e)).trans HRES.out
                  obtain ⟨y0, y1, y2, y3⟩ := bx_cells4d hrs
                  obtain ⟨f0, f1, f2, f3⟩ := bx_free4 hrs
                  obtain ⟨z0, z1, z2, z3⟩ := bx_cells4d HJ.out.out
                  have hrl := (Array.getElem?_eq_some_iff.1 hrs).1
                  have hbw : Below w.heap.size w wp := HBW.out.grown HJ.out.gr (by omega) (fun k e => by simp at e; omega)
                  have HST4 := Lib.hid (fun c0 c1 c2 c3 => stored4 (c0 := c0) (c1 := c1) (c2 := c2) (c3 := c3) hbw (Nat.le_succ w.heap.size))
                  clear hrs hbw
                  by_cases hk1 : kk = 1
                  · obtain ⟨x, hOx⟩ := List.length_eq_one_iff.1 (HKO2.out.trans hk1)
                    have h0l : 0 < O.length := by rw [hOx]; simp
                    have hx0 : O[0] = x := by simp [hOx]
                    obtain ⟨g, cg, v, hae', hbl, e0, e1, e2, e3, hkid⟩ := RowD.elem HJ.out.row h0l
                    rw [HKK.out] at hae'
                    obtain ⟨rfl, rfl⟩ : a4 = some ⟨g, 0, none⟩ ∧ c4 = cg := by cases hae'; exact ⟨rfl, rfl⟩
                    rw [hx0] at e0 e1 e2 hkid
                    simp only [Nat.zero_mul, Nat.zero_add] at e0 e1 e2 e3
                    obtain ⟨av, cv, rfl, hd1, hd2⟩ := hkid.form
                    have hgw : w4.heap.size ≤ g := by
                      obtain ⟨ys, ho, _⟩ := HJ.out.row.own
                      exact (ho.lt g rfl).1
                    have hne : ¬ g = w.heap.size + 1 := by omega
                    have hne2 : ¬ w.heap.size + 1 = g := by omega
                    have HF := Lib.hid (fun w' => HFIN.out x (.slice av (x.kids.map Doc.d).length cv) w' (by rw [HOE.out, hOx, catOf_one]))
                    have HKD := Lib.hid hkid
                    obtain ⟨nv, HNV⟩ := nameIt (x.kids.map Doc.d).length
                    obtain ⟨q0, HQ0⟩ := nameIt x.kind
                    obtain ⟨q1, HQ1⟩ := nameIt x.txt
                    obtain ⟨q2, HQ2⟩ := nameIt x.n
                    rw [HNV.out] at e3 HF HKD
                    rw [HQ0.out] at e0 HF
                    rw [HQ1.out] at e1 HF
                    rw [HQ2.out] at e2 HF
                    subst hk1
                    clear hkid hae' hx0 hOx h0l
                    go_wp2_with fail
                    refine bodyPost_ret (v := .agg #[.int .i64 q0, .string q1, .int .i64 q2, .slice av nv cv]) (by simp [results, Try.results19, go_sem, y0, y1, y2, y3]) rfl ?_
                    have hst := HST4.out (.int .i64 q0) (.string q1) (.int .i64 q2) (.slice av nv cv)
                    refine HF.out _ ?_ hst.2
                    exact Rd.keep (fun k hk hlt => ⟨by have := HSI.out k hk; show _ ≤ _; omega, hst.1.block k hlt (fun e => by have := HSI.out k hk; simp at e; omega)⟩) _ _ HKD.out
                  · have hk1' : ((kk : Int) == 1) = false := by simp; omega
                    have hcn := catOf_not (o := O) (by rw [HKO2.out]; exact hk1)
                    have HF := Lib.hid (fun w' => HFIN.out (.mk 4 ⟨#[]⟩ 0 O) (.slice a4 kk c4) w' (by rw [HOE.out, hcn]))
                    obtain ⟨ys, ho, hd⟩ := HJ.out.row.own
                    rw [HKK.out] at ho
                    have HO5 := Lib.hid ho
                    have HD5 := Lib.hid hd
                    clear hcn ho hd
                    go_wp2_with fail
                    refine bodyPost_ret (v := .agg #[.int .i64 4, .string ⟨#[]⟩, .int .i64 0, .slice a4 kk c4]) (by simp [results, Try.results19, go_sem, y0, y1, y2, y3]) rfl ?_
                    have hst := HST4.out (.int .i64 4) (.string ⟨#[]⟩) (.int .i64 0) (.slice a4 kk c4)
                    refine HF.out _ ?_ hst.2
                    refine rd_of_own (HO5.out.kept hst.1 (.inr fun e => by have := (HO5.out.lt _ e).1; omega)) (RdAll.keep (fun k hk hlt => ⟨by have := HSI.out k hk.1; show _ ≤ _; omega, hst.1.block k hlt ?_⟩) _ _ HD5.out) HKK.out (fun k e => by have := (HO5.out.lt _ e).1; show _ ≤ _; omega)
                    intro e
                    have := HSI.out _ hk.1
                    simp at e; omega
        · have k4' : (tk == 4) = false := by simpa using k4
          have hne := HNE.out
          rw [if_neg k5, if_neg k4] at hne
          have HF := Lib.hid (fun w' => HFIN.out _ (.slice a3 i c3) w' hne)
          clear hne p1 p2 p3 p4 p5 p6 p7 p8
          go_wp2_with fail
          refine bodyPost_ret (v := .agg #[.int .i64 tk, .string tx, .int .i64 tn, .slice a3 i c3]) (by simp [results, Try.results19, go_sem, y0, y1, y2, y3]) rfl ?_
          have hst := HST.out (.int .i64 tk) (.string tx) (.int .i64 tn) (.slice a3 i c3)
          exact HF.out _ (HRD.out _ hst.1) hst.2
end Dc
end Go.Proofs.Ytgpikophndbmeaa
