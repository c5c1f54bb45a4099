/- parlref4.Simple. -/
import Derived.Test.YtgpikophndbmeaaDocCat
namespace Go.Proofs.Ytgpikophndbmeaa
open Go.RowKit
namespace Dc

theorem rd_empty {S S' : Nat → Prop} {w w' : World} {v : Value} (h : Rd S w (.sl []) [v]) : Rd S' w' (.sl []) [v] := by
  obtain ⟨a, cap, L, e, h1, h2, h3, h4, h5⟩ := h
  simp [RdAll] at h5
  subst h5
  exact ⟨a, cap, [], e, h1, h2, h3, fun i hi => by simp at hi, by simp [RdAll]⟩
/-- the row of what the arguments became -/
structure SiI (w : World) (k2 : Nat) (t0 t2 : Int) (t1 : ByteArray) (t3 : Value) (L : List Doc) (v : Value) (wr : World) : Prop where
  row : RowD (fun k => w.heap.size + k2 ≤ k) (w.heap.size + k2) 24 4 (L.map Doc.d) v wr
  top : wr.heap[w.heap.size]? = some (.cells #[.int .i64 t0, .string t1, .int .i64 t2, t3] 24 (0, 0))
  res : wr.heap[w.heap.size + 1]? = some (.cells #[.int .i64 0, .string ⟨#[]⟩, .int .i64 0, .slice none 0 0] 24 (0, 0))
  bel : Below w.heap.size w wr
theorem SiI.keep {w : World} {k2 : Nat} {t0 t2 : Int} {t1 : ByteArray} {t3 : Value} {L : List Doc} {v : Value} {wr w' : World} (h : SiI w k2 t0 t2 t1 t3 L v wr) (hb : Below wr.heap.size wr w') : SiI w k2 t0 t2 t1 t3 L v w' :=
  ⟨h.row.keep hb, bx_keep h.top hb, bx_keep h.res hb, h.bel.trans (hb.mono h.bel.size)⟩
/-- behind the append of a document -/
theorem SiI.step {w : World} {k2 : Nat} {t0 t2 : Int} {t1 : ByteArray} {t3 : Value} {L : List Doc} {x : Doc} {v v' u : Value} {wr W0 W1 : World} {xs : List Value} {n : Nat} (h : SiI w k2 t0 t2 t1 t3 L v W0) (hk2 : 2 ≤ k2) (hr : Below wr.heap.size wr W0) (hv : ∀ k, v.ownBlock = some k → k < wr.heap.size) (hw : w.heap.size + k2 ≤ wr.heap.size) (h1 : W0.ownsRow (w.heap.size + k2) 24 4 v n xs) (h2 : RdAll (fun k => w.heap.size + k2 ≤ k ∧ v.ownBlock ≠ some k) W0 (L.map Doc.d) xs) (hn : n = (L.map Doc.d).length)
    (hp : Rd (fun k => wr.heap.size ≤ k) W0 (.sl (x.kids.map Doc.d)) [u]) (ho : W1.ownsRow (w.heap.size + k2) 24 4 v' (n + 1) (xs ++ [.int .i64 x.kind, .string x.txt, .int .i64 x.n, u])) (hg : W0.grownBy W1 v.ownBlock) (hat : v'.ownBlock = v.ownBlock ∨ ∃ k, v'.ownBlock = some k ∧ W0.heap.size ≤ k) : SiI w k2 t0 t2 t1 t3 (L ++ [x]) v' W1 := by
  have hle := h.row.le
  refine ⟨?_, ?_, ?_, ?_⟩
  · rw [List.map_append]
    exact RowD.step (es := [x.d]) h1 h2 hn (RdAll.one (rd_doc hp)) (fun k hk _ => ⟨by omega, fun e => by have := hv k e; omega⟩) h.row.le ho hg hat
  · rw [hg.block _ (by omega) (fun e => by have := (h1.lt _ e.symm).1; omega)]; exact h.top
  · rw [hg.block _ (by omega) (fun e => by have := (h1.lt _ e.symm).1; omega)]; exact h.res
  · exact h.bel.grown hg (by omega) (fun k e => by have := (h1.lt k e).1; omega)
/-- the result's box, stored into -/
theorem stored4 {w wp : World} {c0 c1 c2 c3 : Value} {b : Nat} (hw : Below w.heap.size w wp) (hb : w.heap.size ≤ b) :
    wp.grownBy ((((wp.setCell ⟨b, 0, none⟩ c0).setCell ⟨b, 1, none⟩ c1).setCell ⟨b, 2, none⟩ c2).setCell ⟨b, 3, none⟩ c3) (some b) ∧ Below w.heap.size w ((((wp.setCell ⟨b, 0, none⟩ c0).setCell ⟨b, 1, none⟩ c1).setCell ⟨b, 2, none⟩ c2).setCell ⟨b, 3, none⟩ c3) :=
  ⟨grown_trans (grown_trans (grown_trans (grown_cell _ _ _) (grown_cell _ _ _)) (grown_cell _ _ _)) (grown_cell _ _ _), (((hw.setCell hb _).setCell hb _).setCell hb _).setCell hb _⟩
def NoB : Nat → Prop := fun _ => False
theorem szL_nrm : ∀ {ks : List Doc}, (∀ k ∈ ks, okA k) → szL (ks.map nrm) ≤ szL ks
  | [], _ => by simp
  | x :: l, h => by
    rw [List.map_cons, szL_cons, szL_cons]
    have := (nrm_ok _ x (Nat.le_refl _) (h x List.mem_cons_self)).2
    have := szL_nrm (ks := l) fun k hk => h k (List.mem_cons_of_mem _ hk)
    omega
theorem nrm_kids {t : Doc} {i : Nat} (h : i < t.kids.length) : (t.kids.take (i + 1)).map nrm = (t.kids.take i).map nrm ++ [nrm t.kids[i]] := by
  rw [List.take_succ_eq_append_getElem h, List.map_append]; rfl
set_option maxHeartbeats 4000000 in
set_option maxRecDepth 100000 in
theorem simpleE : ∀ (m : Nat) (t : Doc) (v : Value) (w : World), (nodes t).length ≤ m → (nodes t).length ≤ 100000 → okA t → Rd AnyB w (.sl (t.kids.map Doc.d)) [v] →
    Calls Try.prog 10 #[.agg #[.int .i64 t.kind, .string t.txt, .int .i64 t.n, v]] w (CatPost NoB (nrm t) w) := by
  intro m
  induction m with
  | zero => intro t v w hm; have := nodes_pos t; omega
  | succ m ih =>
  intro t v w hm hN hok hv
  obtain ⟨a, cap, rfl, hc1, hc2⟩ := hv.form
  unfold maxLen at hc2
  have HIH := Lib.hid ih
  have HV := Lib.hid hv
  have HM := Lib.hid hm
  have HN := Lib.hid hN
  obtain ⟨hok1, hok2⟩ := (okA_iff t).1 hok
  obtain ⟨p1, p2, p3, p4, p5, p6, p7, p8⟩ := ok_parts hok1
  have HKO := Lib.hid hok2
  have HNE := Lib.hid (nrm_eq t)
  obtain ⟨nk, HNK⟩ := nameIt (t.kids.map Doc.d).length
  have HKL : Hid (t.kids.length = nk) := by show _ = _; rw [← HNK.out, List.length_map]
  have HKM : Hid (∀ k ∈ t.kids, (nodes k).length ≤ m ∧ (nodes k).length ≤ 100000) := fun k hk => by
    have h1 := nodes_kid k hk
    have h2 := HM.out
    have h3 := HN.out
    rw [nodes_eq] at h2 h3
    simp at h2 h3
    omega
  have HNL : Hid (nk ≤ 100000) := by
    show _ ≤ _
    rw [← HKL.out]
    have h1 := len_szL t.kids
    have h2 : sz t ≤ 100000 := HN.out
    rw [sz_eq] at h2
    omega
  obtain ⟨PST, HP⟩ := nameIt (CatPost NoB (nrm t) w)
  have HFIN : Hid (∀ (d : Doc) u w', nrm t = d → Rd (fun k => w.heap.size ≤ k) w' (.sl (d.kids.map Doc.d)) [u] → Below w.heap.size w w' → PST (.returned (.agg #[.int .i64 d.kind, .string d.txt, .int .i64 d.n, u])) w') := fun d u w' hd h1 h2 => by subst hd; rw [← HP.out]; exact ⟨u, rfl, h1.mono fun k hk _ => .inr hk, h2⟩
  rw [HP.out]
  obtain ⟨tk, HTK⟩ := nameIt t.kind
  obtain ⟨tx, HTX⟩ := nameIt t.txt
  obtain ⟨tn, HTN⟩ := nameIt t.n
  rw [HNK.out] at hc1 HV
  rw [HTK.out, HTX.out, HTN.out] at HNE
  rw [HTK.out] at p1 p2 p3 p4 p5 p6 p7 p8
  rw [HTX.out] at p5 p6
  rw [HTN.out] at p7 p8
  rw [HTK.out, HTX.out, HTN.out, HNK.out]
  obtain ⟨w0, HW0⟩ := nameIt ((w.alloc (.cells #[.int .i64 tk, .string tx, .int .i64 tn, .slice a nk cap] 24)).alloc (.cells #[.int .i64 0, .string ⟨#[]⟩, .int .i64 0, .slice none 0 0] 24))
  have HI0 : Hid (SiI w 2 tk tn tx (.slice a nk cap) ((t.kids.take 0).map nrm) (.slice none 0 0) w0) := by
    rw [← HW0.out]
    exact ⟨RowD.nil _ _ _ _ _ (by simp), bx_keep (bx_new _ _ _ rfl) ((Below.refl _ _).alloc (Nat.le_refl _) _), bx_new _ _ _ (by simp), ((Below.refl _ _).alloc (Nat.le_refl _) _).alloc (by simp) _⟩
  clear hm hN hok hok1 hok2 hv ih
  obtain ⟨x0, x1, x2, x3⟩ := bx_cells4d HI0.out.top
  go_enter Try.func10, Try.ntmps10
  go_upto_region 1 with fail
  rw [HW0.out]
  go_wp2_with fail
  clear x0 x1 x2 x3
  go_loopg [3, 11] nk (fun gg v3 v11 wr => ∃ i : Nat, i ≤ nk ∧ nk - i ≤ gg ∧ v11 = .int .i64 i ∧ Hid (SiI w 2 tk tn tx (.slice a nk cap) ((t.kids.take i).map nrm) v3 wr))
  case atStart => exact ⟨0, by omega, by omega, rfl, HI0⟩
  case round =>
    clear HI0 HW0
    obtain ⟨i, hi, hg, rfl, HI⟩ := hrel
    obtain ⟨wo, rfl⟩ : ∃ ww : World, ww = wr := ⟨_, rfl⟩
    obtain ⟨a3, c3, rfl, hs1, hs2, hs3⟩ := HI.out.row.form
    have HOL := Lib.hid hs3
    have HLN : Hid (((t.kids.take i).map nrm).map Doc.d = ((t.kids.take i).map nrm).map Doc.d ∧ (((t.kids.take i).map nrm).map Doc.d).length = i) := ⟨rfl, by simp; rw [HKL.out]; omega⟩
    rw [HLN.out.2] at HI HOL hs1
    rw [HLN.out.2]
    unfold maxLen at hs2
    clear hs3
    by_cases hlt : i < nk
    · have hlt' : (i : Int) < (nk : Int) := by omega
      have hix : i < t.kids.length := by rw [HKL.out]; exact hlt
      obtain ⟨b, off, v, hae, -, hbl0, j0, j1, j2, j3, hkid⟩ := Rd.kid HV.out hix
      obtain ⟨av, cv, rfl, hd1, hd2⟩ := hkid.form
      have HT : Hid ((t.kids.take (i + 1)).map nrm = (t.kids.take i).map nrm ++ [nrm t.kids[i]]) := nrm_kids hix
      have hkm := HKM.out t.kids[i] (List.getElem_mem hix)
      have hko := HKO.out t.kids[i] (List.getElem_mem hix)
      obtain ⟨x, HX⟩ := nameIt (t.kids[i]'hix)
      rw [HX.out] at j0 j1 j2 j3 hkid HT hkm hko hd1
      have hbw := HI.out.bel
      have e0 := (hbw.cell (p := ⟨b, off + i * 4, none⟩) hbl0).trans j0
      have e1 := (hbw.cell (p := ⟨b, off + i * 4 + 1, none⟩) hbl0).trans j1
      have e2 := (hbw.cell (p := ⟨b, off + i * 4 + 2, none⟩) hbl0).trans j2
      have e3 := (hbw.cell (p := ⟨b, off + i * 4 + 3, none⟩) hbl0).trans j3
      have hbl : b < wo.heap.size := Nat.lt_of_lt_of_le hbl0 hbw.size
      obtain ⟨nv, HNV⟩ := nameIt (x.kids.map Doc.d).length
      rw [HNV.out] at e3 hkid hd1
      obtain ⟨w2, HW2⟩ := nameIt (wo.alloc (.cells #[.int .i64 x.kind, .string x.txt, .int .i64 x.n, .slice av nv cv] 24))
      have hb2 : Below wo.heap.size wo w2 := by rw [← HW2.out]; exact (Below.refl _ _).alloc (Nat.le_refl _) _
      have hcall := HIH.out x _ w2 hkm.1 hkm.2 hko ((hkid.below hbw).below hb2)
      have hx2 : w2.heap[wo.heap.size]? = some (.cells #[.int .i64 x.kind, .string x.txt, .int .i64 x.n, .slice av nv cv] 24 (0, 0)) := by rw [← HW2.out]; exact bx_new _ _ _ rfl
      have hs2 : w2.heap.size = wo.heap.size + 1 := by rw [← HW2.out]; simp
      obtain ⟨q0, HQ0⟩ := nameIt x.kind
      obtain ⟨q1, HQ1⟩ := nameIt x.txt
      obtain ⟨q2, HQ2⟩ := nameIt x.n
      rw [HQ0.out] at e0 hcall HW2 hx2
      rw [HQ1.out] at e1 hcall HW2 hx2
      rw [HQ2.out] at e2 hcall HW2 hx2
      obtain ⟨x0, x1, x2, x3⟩ := bx_cells4d hx2
      have HC := Lib.hid hcall
      have HB2 := Lib.hid hb2
      have HLE := HI.out.row.le
      subst hae
      clear j0 j1 j2 j3 hkid hkm hko hcall hb2 hbw hx2
      go_upto_region 5 with fail
      rw [HW2.out]
      go_wp2_with fail
      refine HC.out.mono ?_
      rintro e w3 ⟨u, rfl, hr3, hb3⟩
      obtain ⟨nx, HNX⟩ := nameIt (nrm x)
      rw [HNX.out] at hr3 HT
      rw [HNX.out]
      obtain ⟨au, cu, rfl, -, -⟩ := hr3.form
      have HR3 : Hid (Rd (fun k => w2.heap.size ≤ k) w3 (.sl (nx.kids.map Doc.d)) [.slice au (nx.kids.map Doc.d).length cu]) := hr3.mono fun k hk _ => hk.resolve_left id
      obtain ⟨nu, HNU⟩ := nameIt (nx.kids.map Doc.d).length
      rw [HNU.out] at HR3 ⊢
      have HB3 := Lib.hid (HB2.out.trans (hb3.mono HB2.out.size))
      have HI3 := Lib.hid (HI.out.keep HB3.out)
      obtain ⟨ys, ho, hd⟩ := HI3.out.row.own
      rw [HLN.out.2] at ho
      have HO3 := Lib.hid ho
      have HD3 := Lib.hid hd
      have hn100 := HNL.out
      have hsz3 := HB3.out.size
      have hsb3 : w2.heap.size ≤ w3.heap.size := hb3.size
      clear hr3 hb3 ho hd x0 x1 x2 x3 e0 e1 e2 e3
      go_wp2_with (at_builtin; refine wp_app1at elDoc rfl _ _ rfl HO3.out rfl rfl (by simp) rfl rfl (by omega) (by unfold maxLen; omega) (by omega) ?_)
      intro v' w' ho hg2 hat
      have HNN := Lib.hid (SiI.step (wr := wo) (u := .slice au nu cu) HI3.out (Nat.le_refl _) HB3.out (fun k e => (HOL.out k e).2) HLE HO3.out HD3.out HLN.out.2.symm (HR3.out.mono fun k hk _ => by omega) ho hg2 hat)
      obtain ⟨a', c', rfl, -, -⟩ := own_len ho
      rw [← HT.out] at HNN
      clear ho hg2 hat
      go_wp2_with fail
      go_roundg (nk - (i + 1))
      case measure => omega
      case rel => exact ⟨i + 1, by omega, by omega, by go_num, HNN⟩
    · have hlt' : ¬ (i : Int) < (nk : Int) := by omega
      obtain rfl : i = nk := by omega
      have htl : t.kids.take i = t.kids := List.take_of_length_le (by rw [HKL.out]; omega)
      rw [htl] at HI HLN
      obtain ⟨x0, x1, x2, x3⟩ := bx_cells4d HI.out.top
      obtain ⟨y0, y1, y2, y3⟩ := bx_cells4d HI.out.res
      obtain ⟨f0, f1, f2, f3⟩ := bx_free4 HI.out.res
      have hlr := HI.out.row.le
      have HRR := Lib.hid HI.out.row.rd
      have HRD : Hid (∀ w', wo.grownBy w' (some (w.heap.size + 1)) → Rd (fun k => w.heap.size ≤ k) w' (.sl ((t.kids.map nrm).map Doc.d)) [.slice a3 i c3]) := fun w' hw =>
        Rd.keep (fun k hk hlt => ⟨by show _ ≤ _; omega, hw.block k hlt (fun e => by simp at e; omega)⟩) _ _ HRR.out
      have HST := Lib.hid (fun c0 c1 c2 c3 => stored4 (c0 := c0) (c1 := c1) (c2 := c2) (c3 := c3) HI.out.bel (Nat.le_succ w.heap.size))
      clear htl hg hi HRR
      by_cases k6 : tk = 6
      · subst k6
        obtain rfl := p6 (by omega)
        obtain rfl := p8 (by omega)
        have hne := HNE.out
        rw [if_neg (by omega), if_neg (by omega)] at hne
        have HF := Lib.hid (fun w' => HFIN.out _ (.slice a3 i c3) w' hne)
        clear hne p1 p2 p3 p4 p5 p6 p7 p8
        go_wp2_with fail
        refine bodyPost_ret (v := .agg #[.int .i64 6, .string ⟨#[]⟩, .int .i64 0, .slice a3 i c3]) (by simp [results, Try.results10, go_sem, y0, y1, y2, y3]) rfl ?_
        have hst := HST.out (.int .i64 6) (.string ⟨#[]⟩) (.int .i64 0) (.slice a3 i c3)
        exact HF.out _ (HRD.out _ hst.1) hst.2
      · have k6' : (tk == 6) = false := by simpa using k6
        by_cases k5 : tk = 5
        · subst k5
          obtain ⟨x, hkx⟩ := p4 (.inl rfl)
          obtain rfl := p6 (by omega)
          have hn20 := p7 rfl
          have hi1 : i = 1 := by rw [← HKL.out, hkx]; rfl
          have hxo := HKO.out x (by rw [hkx]; simp)
          have hxN := (nrm_ok _ x (Nat.le_refl _) hxo)
          have hxs := (HKM.out x (by rw [hkx]; simp)).2
          have hne := HNE.out
          rw [if_pos rfl, hkx] at hne
          have hne2 : nrm t = nestD tn (nrm x) := hne
          have hmk : t.kids.map nrm = [nrm x] := by rw [hkx]; rfl
          rw [hmk] at HRD HI
          obtain ⟨g, cg, u, hae, hbl, e0, e1, e2, e3, hkid⟩ := RowD.elem (L := [nrm x]) HI.out.row (i := 0) (by simp)
          simp only [List.getElem_cons_zero, Nat.zero_mul, Nat.zero_add] at e0 e1 e2 e3 hkid
          obtain ⟨rfl, rfl⟩ : a3 = some ⟨g, 0, none⟩ ∧ c3 = cg := by cases hae; exact ⟨rfl, rfl⟩
          obtain ⟨au, cu, rfl, hd1, hd2⟩ := hkid.form
          have hyo := ok_parts ((okA_iff _).1 hxN.1).1
          obtain ⟨y, HY⟩ := nameIt (nrm x)
          rw [HY.out] at e0 e1 e2 e3 hkid hne2 hxN hyo hd1 HRD HI
          have hyN : (nodes y).length ≤ 2000000 := Nat.le_trans hxN.2 (Nat.le_trans hxs (by omega))
          obtain ⟨w6, HW6⟩ := nameIt (wo.alloc (.cells #[.int .i64 y.kind, .string y.txt, .int .i64 y.n, .slice au (y.kids.map Doc.d).length cu] 24))
          have hb6 : Below wo.heap.size wo w6 := by rw [← HW6.out]; exact (Below.refl _ _).alloc (Nat.le_refl _) _
          have hx6 : w6.heap[wo.heap.size]? = some (.cells #[.int .i64 y.kind, .string y.txt, .int .i64 y.n, .slice au (y.kids.map Doc.d).length cu] 24 (0, 0)) := by rw [← HW6.out]; exact bx_new _ _ _ rfl
          have HK6 := Lib.hid (hkid.below hb6)
          have HKS := Lib.hid (hkid.mono (S' := fun k => w.heap.size + 2 ≤ k ∧ k < wo.heap.size) fun k hk hlt => ⟨hk, hlt⟩)
          have HD := Lib.hid (docsE (fun k => k < w6.heap.size) (nodes y).length y _ w6 (Nat.le_refl _) (fun _ h => h) (HK6.out.mono fun k _ h => h) hyN)
          have HX6 := Lib.hid hx6
          have HB6 := Lib.hid hb6
          have hgl : g < wo.heap.size := hbl
          obtain ⟨nv, HNV⟩ := nameIt (y.kids.map Doc.d).length
          obtain ⟨q0, HQ0⟩ := nameIt y.kind
          obtain ⟨q1, HQ1⟩ := nameIt y.txt
          obtain ⟨q2, HQ2⟩ := nameIt y.n
          obtain ⟨p'1, p'2, p'3, p'4, p'5, p'6, p'7, p'8⟩ := hyo
          rw [HNV.out] at e3 HW6 HX6 HD HK6 HKS hd1
          rw [HQ0.out] at e0 HW6 HX6 HD p'6 p'7
          rw [HQ1.out] at e1 HW6 HX6 HD p'6
          rw [HQ2.out] at e2 HW6 HX6 HD p'7
          have HQQ : Hid (nestD tn y = if tn = 0 ∨ (nodes y).any isLine = false then y else if q0 = 5 ∧ q2 + tn ≤ 20 then .mk 5 ⟨#[]⟩ (q2 + tn) y.kids else .mk 5 ⟨#[]⟩ tn [y]) := by
            show _ = _
            rw [← HQ0.out, ← HQ2.out]; rfl
          have HP6 := Lib.hid p'6
          have HP7 := Lib.hid p'7
          subst hi1
          clear hkid hae hxo hxN hxs hne hmk hkx hb6 hx6 hyN p1 p2 p3 p4 p5 p6 p7 p8 p'1 p'2 p'3 p'4 p'5 p'6 p'7 p'8
          go_upto_region 12 with fail
          rw [HW6.out]
          clear x0 x1 x2 x3 y0 y1 y2 y3 f0 f1 f2 f3 e0 e1 e2 e3
          obtain ⟨x0, x1, x2, x3⟩ := bx_cells4d HX6.out
          go_wp2_with fail
          refine HD.out.mono ?_
          rintro e w7 ⟨v7, rfl, hr7, hb7⟩
          have hr7' := hr7.any
          obtain ⟨a7, c7, rfl, -, -⟩ := hr7'.form
          have HC7 := Lib.hid (containsFuncDoc 25 #[] isLine a7 _ c7 (nodes y) w7 (fun _ _ => by kernel_rfl) (lineE w7) hr7')
          obtain ⟨nl, HNL7⟩ := nameIt ((nodes y).map Doc.d).length
          rw [HNL7.out] at HC7 ⊢
          have HB7 := Lib.hid (HB6.out.trans (hb7.mono HB6.out.size))
          have HB67 := Lib.hid hb7
          clear hr7 hr7' hb7 x0 x1 x2 x3
          go_wp2_with fail
          refine HC7.out.mono ?_
          rintro e w8 ⟨rfl, hb8⟩
          have HB8 := Lib.hid (HB7.out.trans (hb8.mono HB7.out.size))
          have hb68 : Below w6.heap.size w6 w8 := HB67.out.trans (hb8.mono HB67.out.size)
          have HI8 := Lib.hid (HI.out.keep HB8.out)
          obtain ⟨x0, x1, x2, x3⟩ := bx_cells4d HI8.out.top
          obtain ⟨y0, y1, y2, y3⟩ := bx_cells4d HI8.out.res
          obtain ⟨f0, f1, f2, f3⟩ := bx_free4 HI8.out.res
          have hx68 := bx_keep HX6.out hb68
          obtain ⟨z0, z1, z2, z3⟩ := bx_cells4d hx68
          obtain ⟨g0, g1, g2, g3⟩ := bx_free4 hx68
          have hwo : ¬ w.heap.size = wo.heap.size := by omega
          have hwo1 : ¬ wo.heap.size = w.heap.size := by omega
          have hwo2 : ¬ w.heap.size + 1 = wo.heap.size := by omega
          have hwo3 : ¬ wo.heap.size = w.heap.size + 1 := by omega
          have h6s : wo.heap.size < w8.heap.size := (Array.getElem?_eq_some_iff.1 hx68).1
          have HKD : Hid (∀ w', w8.grownBy w' (some (w.heap.size + 1)) → Rd (fun k => w.heap.size ≤ k) w' (.sl (y.kids.map Doc.d)) [.slice au nv cu]) := fun w' hw =>
            Rd.keep (fun k hk hlt => ⟨by show _ ≤ _; omega, hw.block k hlt (fun e => by simp at e; omega)⟩) _ _ (HK6.out.below hb68)
          have HKE : Hid (∀ w' w'', w8.grownBy w' (some wo.heap.size) → w'.grownBy w'' (some (w.heap.size + 1)) → Rd (fun k => w.heap.size ≤ k) w'' (.sl (y.kids.map Doc.d)) [.slice au nv cu]) := fun w' w'' hw hw2 =>
            Rd.keep (fun k hk hlt => ⟨by show _ ≤ _; omega, (hw2.block k (Nat.lt_of_lt_of_le hlt hw.size) (fun e => by simp at e; omega)).trans (hw.block k hlt (fun e => by
              simp at e
              have h1 := hk.2
              omega))⟩) _ _ (HKS.out.below HB8.out)
          have HST8 := Lib.hid (fun c0 c1 c2 c3 => stored4 (c0 := c0) (c1 := c1) (c2 := c2) (c3 := c3) HI8.out.bel (Nat.le_succ w.heap.size))
          have hne3 := hne2.trans HQQ.out
          obtain ⟨AB, HAB⟩ := nameIt ((nodes y).any isLine)
          rw [HAB.out] at hne3 ⊢
          clear hne2 hb8 hx68 HQQ
          by_cases hA : tn = 0 ∨ AB = false
          · rw [if_pos hA] at hne3
            have HF := Lib.hid (fun w' => HFIN.out y (.slice au nv cu) w' hne3)
            rw [HQ0.out, HQ1.out, HQ2.out] at HF
            clear hne3
            by_cases hA0 : tn = 0
            · subst hA0
              go_wp2_with fail
              refine bodyPost_ret (v := .agg #[.int .i64 q0, .string q1, .int .i64 q2, .slice au nv cu]) (by simp [results, Try.results10, go_sem, y0, y1, y2, y3]) rfl ?_
              have hst := HST8.out (.int .i64 q0) (.string q1) (.int .i64 q2) (.slice au nv cu)
              exact HF.out _ (HKD.out _ hst.1) hst.2
            · have hA0' : (tn == 0) = false := by simpa using hA0
              obtain rfl : AB = false := hA.resolve_left hA0
              go_wp2_with fail
              refine bodyPost_ret (v := .agg #[.int .i64 q0, .string q1, .int .i64 q2, .slice au nv cu]) (by simp [results, Try.results10, go_sem, y0, y1, y2, y3]) rfl ?_
              have hst := HST8.out (.int .i64 q0) (.string q1) (.int .i64 q2) (.slice au nv cu)
              exact HF.out _ (HKD.out _ hst.1) hst.2
          · rw [if_neg hA] at hne3
            have hA0 : ¬ tn = 0 := fun h => hA (.inl h)
            have hA0' : (tn == 0) = false := by simpa using hA0
            obtain rfl : AB = true := by cases AB with
              | true => rfl
              | false => exact absurd (.inr rfl) hA
            by_cases hB : q0 = 5 ∧ q2 + tn ≤ 20
            · rw [if_pos hB] at hne3
              obtain ⟨rfl, hB2⟩ := hB
              obtain rfl := HP6.out (by omega)
              have hp7 := HP7.out rfl
              obtain ⟨ns, HNS⟩ := nameIt (q2 + tn)
              have hwr : IntKind.i64.wrap (q2 + tn) = ns := by rw [← HNS.out]; exact IntWalk.i64_in _ (by omega)
              have hns : ns ≤ 20 := by rw [← HNS.out]; exact hB2
              rw [HNS.out] at hne3
              have HF := Lib.hid (fun w' => HFIN.out (.mk 5 ⟨#[]⟩ ns y.kids) (.slice au nv cu) w' hne3)
              have HGS : Hid (w8.grownBy (w8.setCell ⟨wo.heap.size, 2, none⟩ (.int .i64 ns)) (some wo.heap.size)) := grown_cell _ _ _
              have HBS : Hid (Below w.heap.size w (w8.setCell ⟨wo.heap.size, 2, none⟩ (.int .i64 ns))) := HI8.out.bel.setCell (by show w.heap.size ≤ wo.heap.size; omega) _
              clear hne3 hB2 hp7 hA
              go_wp2_with fail
              refine bodyPost_ret (v := .agg #[.int .i64 5, .string ⟨#[]⟩, .int .i64 ns, .slice au nv cu]) (by simp [results, Try.results10, go_sem, y0, y1, y2, y3]) rfl ?_
              have hst := stored4 (c0 := .int .i64 5) (c1 := .string ⟨#[]⟩) (c2 := .int .i64 ns) (c3 := .slice au nv cu) HBS.out (Nat.le_succ w.heap.size)
              exact HF.out _ (HKE.out _ _ HGS.out hst.1) hst.2
            · rw [if_neg hB] at hne3
              have HRE : Hid (∀ w', w8.grownBy w' (some (w.heap.size + 1)) → Rd (fun k => w.heap.size ≤ k) w' (.sl (([y] : List Doc).map Doc.d)) [.slice (some ⟨g, 0, none⟩) 1 c3]) := fun w' hw =>
                by
                  have hrr := HI8.out.row.rd
                  refine Rd.keep (fun k hk hlt => ?_) _ _ hrr
                  have hk2 : w.heap.size + 2 ≤ k := by rcases hk with hk | hk <;> exact hk
                  exact ⟨by show _ ≤ _; omega, hw.block k hlt (fun e => by simp at e; omega)⟩
              have HF := Lib.hid (fun w' => HFIN.out (.mk 5 ⟨#[]⟩ tn [y]) (.slice (some ⟨g, 0, none⟩) 1 c3) w' hne3)
              clear hne3 hA
              have HB' := Lib.hid hB
              by_cases h5 : q0 = 5
              · subst h5
                have hp7 := HP7.out rfl
                have hwr : IntKind.i64.wrap (q2 + tn) = q2 + tn := IntWalk.i64_in _ (by omega)
                have hns : ¬ q2 + tn ≤ 20 := fun h => hB ⟨rfl, h⟩
                clear hB hp7
                go_wp2_with fail
                refine bodyPost_ret (v := .agg #[.int .i64 5, .string ⟨#[]⟩, .int .i64 tn, .slice (some ⟨g, 0, none⟩) 1 c3]) (by simp [results, Try.results10, go_sem, y0, y1, y2, y3]) rfl ?_
                have hst := HST8.out (.int .i64 5) (.string ⟨#[]⟩) (.int .i64 tn) (.slice (some ⟨g, 0, none⟩) 1 c3)
                exact HF.out _ (HRE.out _ hst.1) hst.2
              · have h5' : (q0 == 5) = false := by simpa using h5
                clear hB
                go_wp2_with fail
                refine bodyPost_ret (v := .agg #[.int .i64 5, .string ⟨#[]⟩, .int .i64 tn, .slice (some ⟨g, 0, none⟩) 1 c3]) (by simp [results, Try.results10, go_sem, y0, y1, y2, y3]) rfl ?_
                have hst := HST8.out (.int .i64 5) (.string ⟨#[]⟩) (.int .i64 tn) (.slice (some ⟨g, 0, none⟩) 1 c3)
                exact HF.out _ (HRE.out _ hst.1) hst.2
        · have k5' : (tk == 5) = false := by simpa using k5
          by_cases k4 : tk = 4
          · subst k4
            have hne := HNE.out
            rw [if_neg (by omega), if_pos rfl] at hne
            have hMo : ∀ x ∈ t.kids.map nrm, okA x := fun x hx => by
              obtain ⟨k, h1, rfl⟩ := List.mem_map.1 hx
              exact (nrm_ok _ k (Nat.le_refl _) (HKO.out k h1)).1
            have hMs : szL (t.kids.map nrm) ≤ 2000000 := by
              have h2 : sz t ≤ 100000 := HN.out
              rw [sz_eq] at h2
              have h3 := szL_nrm HKO.out
              omega
            have hrow := HI.out.row.rd
            have HFL := Lib.hid (flattenedE (fun k => w.heap.size + 2 ≤ k ∧ k < wo.heap.size) (t.kids.map nrm) (.slice a3 i c3) wo (fun k h => h.2) (hrow.mono fun k hk hlt => ⟨by omega, hlt⟩) hMo hMs)
            obtain ⟨nd, HND⟩ := nameIt (catD (t.kids.map nrm))
            rw [HND.out] at HFL hne
            clear hMo hMs hrow p1 p2 p3 p4 p5 p6 p7 p8
            go_wp2_with fail
            refine HFL.out.mono ?_
            rintro e w3 ⟨u, rfl, hr3, hb3⟩
            obtain ⟨au, cu, rfl, -, -⟩ := hr3.form
            have hres := bx_keep HI.out.res hb3
            obtain ⟨z0, z1, z2, z3⟩ := bx_cells4d hres
            obtain ⟨g0, g1, g2, g3⟩ := bx_free4 hres
            have HR3 : Hid (∀ w', w3.grownBy w' (some (w.heap.size + 1)) → Rd (fun k => w.heap.size ≤ k) w' (.sl (nd.kids.map Doc.d)) [.slice au (nd.kids.map Doc.d).length cu]) := fun w' hw =>
              Rd.keep (fun k hk hlt => ⟨by show _ ≤ _; omega, hw.block k hlt (fun e => by simp at e; omega)⟩) _ _ hr3
            have HST3 := Lib.hid (fun c0 c1 c2 c3 => stored4 (c0 := c0) (c1 := c1) (c2 := c2) (c3 := c3) (HI.out.bel.trans (hb3.mono HI.out.bel.size)) (Nat.le_succ w.heap.size))
            have HF := Lib.hid (fun w' => HFIN.out nd (.slice au (nd.kids.map Doc.d).length cu) w' hne)
            obtain ⟨nv, HNV⟩ := nameIt (nd.kids.map Doc.d).length
            obtain ⟨q0, HQ0⟩ := nameIt nd.kind
            obtain ⟨q1, HQ1⟩ := nameIt nd.txt
            obtain ⟨q2, HQ2⟩ := nameIt nd.n
            rw [HNV.out] at HF HR3 ⊢
            rw [HQ0.out, HQ1.out, HQ2.out] at HF
            have hlr3 : w.heap.size + 1 < w3.heap.size := (Array.getElem?_eq_some_iff.1 hres).1
            clear hres hb3 hr3 hne x0 x1 x2 x3 y0 y1 y2 y3 f0 f1 f2 f3
            rw [HQ0.out, HQ1.out, HQ2.out]
            go_wp2_with fail
            refine bodyPost_ret (v := .agg #[.int .i64 q0, .string q1, .int .i64 q2, .slice au nv cu]) (by simp [results, Try.results10, go_sem, z0, z1, z2, z3]) rfl ?_
            have hst := HST3.out (.int .i64 q0) (.string q1) (.int .i64 q2) (.slice au nv cu)
            exact HF.out _ (HR3.out _ hst.1) hst.2
          · have k4' : (tk == 4) = false := by simpa using k4
            have hks := p3 k4 k5 k6
            have hne := HNE.out
            rw [if_neg k5, if_neg k4, hks] at hne
            have hvv := HV.out
            rw [hks] at hvv
            have HF := Lib.hid (fun w' => HFIN.out _ (.slice a i cap) w' hne (rd_empty hvv))
            clear hne hvv hks p1 p2 p3 p4 p5 p6 p7 p8
            go_wp2_with fail
            refine bodyPost_ret (v := .agg #[.int .i64 tk, .string tx, .int .i64 tn, .slice a i cap]) (by simp [results, Try.results10, go_sem, y0, y1, y2, y3]) rfl ?_
            exact HF.out _ (HST.out (.int .i64 tk) (.string tx) (.int .i64 tn) (.slice a i cap)).2
end Dc
end Go.Proofs.Ytgpikophndbmeaa
