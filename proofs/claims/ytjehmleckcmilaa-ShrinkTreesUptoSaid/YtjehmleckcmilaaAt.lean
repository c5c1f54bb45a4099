/- The contract of tree.At. -/
import Derived.Test.YtjehmleckcmilaaBelow
namespace Go.Proofs.Ytjehmleckcmilaa
open Go.RowKit

theorem kidAt_of (t : Tree) (i : Int) : kidAt t i = if i < 0 then none else (kidsOf t)[i.toNat]? := by
  unfold kidAt kidsOf
  by_cases h : t.rule = -1 <;> by_cases h2 : i < 0 <;> simp [h, h2]
theorem DescRel.keep {t : Tree} {p : List Int} {w : World} {i : Nat} {cur : Tree} {v : Value} {wr w' : World} (h : DescRel t p w i cur v wr) (hb : Below wr.heap.size wr w') : DescRel t p w i cur v w' :=
  ⟨bx_keep h.box hb, h.kid, bx_keep h.res hb, h.eq, h.bel.trans (hb.mono h.bel.size)⟩
mutual
theorem size_mono : ∀ (t : Tree), ∀ k ∈ t.kids, k.size < t.size
  | .node r tm ks => by
    intro k hk
    have := sizeL_mem ks k hk
    simp [Tree.size]; omega
theorem sizeL_mem : ∀ (ks : List Tree), ∀ k ∈ ks, k.size ≤ sizeL ks
  | [], k, h => by simp at h
  | x :: ks, k, h => by
    rcases List.mem_cons.1 h with rfl | h
    · simp [sizeL]
    · have := sizeL_mem ks k h; simp [sizeL]; omega
end
theorem belowT_size : ∀ (p : List Int) (t x : Tree), belowT t p = some x → x.size ≤ t.size
  | [], t, x, h => by simp [belowT] at h; subst h; exact Nat.le_refl _
  | i :: p, t, x, h => by
    rw [belowT] at h
    cases hk : kidAt t i with
    | none => rw [hk] at h; simp at h
    | some k =>
      rw [hk] at h
      have h1 := belowT_size p k x h
      have h2 : k ∈ t.kids := by
        unfold kidAt at hk
        split at hk
        · cases hk
        · exact List.mem_of_getElem? hk
      have := size_mono t k h2
      omega

/-- what was found lies in new memory -/
def FndPost (x : Option Tree) (w : World) (e : Ending) (w' : World) : Prop :=
  ∃ v, e = .returned (.tuple #[.agg #[.int .i64 (x.getD noTree).rule, .int .i64 (x.getD noTree).term, v], foundE x]) ∧ Rd (FreshB w) w' (.sl ((x.getD noTree).kids.map Tree.d)) [v] ∧ Below w.heap.size w w'

set_option maxHeartbeats 2000000 in
set_option maxRecDepth 100000 in
theorem atF (t : Tree) (v : Value) (ap : Option Addr) (cp : Nat) (p : List Int) (w : World) (hv : Rd AnyB w (.sl (t.kids.map Tree.d)) [v]) (hp : Sl w (.slice ap p.length cp) (ints p)) (hs : t.size ≤ 1099511627776) :
    Calls Try.prog 210 #[.agg #[.int .i64 t.rule, .int .i64 t.term, v], .slice ap p.length cp] w (FndPost (belowT t p) w) := by
  obtain ⟨a, cap, rfl, -, -⟩ := hv.form
  obtain ⟨n, HN⟩ := nameIt (t.kids.map Tree.d).length
  rw [HN.out] at hv
  rw [HN.out]
  have hpl := hp.len
  unfold maxLen at hpl
  obtain ⟨-, hp1, hp2⟩ := hpl
  have HP := Lib.hid hp
  have HS := Lib.hid hs
  have HR0 := Lib.hid (desc0 (p := p) hv)
  obtain ⟨w0, HW0⟩ := nameIt ((w.alloc (.cells #[.int .i64 t.rule, .int .i64 t.term, .slice a n cap] 43)).alloc (.cells #[.int .i64 0, .int .i64 0, .slice none 0 0] 43))
  rw [HW0.out] at HR0
  clear hv hp hs
  go_enter Try.func210, Try.ntmps210
  go_wp2_with fail
  rw [HW0.out]
  go_loopg [11] p.length (fun gg v11 wr => ∃ (i : Nat) (cur : Tree) (v : Value), i ≤ p.length ∧ p.length - i ≤ gg ∧ v11 = .int .i64 i ∧ Hid (DescRel t p w i cur v wr))
  case atStart => exact ⟨0, t, _, by omega, by omega, rfl, HR0⟩
  case round =>
    clear HR0 HW0 HN
    obtain ⟨i, cur, v, hi, hg, rfl, HR⟩ := hrel
    obtain ⟨av, cv, rfl, hcv1, hcv2⟩ := HR.out.kid.form
    obtain ⟨nv, HNV⟩ := nameIt (cur.kids.map Tree.d).length
    rw [HNV.out] at HR hcv1
    have hbox := HR.out.box
    obtain ⟨x0, x1, x2⟩ := bx_cells3 hbox
    have hne1 : ¬ w.heap.size = w.heap.size + 1 := by omega
    have hne2 : ¬ w.heap.size + 1 = w.heap.size := by omega
    clear hbox
    by_cases hlt : i < p.length
    · have hlt' : (i : Int) < (p.length : Int) := by omega
      obtain ⟨ba, oa, hae, hca⟩ := (HP.out.keep HR.out.bel).at hlt
      have c1 := hca i (by rw [ints_len]; exact hlt)
      rw [ints_get] at c1
      obtain ⟨x, HX⟩ := nameIt (p[i]'hlt)
      rw [HX.out] at c1
      subst hae
      clear hca
      go_wp2_with fail
      refine (kidsE w cur _ _ HR.out.kid).mono ?_
      rintro e w1 ⟨ak, ck, rfl, hrk, hb1⟩
      have HR1 := Lib.hid (HR.out.keep hb1)
      obtain ⟨K, HKN⟩ := nameIt (kidsOf cur)
      have hkl := hrk.bounds
      rw [HKN.out] at hkl hrk
      rw [HKN.out]
      unfold maxLen at hkl
      obtain ⟨-, hkl1, hkl2⟩ := hkl
      have HRK := Lib.hid hrk
      have hlt1 := (Array.getElem?_eq_some_iff.1 HR1.out.res).1
      obtain ⟨y0, y1, y2⟩ := bx_cells3 HR1.out.res
      obtain ⟨f0, f1, f2⟩ := bx_free3 HR1.out.res
      obtain ⟨g0, g1, g2⟩ := bx_free3 HR1.out.box
      obtain ⟨z0, z1, z2⟩ := bx_cells3 HR1.out.box
      clear hrk hb1 x0 x1 x2 c1
      cases hk : kidAt cur x with
      | none =>
        have HE : Hid (belowT t p = none) := by show _ = _; rw [← HR.out.eq, belowT_drop hlt, HX.out, hk]; rfl
        have hcase : x < 0 ∨ ∃ j : Nat, x = (j : Int) ∧ K.length ≤ j := by
          rw [kidAt_of, HKN.out] at hk
          by_cases e2 : x < 0
          · exact .inl e2
          · refine .inr ⟨x.toNat, by omega, ?_⟩
            simp [e2] at hk
            omega
        have HF : Hid (∀ w', Below w.heap.size w w' → FndPost (belowT t p) w (.returned (.tuple #[.agg #[.int .i64 0, .int .i64 0, .slice none 0 0], .int .i64 5])) w') := by
          intro w' hb
          rw [HE.out]
          exact ⟨_, rfl, rd_nil _ _, hb⟩
        clear hk HE
        rcases hcase with hx | ⟨j, rfl, hj⟩
        · have hxb : decide (x < 0) = true := by simpa using hx
          go_wp2_with fail
          exact bodyPost_ret (v := .tuple #[.agg #[.int .i64 0, .int .i64 0, .slice none 0 0], .int .i64 5]) (by simp [results, Try.results210, go_sem, y0, y1, y2]) rfl (HF.out _ (below_box3 HR1.out.bel (by omega) _ _ _))
        · have hxb : decide ((j : Int) < 0) = false := by simp
          have hj' : (K.length : Int) ≤ (j : Int) := by omega
          go_wp2_with fail
          exact bodyPost_ret (v := .tuple #[.agg #[.int .i64 0, .int .i64 0, .slice none 0 0], .int .i64 5]) (by simp [results, Try.results210, go_sem, y0, y1, y2]) rfl (HF.out _ (below_box3 HR1.out.bel (by omega) _ _ _))
      | some k =>
        have hcase : ∃ j : Nat, x = (j : Int) ∧ ∃ h : j < K.length, K[j] = k := by
          have hk' := hk
          rw [kidAt_of, HKN.out] at hk'
          by_cases e2 : x < 0
          · simp [e2] at hk'
          · simp [e2] at hk'
            obtain ⟨h3, h4⟩ := List.getElem?_eq_some_iff.1 hk'
            exact ⟨x.toNat, by omega, h3, h4⟩
        obtain ⟨j, rfl, hj, hjk⟩ := hcase
        obtain ⟨b, off, u, hae, -, hbl, e0, e1, e2, hkid⟩ := HRK.out.kid hj
        rw [hjk] at e0 e1 hkid
        obtain ⟨au, cu, rfl, -, -⟩ := hkid.form
        obtain ⟨nu, HNU⟩ := nameIt (k.kids.map Tree.d).length
        rw [HNU.out] at e2 hkid
        have hbel := HR1.out.bel
        have d0 := (hbel.cell (p := ⟨b, off + j * 3, none⟩) hbl).trans e0
        have d1 := (hbel.cell (p := ⟨b, off + j * 3 + 1, none⟩) hbl).trans e1
        have d2 := (hbel.cell (p := ⟨b, off + j * 3 + 2, none⟩) hbl).trans e2
        have HST := Lib.hid (HR1.out.step hlt (by rw [HX.out]; exact hk) hkid)
        obtain ⟨q0, HQ0⟩ := nameIt k.rule
        obtain ⟨q1, HQ1⟩ := nameIt k.term
        rw [HQ0.out] at d0 HST
        rw [HQ1.out] at d1 HST
        have hxb : decide ((j : Int) < 0) = false := by simp
        have hj' : (j : Int) < (K.length : Int) := by omega
        have hbne : ¬ w.heap.size = b := by omega
        subst hae
        clear hkid hbel e0 e1 e2 hk hjk
        go_wp2_with fail
        go_roundg (p.length - (i + 1))
        case measure => omega
        case rel => exact ⟨i + 1, k, _, by omega, by omega, by go_num, HST⟩
    · have hlt' : ¬ (i : Int) < (p.length : Int) := by omega
      have HE : Hid (belowT t p = some cur) := by show _ = _; rw [← HR.out.eq, List.drop_of_length_le (by omega)]; rfl
      have hcs : cur.size ≤ 1099511627776 := Nat.le_trans (belowT_size _ _ _ HE.out) HS.out
      have HCL := Lib.hid (cloneT cur _ _ hcs (HR.out.kid.below HR.out.bel))
      obtain ⟨r, HXr⟩ := nameIt cur.rule
      obtain ⟨tm, HXt⟩ := nameIt cur.term
      rw [HXr.out, HXt.out] at HCL
      rw [HXr.out] at x0
      rw [HXt.out] at x1
      go_wp2_with fail
      refine HCL.out.mono ?_
      rintro e w1 ⟨v1, rfl, hr1, hb1⟩
      obtain ⟨a1, c1, rfl, -, -⟩ := hr1.form
      rw [HXr.out, HXt.out]
      have HR1 := Lib.hid (HR.out.keep hb1)
      have HRD := Lib.hid hr1
      have hlt1 := (Array.getElem?_eq_some_iff.1 HR1.out.res).1
      obtain ⟨y0, y1, y2⟩ := bx_cells3 HR1.out.res
      obtain ⟨f0, f1, f2⟩ := bx_free3 HR1.out.res
      have hsz := (Array.getElem?_eq_some_iff.1 HR.out.res).1
      clear hr1 hb1 x0 x1 x2
      go_wp2_with fail
      refine bodyPost_ret (v := .tuple #[.agg #[.int .i64 r, .int .i64 tm, .slice a1 (cur.kids.map Tree.d).length c1], .int .i64 0]) (by simp [results, Try.results210, go_sem, y0, y1, y2]) rfl ?_
      rw [HE.out]
      refine ⟨.slice a1 (cur.kids.map Tree.d).length c1, by rw [← HXr.out, ← HXt.out]; rfl, ?_, by simpa using below_box3 HR1.out.bel (b := w.heap.size + 1) (by omega) (.int .i64 r) (.int .i64 tm) (.slice a1 (cur.kids.map Tree.d).length c1)⟩
      have := (HRD.out.box3 (b := w.heap.size + 1) (by simp [FreshB]; omega) (.int .i64 r) (.int .i64 tm) (.slice a1 (cur.kids.map Tree.d).length c1)).mono (S' := FreshB w) (fun k hk _ => by have h := HR.out.bel.size; simp [FreshB] at hk ⊢; omega)
      simpa using this
theorem FndPost.desc {x : Option Tree} {w : World} {e : Ending} {w' : World} (h : FndPost x w e w') : DescPost x foundE w e w' := by
  obtain ⟨v, rfl, h1, h2⟩ := h
  exact ⟨v, rfl, h1.any, h2⟩
theorem atE (t : Tree) (v : Value) (ap : Option Addr) (cp : Nat) (p : List Int) (w : World) (hv : Rd AnyB w (.sl (t.kids.map Tree.d)) [v]) (hp : Sl w (.slice ap p.length cp) (ints p)) (hs : t.size ≤ 1099511627776) :
    Calls Try.prog 210 #[.agg #[.int .i64 t.rule, .int .i64 t.term, v], .slice ap p.length cp] w (DescPost (belowT t p) foundE w) :=
  (atF t v ap cp p w hv hp hs).mono fun _ _ h => h.desc
end Go.Proofs.Ytjehmleckcmilaa
