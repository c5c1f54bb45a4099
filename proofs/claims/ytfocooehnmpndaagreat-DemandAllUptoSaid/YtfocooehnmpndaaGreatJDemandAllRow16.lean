/- For every input of bulk at most 1048576 the law DemandAll returns true, and its arguments read afterwards as before. Condition: the bulk of the arguments. -/
import Derived.Test.YtfocooehnmpndaaGreatJDemandAllRow12
import Derived.Test.YtfocooehnmpndaaGreatJDemandAllRow15
import Derived.Test.YtfocooehnmpndaaGreatJDemandAllRow11
import Derived.Test.YtfocooehnmpndaaGreatJDemandAllRow4
import Derived.Test.YtfocooehnmpndaaGreatJDemandAllRow1
import Derived.Lib.SmallJoins
import Derived.SizedLaws
import Derived.OpenShut
import Derived.ChangeOld
import Derived.Carry
import Derived.JoinedCond
namespace Go.Proofs.YtfocooehnmpndaaGreat
open Go.RowKit
namespace Dm
open At (Ref okEqK checkS leavesS oneX addX)
theorem two_chk : chkD listG leavesS twoT = 0 := by
  unfold chkD
  rw [if_neg (by rw [At.leaves_ok]; decide), if_neg (by rw [list_two]; decide), if_pos]
  unfold symOf
  rw [if_pos list_two]
  decide
theorem two_vl1 : Vl leavesS (tabT twoT) (1, 0) 1 := by
  have h := Vl.mk (s := leavesS) (L := tabT twoT) (1, 0) (fun _ => 0) (by
    intro j hj
    have e : needsI leavesS (tabT twoT) (1, 0) = [] := by
      unfold needsI
      rw [At.refs_same]
      rfl
    rw [e] at hj
    cases hj)
  have e : exprI leavesS (tabT twoT) (1, 0) = oneX := rfl
  rw [e] at h
  exact h
theorem two_vl0 : Vl leavesS (tabT twoT) (0, 0) 2 := by
  have h := Vl.mk (s := leavesS) (L := tabT twoT) (0, 0) (fun _ => 1) (by
    intro j hj
    have e : needsI leavesS (tabT twoT) (0, 0) = [(1, 0)] := by
      unfold needsI
      rw [At.refs_same]
      rfl
    rw [e, List.mem_singleton] at hj
    subst hj
    exact two_vl1)
  have e : exprI leavesS (tabT twoT) (0, 0) = addX := rfl
  rw [e] at h
  exact h
theorem two_all : allI listG leavesS (tabT twoT) = [(0, 0), (1, 0)] := by rfl
theorem two_has : hasN listG leavesS (tabT twoT) (tabT twoT).length := by
  intro i hi _
  rw [two_all] at hi
  simp only [List.mem_cons, List.not_mem_nil, or_false] at hi
  rcases hi with rfl | rfl
  · exact ⟨_, two_vl0⟩
  · exact ⟨_, two_vl1⟩
theorem two_rows : rowsI listG leavesS (tabT twoT) (tabT twoT).length = [[2], [1], [], []] := by
  have e0 : rowI listG leavesS (tabT twoT) 0 = [2] := by
    unfold rowI
    rw [show attrsAt listG leavesS (tabT twoT) 0 = [0] from rfl]
    simp [valI_eq two_vl0]
  have e1 : rowI listG leavesS (tabT twoT) 1 = [1] := by
    unfold rowI
    rw [show attrsAt listG leavesS (tabT twoT) 1 = [0] from rfl]
    simp [valI_eq two_vl1]
  have e2 : rowI listG leavesS (tabT twoT) 2 = [] := by
    unfold rowI
    rw [show attrsAt listG leavesS (tabT twoT) 2 = [] from rfl]
    rfl
  have e3 : rowI listG leavesS (tabT twoT) 3 = [] := by
    unfold rowI
    rw [show attrsAt listG leavesS (tabT twoT) 3 = [] from rfl]
    rfl
  show (List.range 4).map _ = _
  simp [List.range, List.range.loop, e0, e1, e2, e3]
theorem nil_rows (w : World) : Rd AnyB w (.sl (([] : List (List Int)).map D.ints)) [.slice none 0 0] := ⟨none, 0, [], rfl, Nat.le_refl _, Nat.zero_le _, fun _ => rfl, fun i h => (by cases h), (by simp [RdAll])⟩
set_option maxHeartbeats 8000000 in
set_option maxRecDepth 100000 in
theorem lawDA (g : Gram) (s : At.Sys) (T : Tree) (vr va vq vk : Value) (w : World) (hok : ∀ q ∈ s.eqs, okEqK q) (hsz : ∀ q ∈ s.eqs, q.is'.size ≤ 1048576) (hal : s.attrs.length ≤ 2000000) (hN : (nodes T).length ≤ 1099511627776)
    (hR : Rd AnyB w (.sl (g.rules.map Rule.d)) [vr]) (hA : Rd AnyB w (.sl (s.attrs.map At.Attr.d)) [va]) (hQ : Rd AnyB w (.sl (s.eqs.map At.Eqn.d)) [vq]) (hT : Rd AnyB w (.sl (T.kids.map Tree.d)) [vk]) :
    Calls Tryz.prog 3 #[.agg #[.int .i64 g.terms, .int .i64 g.nons, .int .i64 g.start, vr], .agg #[va, vq], .agg #[.int .i64 T.rule, .int .i64 T.term, vk]] w (fun e w' => e = .returned (.bool true) ∧ Below w.heap.size w w') := by
  obtain ⟨ra, rc, rfl, -, -⟩ := hR.form
  obtain ⟨aa, ac, rfl, -, -⟩ := hA.form
  obtain ⟨qa, qc, rfl, -, -⟩ := hQ.form
  obtain ⟨ta, tc, rfl, -, -⟩ := hT.form
  rw [List.length_map] at hR hA hQ hT
  simp only [List.length_map]
  obtain ⟨w0, HW0⟩ := nameIt (((w.alloc (.cells #[.int .i64 g.terms, .int .i64 g.nons, .int .i64 g.start, .slice ra g.rules.length rc] 24)).alloc (.cells #[.slice aa s.attrs.length ac, .slice qa s.eqs.length qc] 28)).alloc (.cells #[.int .i64 T.rule, .int .i64 T.term, .slice ta T.kids.length tc] 31))
  have HB0 : Hid (Below w.heap.size w w0) := by rw [← HW0.out]; exact (((Below.refl _ _).alloc (Nat.le_refl _) _).alloc (by simp) _).alloc (by simp; omega) _
  have X0 : Hid (w0.heap[w.heap.size]? = some (.cells #[.int .i64 g.terms, .int .i64 g.nons, .int .i64 g.start, .slice ra g.rules.length rc] 24 (0, 0))) := by
    rw [← HW0.out]; exact bx_keep (bx_keep (bx_new _ _ _ rfl) ((Below.refl _ _).alloc (Nat.le_refl _) _)) ((Below.refl _ _).alloc (Nat.le_refl _) _)
  have X1 : Hid (w0.heap[w.heap.size + 1]? = some (.cells #[.slice aa s.attrs.length ac, .slice qa s.eqs.length qc] 28 (0, 0))) := by
    rw [← HW0.out]; exact bx_keep (bx_new _ _ _ (by simp)) ((Below.refl _ _).alloc (Nat.le_refl _) _)
  have X2 : Hid (w0.heap[w.heap.size + 1 + 1]? = some (.cells #[.int .i64 T.rule, .int .i64 T.term, .slice ta T.kids.length tc] 31 (0, 0))) := by
    rw [← HW0.out]; exact bx_new _ _ _ (by simp)
  have CAD := Lib.hid (fun (W : World) (hb : Below w.heap.size w W) => allDE g s T hok hal hN ra aa qa ta rc ac qc tc W (hR.below hb) (hA.below hb) (hQ.below hb) (hT.below hb))
  have CFA := Lib.hid (fun (W : World) (hb : Below w.heap.size w W) => At.faultyE g s ra aa qa rc ac qc W hsz (hR.below hb) (hA.below hb) (hQ.below hb))
  have CSF := Lib.hid (fun (W : World) (hb : Below w.heap.size w W) => startFaultE g T hN ra ta rc tc W (hR.below hb) (hT.below hb))
  have CAT : Hid (∀ W : World, Below w.heap.size w W → chkD g s T = 0 → Calls Tryz.prog 13 #[.agg #[.int .i64 g.terms, .int .i64 g.nons, .int .i64 g.start, .slice ra g.rules.length rc], .agg #[.slice aa s.attrs.length ac, .slice qa s.eqs.length qc], .agg #[.int .i64 T.rule, .int .i64 T.term, .slice ta T.kids.length tc]] W (WnPost g s T W)) := fun W hb h => attributesE g s T (chk_ok h).2.1 hal (chk_size h) ra aa qa rc ac qc _ W (hR.below hb) (hA.below hb) (hQ.below hb) (hT.below hb)
  have CRW : Hid (∀ (W : World) (wb : Nat), chkD g s T = 0 → WdS g s (tabT T) wb W → Calls Tryz.prog 14 #[.pointer (some ⟨wb, 0, none⟩)] W (RwPost g s (tabT T) W)) := fun W wb h h1 => rowsE g s T (chk_ok h).1 (chk_ok h).2.1 (chk_ok h).2.2.1 hal (chk_size h) wb W h1
  have HWANT : Hid (chkD g s T = if checkS g s ≠ 0 then checkS g s else stF g T) := chk_want g s T
  obtain ⟨Z, HZ⟩ := nameIt (chkD g s T)
  obtain ⟨C, HC⟩ := nameIt (checkS g s)
  obtain ⟨S, HS⟩ := nameIt (stF g T)
  obtain ⟨RR, HRR⟩ := nameIt (rowsI g s (tabT T) (tabT T).length)
  have CADP : Hid (∀ W : World, Below w.heap.size w W → ∀ e w', DAllPost g s T W e w' → ∃ v er, e = .returned (.tuple #[v, .int .i64 er]) ∧ Below W.heap.size W w' ∧ (Z ≠ 0 → er = Z ∧ v = .slice none 0 0) ∧ (Z = 0 → (hasN g s (tabT T) (tabT T).length → er = 0 ∧ Rd AnyB w' (.sl (RR.map D.ints)) [v]) ∧ (¬ hasN g s (tabT T) (tabT T).length → er = 9 ∧ v = .slice none 0 0))) := fun W hb e w' h => by
    obtain ⟨v, er, h1, h2, h3, h4⟩ := h
    rw [HZ.out] at h3 h4
    rw [HRR.out] at h4
    exact ⟨v, er, h1, h2, h3, h4⟩
  have CRWP : Hid (∀ (W : World) e w', RwPost g s (tabT T) W e w' → ∃ v ok, e = .returned (.tuple #[v, .bool ok]) ∧ Below W.heap.size W w' ∧ (ok = true ↔ hasN g s (tabT T) (tabT T).length) ∧ (ok = true → Rd AnyB w' (.sl (RR.map D.ints)) [v])) := fun W e w' h => by
    obtain ⟨v, ok, h1, h2, h3, h4⟩ := h
    rw [HRR.out] at h4
    exact ⟨v, ok, h1, h2, h3, h4⟩
  obtain ⟨HASN, HHN⟩ := nameIt (hasN g s (tabT T) (tabT T).length)
  simp only [HHN.out] at CADP CRWP
  simp only [HZ.out] at CAT CRW
  rw [HZ.out, HC.out, HS.out] at HWANT
  simp only [HC.out] at CFA
  simp only [HS.out] at CSF
  obtain ⟨rl, HRL⟩ := nameIt g.rules.length
  obtain ⟨al, HAL⟩ := nameIt s.attrs.length
  obtain ⟨ql, HQLn⟩ := nameIt s.eqs.length
  obtain ⟨gt, HGT⟩ := nameIt g.terms
  obtain ⟨gn, HGN⟩ := nameIt g.nons
  obtain ⟨gs, HGS⟩ := nameIt g.start
  obtain ⟨tr, HTR⟩ := nameIt T.rule
  obtain ⟨tm, HTM⟩ := nameIt T.term
  obtain ⟨nk, HNK⟩ := nameIt T.kids.length
  rw [HRL.out, HAL.out, HQLn.out, HGT.out, HGN.out, HGS.out, HTR.out, HTM.out, HNK.out]
  rw [HRL.out, HAL.out, HQLn.out, HGT.out, HGN.out, HGS.out, HTR.out, HTM.out, HNK.out] at HW0
  rw [HRL.out, HGT.out, HGN.out, HGS.out] at X0
  rw [HAL.out, HQLn.out] at X1
  rw [HTR.out, HTM.out, HNK.out] at X2
  simp only [HRL.out, HAL.out, HQLn.out, HGT.out, HGN.out, HGS.out, HTR.out, HTM.out, HNK.out] at CAD CAT
  simp only [HRL.out, HAL.out, HQLn.out, HGT.out, HGN.out, HGS.out] at CFA
  simp only [HRL.out, HGT.out, HGN.out, HGS.out, HTR.out, HTM.out, HNK.out] at CSF
  have CLI := Lib.hid (listE w0)
  clear hok hsz hal hN hR hA hQ hT
  go_enter Tryz.func3, Tryz.ntmps3
  go_upto_region 1 with fail
  rw [HW0.out]
  clear HW0
  go_wp2_with (refine CLI.out.mono ?_)
  rintro e1 w1 ⟨v1, rfl, hr1, hb1⟩
  have HB1 : Hid (Below w0.heap.size w0 w1) := hb1
  have HR1 := Lib.hid hr1
  obtain ⟨fa, fc, rfl, -, -⟩ := hr1.form
  have CLE := Lib.hid (At.leavesE w1)
  clear hr1 hb1 CLI
  go_wp2_with (refine CLE.out.mono ?_)
  rintro e2 w2 ⟨u, u', rfl, ha2, hq2, hb2⟩
  have HB2 : Hid (Below w0.heap.size w0 w2) := HB1.out.trans (hb2.mono HB1.out.size)
  have HR2 := Lib.hid (HR1.out.below hb2)
  have HA2 := Lib.hid ha2
  have HQ2 := Lib.hid hq2
  obtain ⟨ga, gc, rfl, -, -⟩ := ha2.form
  obtain ⟨ha', hc', rfl, -, -⟩ := hq2.form
  have CTW := Lib.hid (twoE w2)
  clear ha2 hq2 hb2 CLE
  go_wp2_with (refine CTW.out.mono ?_)
  rintro e3 w3 ⟨v3, rfl, ht3, hb3⟩
  obtain ⟨ka, kc, rfl, -, -⟩ := ht3.form
  have HB3 : Hid (Below w0.heap.size w0 w3) := HB2.out.trans (hb3.mono HB2.out.size)
  have CFX := Lib.hid (allDE listG leavesS twoT At.leaves_okK (by decide) (by decide) fa ga ha' ka fc gc hc' kc w3 (HR2.out.below hb3) (HA2.out.below hb3) (HQ2.out.below hb3) ht3)
  clear ht3 hb3 CTW HR1 HR2 HA2 HQ2
  go_wp2_with (refine CFX.out.mono ?_)
  rintro e4 w4 ⟨v4, er, rfl, hb4, -, h4⟩
  obtain ⟨rfl, hr4⟩ := (h4 two_chk).1 two_has
  rw [two_rows] at hr4
  have HB4 : Hid (Below w0.heap.size w0 w4) := HB3.out.trans (hb4.mono HB3.out.size)
  have HR4 := Lib.hid hr4
  obtain ⟨va4, vn4, vc4, rfl⟩ : ∃ x y z, v4 = .slice x y z := (by obtain ⟨x, y, e, -, -⟩ := hr4.form; exact ⟨_, _, _, e⟩)
  have ba : ∀ (w : World) (o : Obj), Below w.heap.size w (w.alloc o) := fun w o => (Below.refl _ _).alloc (Nat.le_refl _) _
  obtain ⟨w5, HW5⟩ := nameIt (((w4.alloc (.cells #[.int .i64 2] 3)).alloc (.cells #[.int .i64 1] 3)).alloc (.cells #[.slice (some ⟨w4.heap.size, 0, none⟩) 1 1, .slice (some ⟨w4.heap.size + 1, 0, none⟩) 1 1, .slice none 0 0, .slice none 0 0] 40))
  have hb5 : Below w4.heap.size w4 w5 := by rw [← HW5.out]; exact (((Below.refl _ _).alloc (Nat.le_refl _) _).alloc (by simp) _).alloc (by simp; omega) _
  have HLT : Hid (Rd AnyB w5 (.sl (([[2], [1], [], []] : List (List Int)).map D.ints)) [.slice (some ⟨w4.heap.size + 1 + 1, 0, none⟩) 4 4]) := by
    show Rd _ _ _ _
    rw [← HW5.out]
    refine rd_of_own (own_of_block (bx_new _ _ _ (by simp)) (n := 4) (size := 1) rfl (by simp [maxLen])) ?_ rfl (fun _ _ => trivial)
    refine ⟨[_], _, rfl, rd_of_own (own_of_block (bx_keep (bx_keep (bx_new _ _ _ rfl) (ba _ _)) (ba _ _)) (n := 1) (size := 1) rfl (by simp [maxLen])) ((rdAll_ints _ _).2 rfl) rfl (fun _ _ => trivial), [_], _, rfl, rd_of_own (own_of_block (bx_keep (bx_new _ _ _ (by simp)) (ba _ _)) (n := 1) (size := 1) rfl (by simp [maxLen])) ((rdAll_ints _ _).2 rfl) rfl (fun _ _ => trivial), [_], _, rfl, rd_nil _ _, RdAll.one (rd_nil _ _)⟩
  have CSR := Lib.hid (sameRowsE [[2], [1], [], []] (.slice va4 vn4 vc4) (.slice (some ⟨w4.heap.size + 1 + 1, 0, none⟩) 4 4) w5 (HR4.out.below hb5) HLT.out)
  have HB5 : Hid (Below w0.heap.size w0 w5) := HB4.out.trans (hb5.mono HB4.out.size)
  rw [← HW5.out] at CSR
  clear hr4 hb4 h4 CFX ba hb5 HLT
  go_wp2_with (refine CSR.out.mono ?_)
  rintro e6 w6 ⟨rfl, hb6⟩
  rw [HW5.out] at hb6
  have HB6 : Hid (Below w0.heap.size w0 w6) := HB5.out.trans (hb6.mono HB5.out.size)
  have HBW6 : Hid (Below w.heap.size w w6) := HB0.out.trans (HB6.out.mono HB0.out.size)
  have CF6 := Lib.hid (CFA.out w6 HBW6.out)
  clear hb6 CSR HW5
  obtain ⟨x0, x1, x2, x3⟩ := bx_cells4 (bx_keep X0.out HB6.out)
  obtain ⟨y0, y1⟩ := bx_cells2 (bx_keep X1.out HB6.out)
  go_wp2_with (refine CF6.out.mono ?_)
  rintro e7 w7 ⟨rfl, hb7⟩
  have HB7 : Hid (Below w0.heap.size w0 w7) := HB6.out.trans (hb7.mono HB6.out.size)
  have HBW7 : Hid (Below w.heap.size w w7) := HB0.out.trans (HB7.out.mono HB0.out.size)
  clear hb7 x0 x1 x2 x3 y0 y1 CF6
  by_cases hC : C = 0
  · have hC1 : (C == 0) = true := by simpa using hC
    have HZS : Hid (Z = S) := by show _ = _; rw [HWANT.out, if_neg (by simpa using hC)]
    have CS7 := Lib.hid (CSF.out w7 HBW7.out)
    obtain ⟨x0, x1, x2, x3⟩ := bx_cells4 (bx_keep X0.out HB7.out)
    obtain ⟨z0, z1, z2⟩ := bx_cells3 (bx_keep X2.out HB7.out)
    clear hC HWANT
    go_wp2_with (refine CS7.out.mono ?_)
    rintro e8 w8 ⟨rfl, hb8⟩
    have HB8 : Hid (Below w0.heap.size w0 w8) := HB7.out.trans (hb8.mono HB7.out.size)
    have HBW8 : Hid (Below w.heap.size w w8) := HB0.out.trans (HB8.out.mono HB0.out.size)
    clear hb8 x0 x1 x2 x3 z0 z1 z2 CS7
    by_cases hS : S = 0
    · have hS1 : (S == 0) = true := by simpa using hS
      have HZ0 : Hid (Z = 0) := HZS.out.trans hS
      have CA8 := Lib.hid (CAT.out w8 HBW8.out HZ0.out)
      obtain ⟨x0, x1, x2, x3⟩ := bx_cells4 (bx_keep X0.out HB8.out)
      obtain ⟨y0, y1⟩ := bx_cells2 (bx_keep X1.out HB8.out)
      obtain ⟨z0, z1, z2⟩ := bx_cells3 (bx_keep X2.out HB8.out)
      clear hS
      go_wp2_with (refine CA8.out.mono ?_)
      rintro e9 w9 ⟨wb, rfl, hW9, hb9⟩
      have CR9 := Lib.hid (CRW.out w9 wb HZ0.out hW9)
      have HB9 : Hid (Below w0.heap.size w0 w9) := HB8.out.trans (hb9.mono HB8.out.size)
      clear hb9 x0 x1 x2 x3 y0 y1 z0 z1 z2 CA8 hW9
      go_wp2_with (refine CR9.out.mono ?_)
      rintro eA wA hA
      obtain ⟨vA, okA, rfl, hbA, hokA, hrA⟩ := CRWP.out w9 eA wA hA
      have HBA : Hid (Below w0.heap.size w0 wA) := HB9.out.trans (hbA.mono HB9.out.size)
      have HBWA : Hid (Below w.heap.size w wA) := HB0.out.trans (HBA.out.mono HB0.out.size)
      have CDA := Lib.hid (CAD.out wA HBWA.out)
      obtain ⟨x0, x1, x2, x3⟩ := bx_cells4 (bx_keep X0.out HBA.out)
      obtain ⟨y0, y1⟩ := bx_cells2 (bx_keep X1.out HBA.out)
      obtain ⟨z0, z1, z2⟩ := bx_cells3 (bx_keep X2.out HBA.out)
      have HOKA := Lib.hid hokA
      clear hA hbA CR9
      cases okA with
      | true =>
        have HRA := Lib.hid (hrA rfl)
        obtain ⟨ra', rn', rc', rfl⟩ : ∃ x y z, vA = .slice x y z := (by obtain ⟨x, y, e, -, -⟩ := (hrA rfl).form; exact ⟨_, _, _, e⟩)
        clear hrA hokA
        go_wp2_with (refine CDA.out.mono ?_)
        rintro eD wD hD
        obtain ⟨vD, er, rfl, hbD, -, hD2⟩ := CADP.out wA HBWA.out eD wD hD
        obtain ⟨rfl, hrD⟩ := (hD2 HZ0.out).1 (HOKA.out.1 (by trivial))
        have HBD : Hid (Below w.heap.size w wD) := HBWA.out.trans (hbD.mono HBWA.out.size)
        have CSR := Lib.hid (sameRowsE RR vD (.slice ra' rn' rc') wD hrD (HRA.out.below hbD))
        obtain ⟨da, dn, dc, rfl⟩ : ∃ x y z, vD = .slice x y z := (by obtain ⟨x, y, e, -, -⟩ := hrD.form; exact ⟨_, _, _, e⟩)
        have HS0 : Hid (S = 0) := HZS.out.symm.trans HZ0.out
        obtain rfl := HS0.out
        clear hD hbD hD2 hrD x0 x1 x2 x3 y0 y1 z0 z1 z2 CDA
        go_wp2_with (refine CSR.out.mono ?_)
        rintro eF wF ⟨rfl, hbF⟩
        have HBF : Hid (Below w.heap.size w wF) := HBD.out.trans (hbF.mono HBD.out.size)
        clear hbF CSR
        go_wp2_with fail
        go_ret
        exact ⟨rfl, HBF.out⟩
      | false =>
        clear hrA hokA
        go_wp2_with (refine CDA.out.mono ?_)
        rintro eD wD hD
        obtain ⟨vD, er, rfl, hbD, -, hD2⟩ := CADP.out wA HBWA.out eD wD hD
        obtain ⟨rfl, rfl⟩ := (hD2 HZ0.out).2 (fun h => by have := HOKA.out.2 h; cases this)
        have HBD : Hid (Below w.heap.size w wD) := HBWA.out.trans (hbD.mono HBWA.out.size)
        have CSR := Lib.hid (sameRowsE [] (.slice none 0 0) (.slice none 0 0) wD (nil_rows _) (nil_rows _))
        clear hD hbD hD2 x0 x1 x2 x3 y0 y1 z0 z1 z2 CDA
        go_wp2_with (refine CSR.out.mono ?_)
        rintro eF wF ⟨rfl, hbF⟩
        have HBF : Hid (Below w.heap.size w wF) := HBD.out.trans (hbF.mono HBD.out.size)
        clear hbF CSR
        go_wp2_with fail
        go_ret
        exact ⟨rfl, HBF.out⟩
    · have hS1 : (S == 0) = false := by simpa using hS
      have HZN : Hid (Z ≠ 0) := fun e => hS (HZS.out.symm.trans e)
      have CDA := Lib.hid (CAD.out w8 HBW8.out)
      obtain ⟨x0, x1, x2, x3⟩ := bx_cells4 (bx_keep X0.out HB8.out)
      obtain ⟨y0, y1⟩ := bx_cells2 (bx_keep X1.out HB8.out)
      obtain ⟨z0, z1, z2⟩ := bx_cells3 (bx_keep X2.out HB8.out)
      clear hS
      go_wp2_with (refine CDA.out.mono ?_)
      rintro eD wD hD
      obtain ⟨vD, er, rfl, hbD, hD1, -⟩ := CADP.out w8 HBW8.out eD wD hD
      obtain ⟨rfl, rfl⟩ := hD1 HZN.out
      have HBD : Hid (Below w.heap.size w wD) := HBW8.out.trans (hbD.mono HBW8.out.size)
      have CSR := Lib.hid (sameRowsE [] (.slice none 0 0) (.slice none 0 0) wD (nil_rows _) (nil_rows _))
      have hzs : (er == S) = true := by rw [HZS.out]; simp
      clear hD hbD x0 x1 x2 x3 y0 y1 z0 z1 z2 CDA
      go_wp2_with (refine CSR.out.mono ?_)
      rintro eF wF ⟨rfl, hbF⟩
      have HBF : Hid (Below w.heap.size w wF) := HBD.out.trans (hbF.mono HBD.out.size)
      clear hbF CSR
      go_wp2_with fail
      go_ret
      exact ⟨rfl, HBF.out⟩
  · have hC1 : (C == 0) = false := by simpa using hC
    have HZC : Hid (Z = C) := by show _ = _; rw [HWANT.out, if_pos (by simpa using hC)]
    have HZN : Hid (Z ≠ 0) := fun e => hC (HZC.out.symm.trans e)
    have CDA := Lib.hid (CAD.out w7 HBW7.out)
    obtain ⟨x0, x1, x2, x3⟩ := bx_cells4 (bx_keep X0.out HB7.out)
    obtain ⟨y0, y1⟩ := bx_cells2 (bx_keep X1.out HB7.out)
    obtain ⟨z0, z1, z2⟩ := bx_cells3 (bx_keep X2.out HB7.out)
    clear hC HWANT
    go_wp2_with (refine CDA.out.mono ?_)
    rintro eD wD hD
    obtain ⟨vD, er, rfl, hbD, hD1, -⟩ := CADP.out w7 HBW7.out eD wD hD
    obtain ⟨rfl, rfl⟩ := hD1 HZN.out
    have HBD : Hid (Below w.heap.size w wD) := HBW7.out.trans (hbD.mono HBW7.out.size)
    have CSR := Lib.hid (sameRowsE [] (.slice none 0 0) (.slice none 0 0) wD (nil_rows _) (nil_rows _))
    have hzs : (er == C) = true := by rw [HZC.out]; simp
    clear hD hbD x0 x1 x2 x3 y0 y1 z0 z1 z2 CDA
    go_wp2_with (refine CSR.out.mono ?_)
    rintro eF wF ⟨rfl, hbF⟩
    have HBF : Hid (Below w.heap.size w wF) := HBD.out.trans (hbF.mono HBD.out.size)
    clear hbF CSR
    go_wp2_with fail
    go_ret
    exact ⟨rfl, HBF.out⟩
end Dm
end Go.Proofs.YtfocooehnmpndaaGreat
namespace Go.Proofs.YtfocooehnmpndaaGreat
open Go.RowKit Go.ChangeShapes Go.WideShapes Go.Deep Go.Joins
namespace At
def okAttr (a : Attr) : Prop := i64 a.non
def szEq (q : Eqn) : Nat := q.is'.size
def szSys (s : Sys) : Nat := slSz szEq s.eqs
def okSys (s : Sys) : Prop := ∀ q ∈ s.eqs, okEqK q
def Sys.d (s : Sys) : D := .agg [.sl (s.attrs.map Attr.d), .sl (s.eqs.map Eqn.d)]
theorem szSys_all {s : Sys} {b : Nat} (h : szSys s ≤ b) : ∀ q ∈ s.eqs, q.is'.size ≤ b := by
  unfold szSys slSz at h
  intro q hq
  have h1 : ∀ (l : List Eqn), q ∈ l → q.is'.size ≤ (l.map szEq).sum := by
    intro l
    induction l with
    | nil => intro h; cases h
    | cons y l ih =>
      intro h
      rw [List.map_cons, List.sum_cons]
      rcases List.mem_cons.1 h with rfl | h
      · unfold szEq; omega
      · have := ih h; omega
  have := h1 _ hq
  omega
set_option maxRecDepth 100000 in
theorem opens_refF (N : Nat) : OpensF Tryz.prog 83 Ref.d one okRefI any (N + 1) :=
  opens_struct2 (c0 := 1) (c1 := 1) (fun a b => Ref.mk a b) Tryz.underlying83 ⟨rfl, rfl, by kernel_rfl, by kernel_rfl, by kernel_rfl⟩ (opens_int Tryz.underlying3 N) (opens_int Tryz.underlying3 N)
    (fun _ _ => rfl) (fun _ _ => by simp [one]) (fun _ _ h k => ⟨h, k⟩) (fun _ _ _ _ => trivial)
theorem opens_ref : Opens Tryz.prog 83 Ref.d one okRefI any := by
  intro N H enc w n cs x hn h
  exact opens_refF N H enc w n cs x (by omega) h
set_option maxRecDepth 100000 in
theorem opens_attrF (N : Nat) : OpensF Tryz.prog 88 Attr.d one okAttr any (N + 1) :=
  opens_struct2 (c0 := 1) (c1 := 1) (fun a b => Attr.mk a b) Tryz.underlying88 ⟨rfl, rfl, by kernel_rfl, by kernel_rfl, by kernel_rfl⟩ (opens_int Tryz.underlying3 N) (opens_bool Tryz.underlying4 N)
    (fun _ _ => rfl) (fun _ _ => by simp [one]) (fun _ _ h _ => h) (fun _ _ _ _ => trivial)
theorem opens_attr : Opens Tryz.prog 88 Attr.d one okAttr any := by
  intro N H enc w n cs x hn h
  exact opens_attrF N H enc w n cs x (by omega) h
theorem slSz_exprs (l : List Expr) : slSz Expr.size l = sizeL l + 1 := by
  induction l with
  | nil => simp [slSz, sizeL]
  | cons k ks ih => simp [slSz, sizeL] at ih ⊢; omega
set_option maxRecDepth 100000 in
theorem opens_exprF : ∀ N, OpensF Tryz.prog 86 Expr.d Expr.size any any N := by
  intro N
  induction N with
  | zero =>
    intro H enc w n cs x hn h
    obtain rfl : n = 0 := by omega
    simp [DataW.trod] at h
  | succ N ih =>
    exact opens_struct4 (c0 := 1) (c1 := 1) (c2 := 2) (c3 := 1) (fun a b c d => Expr.node a b c d) Tryz.underlying86 ⟨rfl, rfl, rfl, rfl, by kernel_rfl, by kernel_rfl, by kernel_rfl, by kernel_rfl, by kernel_rfl⟩ (opens_int Tryz.underlying3 N) (opens_int Tryz.underlying3 N) (opens_ref N)
      (opens_slice Tryz.underlying84 (b := 56) (by kernel_rfl) ih) (fun a b c d => by rw [Expr.d_eq]; rfl) (fun a b c d => by rw [Expr.size_eq, slSz_exprs]; simp [one, Expr.args]; omega) (fun _ _ _ _ _ _ _ _ => trivial) (fun _ _ _ _ _ _ _ _ => trivial)
theorem opens_expr : Opens Tryz.prog 86 Expr.d Expr.size any any := opens_exprF
set_option maxRecDepth 100000 in
theorem opens_eqF (N : Nat) : OpensF Tryz.prog 90 Eqn.d szEq okEqK any (N + 1) :=
  opens_struct3 (c0 := 1) (c1 := 2) (c2 := 5) (fun a b c => Eqn.mk a b c) Tryz.underlying90 ⟨rfl, rfl, rfl, by kernel_rfl, by kernel_rfl, by kernel_rfl, by kernel_rfl⟩ (opens_int Tryz.underlying3 N) (opens_ref N) (opens_expr N)
    (fun _ _ _ => rfl) (fun _ _ _ => by simp [szEq]; omega) (fun _ _ _ h k _ => ⟨h, k⟩) (fun _ _ _ _ _ _ => trivial)
theorem opens_eq : Opens Tryz.prog 90 Eqn.d szEq okEqK any := by
  intro N H enc w n cs x hn h
  exact opens_eqF N H enc w n cs x (by omega) h
set_option maxRecDepth 100000 in
theorem open_sysV {W : World} {base : Nat} {v : Value} {s : Sys} (hv : Value.okWide Tryz.prog W .any base 28 v) (h : Rd AnyB W s.d v.cells.toList) : ∃ u u', v = .agg #[u, u'] ∧ Rd AnyB W (.sl (s.attrs.map Attr.d)) [u] ∧ Rd AnyB W (.sl (s.eqs.map Eqn.d)) [u'] := by
  obtain ⟨cs, rfl, hsz⟩ := okWide_struct Tryz.underlying28 hv
  obtain ⟨c1, c2, e1, h1, h2⟩ := h
  rw [RdAll.one_iff] at h2
  have h3 := h1
  have h4 := h2
  obtain ⟨a, cap, L, e, _⟩ := h1
  obtain ⟨a', cap', L', e', _⟩ := h2
  subst e e'
  refine ⟨_, _, ?_, h3, h4⟩
  congr 1
  exact Array.toList_inj.1 e1
end At
end Go.Proofs.YtfocooehnmpndaaGreat
namespace Go.Proofs.YtfocooehnmpndaaGreat
open Go.RowKit Go.ChangeShapes Go.WideShapes Go.Deep Go.Joins
namespace At
theorem slSz_ones {α : Type} (l : List α) : slSz one l = l.length + 1 := by
  induction l with
  | nil => simp [slSz]
  | cons x l ih => simp [slSz, one] at ih ⊢; omega
def szSysT (s : Sys) : Nat := s.attrs.length + slSz szEq s.eqs
set_option maxRecDepth 100000 in
theorem opens_sysTF (N : Nat) : OpensF Tryz.prog 28 Sys.d szSysT okSys any (N + 1) :=
  opens_struct2 (c0 := 1) (c1 := 1) (fun a b => Sys.mk a b) Tryz.underlying28 ⟨rfl, rfl, by kernel_rfl, by kernel_rfl, by kernel_rfl⟩ (opens_slice Tryz.underlying25 (b := 16) (by kernel_rfl) (opens_attr N)) (opens_slice Tryz.underlying26 (b := 80) (by kernel_rfl) (opens_eq N))
    (fun _ _ => rfl) (fun a b => by have h := slSz_ones a; simp only [szSysT]; omega) (fun _ _ _ k => k) (fun _ _ _ _ => trivial)
theorem opens_sysT : Opens Tryz.prog 28 Sys.d szSysT okSys any := by
  intro N H enc w n cs x hn h
  exact opens_sysTF N H enc w n cs x (by omega) h
theorem szSysT_all {s : Sys} {b : Nat} (h : szSysT s ≤ b) : (∀ q ∈ s.eqs, q.is'.size ≤ b) ∧ s.attrs.length ≤ b := by
  unfold szSysT at h
  exact ⟨szSys_all (by unfold szSys; omega), by omega⟩
end At
end Go.Proofs.YtfocooehnmpndaaGreat
namespace Go.Proofs.YtfocooehnmpndaaGreat
open Go.RowKit Go.ChangeShapes Go.WideShapes Go.Deep Go.Joins
def okSym (s : Sym) : Prop := i64 s.n
def okRule (r : Rule) : Prop := i64 r.left ∧ ∀ s ∈ r.right, okSym s
def okGram (g : Gram) : Prop := i64 g.terms ∧ i64 g.nons ∧ i64 g.start ∧ ∀ r ∈ g.rules, okRule r
def szSym (_ : Sym) : Nat := 1
def szRule (r : Rule) : Nat := slSz szSym r.right
def szGram (g : Gram) : Nat := slSz szRule g.rules
set_option maxRecDepth 100000 in
theorem opens_symF (N : Nat) : OpensF Tryz.prog 78 Sym.d szSym okSym any (N + 1) :=
  opens_struct2 (c0 := 1) (c1 := 1) (fun a b => Sym.mk a b) Tryz.underlying78 ⟨rfl, rfl, by kernel_rfl, by kernel_rfl, by kernel_rfl⟩ (opens_bool Tryz.underlying4 N) (opens_int Tryz.underlying3 N)
    (fun _ _ => rfl) (fun _ _ => by simp [szSym]) (fun _ _ _ h => h) (fun _ _ _ _ => trivial)
set_option maxRecDepth 100000 in
theorem opens_ruleF (N : Nat) : OpensF Tryz.prog 81 Rule.d szRule okRule any (N + 1 + 1) :=
  opens_struct2 (c0 := 1) (c1 := 1) (fun a b => Rule.mk a b) Tryz.underlying81 ⟨rfl, rfl, by kernel_rfl, by kernel_rfl, by kernel_rfl⟩ (opens_int Tryz.underlying3 (N + 1)) (opens_slice Tryz.underlying79 (b := 16) (by kernel_rfl) (opens_symF N))
    (fun _ _ => rfl) (fun _ _ => by simp [szRule]; omega) (fun _ _ h k => ⟨h, k⟩) (fun _ _ _ _ => trivial)
set_option maxRecDepth 100000 in
theorem opens_gramF (N : Nat) : OpensF Tryz.prog 24 Gram.d szGram okGram any (N + 1 + 1 + 1) :=
  opens_struct4 (c0 := 1) (c1 := 1) (c2 := 1) (c3 := 1) (fun a b c d => Gram.mk a b c d) Tryz.underlying24 ⟨rfl, rfl, rfl, rfl, by kernel_rfl, by kernel_rfl, by kernel_rfl, by kernel_rfl, by kernel_rfl⟩ (opens_int Tryz.underlying3 (N + 1 + 1)) (opens_int Tryz.underlying3 (N + 1 + 1)) (opens_int Tryz.underlying3 (N + 1 + 1)) (opens_slice Tryz.underlying22 (b := 32) (by kernel_rfl) (opens_ruleF N))
    (fun _ _ _ _ => rfl) (fun _ _ _ _ => by simp [szGram]; omega) (fun _ _ _ _ h1 h2 h3 h4 => ⟨h1, h2, h3, h4⟩) (fun _ _ _ _ _ _ _ _ => trivial)
theorem opens_gram : Opens Tryz.prog 24 Gram.d szGram okGram any := by
  intro N H enc w n cs x hn h
  exact opens_gramF N H enc w n cs x (by omega) h
set_option maxRecDepth 100000 in
theorem open_gramV {W : World} {base : Nat} {v : Value} {g : Gram} (hv : Value.okWide Tryz.prog W .any base 24 v) (h : Rd AnyB W g.d v.cells.toList) : ∃ u, v = .agg #[.int .i64 g.terms, .int .i64 g.nons, .int .i64 g.start, u] ∧ Rd AnyB W (.sl (g.rules.map Rule.d)) [u] := by
  obtain ⟨cs, rfl, hsz⟩ := okWide_struct Tryz.underlying24 hv
  obtain ⟨c1, r1, e1, h1, h2⟩ := h
  obtain ⟨c2, r2, rfl, h2, h3⟩ := h2
  obtain ⟨c3, r3, rfl, h3, h4⟩ := h3
  rw [RdAll.one_iff] at h4
  simp [Rd] at h1 h2 h3
  subst h1 h2 h3
  have h5 := h4
  obtain ⟨a, cap, L, e, _⟩ := h4
  subst e
  refine ⟨_, ?_, h5⟩
  congr 1
  exact Array.toList_inj.1 e1
end Go.Proofs.YtfocooehnmpndaaGreat
namespace Go.Proofs.YtfocooehnmpndaaGreat
open Go.RowKit Go.ChangeShapes Go.WideShapes Go.Deep Go.Joins
theorem slSz_size (ks : List Tree) : slSz Tree.size ks = sizeL ks + 1 := by
  induction ks with
  | nil => simp [slSz, sizeL]
  | cons k ks ih => simp [slSz, sizeL] at ih ⊢; omega
set_option maxRecDepth 100000 in
theorem opens_treeF : ∀ N, OpensF Tryz.prog 31 Tree.d Tree.size any any N := by
  intro N
  induction N with
  | zero =>
    intro H enc w n cs x hn h
    obtain rfl : n = 0 := by omega
    simp [DataW.trod] at h
  | succ N ih =>
    exact opens_struct3 (c0 := 1) (c1 := 1) (c2 := 1) (fun r t ks => Tree.node r t ks) Tryz.underlying31 ⟨rfl, rfl, rfl, by kernel_rfl, by kernel_rfl, by kernel_rfl, by kernel_rfl⟩ (opens_int Tryz.underlying3 N) (opens_int Tryz.underlying3 N)
      (opens_slice Tryz.underlying29 (b := 40) (by kernel_rfl) ih) (fun a b c => by rw [Tree.d_eq]; rfl) (fun a b c => by rw [Tree.size, slSz_size]; simp [one]; omega) (fun _ _ _ _ _ _ => trivial) (fun _ _ _ _ _ _ => trivial)
theorem opens_tree : Opens Tryz.prog 31 Tree.d Tree.size any any := opens_treeF
set_option maxRecDepth 100000 in
theorem open_treeV {W : World} {base : Nat} {v : Value} {t : Tree} (hv : Value.okWide Tryz.prog W .any base 31 v) (h : Rd AnyB W t.d v.cells.toList) : ∃ u, v = .agg #[.int .i64 t.rule, .int .i64 t.term, u] ∧ Rd AnyB W (.sl (t.kids.map Tree.d)) [u] := by
  obtain ⟨cs, rfl, hsz⟩ := okWide_struct Tryz.underlying31 hv
  obtain ⟨u, e, hu⟩ := h.tree
  refine ⟨u, ?_, hu⟩
  have e' : cs.toList = [.int .i64 t.rule, .int .i64 t.term, u] := e
  congr 1
  exact Array.toList_inj.1 e'
end Go.Proofs.YtfocooehnmpndaaGreat
namespace Go.Proofs.YtfocooehnmpndaaGreat.RowDemandAll
open Go.ChangeShapes Go.WideShapes Go.ChangeAt Go.RowKit
theorem own : ownKnob Tryz.prog.godebug = none := by kernel_rfl
theorem laidOut : laidOutB Tryz.prog = true := by kernel_rfl
set_option maxRecDepth 100000 in
theorem contract (H : Type) (enc : TypeId × Value → H) (W : World) (base : Nat) (args : Array Value) (ds gs : List (DataW H)) (before : List MemPlace)
    (hval0 : ∀ (j : Nat) t v, Tryz.f3.params[j]? = some t → args[j]? = some v → Value.okWide Tryz.prog W .any base t v)
    (hW : DataW.Whole enc Tryz.prog Tryz.f3.params.toList Rows.demandAllSpec.vars false W args.toList ds gs before)
    (hk : Rows.uptoSmall H (ds ++ gs) = true) :
    Calls Tryz.prog 3 args W fun e W' => ∃ v, e = .returned v ∧ Rows.demandAllSpec.post enc Tryz.prog Tryz.f3 false true false false W args v W' := by
  have hval : ∀ (j : Nat) t v, Tryz.f3.params[j]? = some t → args[j]? = some v → Value.okWide Tryz.prog W .any base t v := hval0
  have hW' := hW
  obtain ⟨p, q, hA0, hV, rfl, hfz, hnd⟩ := hW
  have hA : DataW.TrodAll enc Tryz.prog W 0 (fun _ => true) true Tryz.f3.params.toList args.toList ds p := hA0
  rw [Tryz.params3] at hA hval
  obtain ⟨v0, vs0, d0, ds0, p0, q0, hargs, rfl, rfl, h0, r0'⟩ := trodAll_cons hA
  obtain ⟨v1, vs1, d1, ds1, p1, q1, rfl, rfl, rfl, h1, r1'⟩ := trodAll_cons r0'
  obtain ⟨v2, vs2, d2, ds2, p2, q2, rfl, rfl, rfl, h2, r2'⟩ := trodAll_cons r1'
  obtain ⟨rfl, rfl, rfl⟩ := trodAll_nil r2'
  obtain rfl : args = #[v0, v1, v2] := by cases args; simp_all
  obtain ⟨rfl, rfl⟩ := trodVars_none hV
  have lt0 : ∀ x ∈ p0, x.block < W.heap.size := by obtain ⟨m, hm⟩ := h0; exact DataW.trod_lt m _ _ _ hm
  have tr0 := h0
  have lt1 : ∀ x ∈ p1, x.block < W.heap.size := by obtain ⟨m, hm⟩ := h1; exact DataW.trod_lt m _ _ _ hm
  have tr1 := h1
  have lt2 : ∀ x ∈ p2, x.block < W.heap.size := by obtain ⟨m, hm⟩ := h2; exact DataW.trod_lt m _ _ _ hm
  have tr2 := h2
  have hbulk : Rows.uptoBulk d0 + (Rows.uptoBulk d1 + (Rows.uptoBulk d2 + 0)) ≤ 1048576 := by
    have h := of_decide_eq_true hk
    simpa only [Rows.uptoBulkAll, List.append_nil] using h
  obtain ⟨a0, rd0, sz0, k0, li0⟩ := open_arg opens_gram h0
  obtain ⟨u0, rfl, r0⟩ := open_gramV (hval 0 24 v0 rfl rfl) rd0
  obtain ⟨a1, rd1, sz1, k1, li1⟩ := open_arg At.opens_sysT h1
  obtain ⟨u1, x1, rfl, y1, z1⟩ := At.open_sysV (hval 1 28 v1 rfl rfl) rd1
  obtain ⟨t2, rd2, sz2, _, _⟩ := open_arg opens_tree h2
  obtain ⟨u2, rfl, r2⟩ := open_treeV (hval 2 31 v2 rfl rfl) rd2
  have z2 : t2.size ≤ 1048576 := by omega
  clear hA0 hval0
  refine (Dm.lawDA a0 a1 t2 _ _ _ _ W k1 (At.szSysT_all (b := 1048576) (by omega)).1 (Nat.le_trans (At.szSysT_all (b := 1048576) (by omega)).2 (by omega)) (by have := nodes_size t2; omega) r0 y1 z1 r2).mono fun e W' ⟨he, bel⟩ => ?_
  subst he
  exact ⟨_, rfl, _, _, _, [], _, [], hW', trodAll_mk1 (shut_bool Tryz.underlying4 _), (trodAll_cons_mk (Below.trod laidOut (by kernel_rfl) (of_decide_eq_true (by kernel_rfl)) tr0 bel lt0) (trodAll_cons_mk (Below.trod laidOut (by kernel_rfl) (of_decide_eq_true (by kernel_rfl)) tr1 bel lt1) (trodAll_cons_mk (Below.trod laidOut (by kernel_rfl) (of_decide_eq_true (by kernel_rfl)) tr2 bel lt2) trodAll_mk0))), rfl, bel.frame _, fun h => by cases h⟩
set_option maxRecDepth 100000 in
theorem lifted (os : Os) (started : os.Started) (H : Type) (enc : TypeId × Value → H) (F : Stop.Interp) :
    ReturnsInHanded {} Tryz.checked os 3 .any ((Rows.OpenSpec.upto Rows.demandAllSpec).pre6 enc Tryz.prog Tryz.f3 Rows.demandAllUptoRow.domain false) (((Rows.OpenSpec.upto Rows.demandAllSpec).at F).post enc Tryz.prog Tryz.f3 false true false false) := by
  refine returnsInHanded_of_cond (C := Tryz.checked) (s := Rows.OpenSpec.upto Rows.demandAllSpec) (k := Rows.uptoSmall) rfl own started (by kernel_rfl) Tryz.func3
    (OpenSpec.witness (enc := enc) (C := Tryz.checked) (s := Rows.OpenSpec.upto Rows.demandAllSpec) (k := Rows.uptoSmall) rfl false ⟨#[], #[.agg #[.int .i64 0, .int .i64 0, .int .i64 0, .slice none 0 0], .agg #[.slice none 0 0, .slice none 0 0], .agg #[.int .i64 0, .int .i64 0, .slice none 0 0]], []⟩ 8 (by kernel_rfl) (by kernel_rfl) (by kernel_rfl)
      (x := ([.agg [.lit (.int .i64 0), .lit (.int .i64 0), .lit (.int .i64 0), .nil], .agg [.nil, .nil], .agg [.lit (.int .i64 0), .lit (.int .i64 0), .nil]], [], [])) (by kernel_rfl) rfl (by kernel_rfl)) ?_
  intro W base args ds gs before hval hW _ hk _
  exact contract H enc W base args ds gs before hval hW hk
theorem over : Rows.demandAllUptoRow.holds Tryz.pinned (Rows.OpenSpec.upto Rows.demandAllSpec) :=
  OpenClaim.holds_of_cond 3 Tryz.f3 rfl rfl rfl rfl rfl rfl rfl ⟨rfl, rfl, rfl, rfl, rfl⟩ rfl rfl rfl rfl rfl (by kernel_rfl) Tryz.func3 (by kernel_rfl)
    (of_decide_eq_true (by kernel_rfl)) (by unfold Func.isWrapper; first | (rw [if_pos (by decide +kernel)]; kernel_rfl) | (rw [if_neg (by decide +kernel)]; exact ⟨rfl, rfl⟩))
    (fun os started H enc _ F => lifted os started H enc F)
end Go.Proofs.YtfocooehnmpndaaGreat.RowDemandAll
namespace Go.Proofs.YtfocooehnmpndaaGreat
theorem demandAllUpto_holds : Rows.DemandAllUptoSaid := RowDemandAll.over
#print axioms demandAllUpto_holds
end Go.Proofs.YtfocooehnmpndaaGreat
