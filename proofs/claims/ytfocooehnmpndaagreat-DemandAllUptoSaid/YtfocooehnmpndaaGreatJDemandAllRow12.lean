/- demand.All; parllaw4.startFault. parlref4.World while it is made: rows of one's own. parlref4.World in memory, for a list of nodes and a list of instances. The four appends of a visit, in any order: the rows between them. parlref4.World: an instance more; a kid's number more. A region that draws its order: what holds may hang on what is listed; loads are taken first; an invariant over what is listed. -/
import Derived.Test.YtfocooehnmpndaaGreatJDemandAllRow9
import Derived.Test.YtfocooehnmpndaaGreatJDemandAllRow11
import Derived.Test.YtfocooehnmpndaaGreatJDemandAllRow10
namespace Go.Proofs.YtfocooehnmpndaaGreat
open Go.RowKit
namespace Dm
open At (Ref okEqK checkS)
def DAllPost (g : Gram) (s : At.Sys) (T : Tree) (W : World) (e : Ending) (w' : World) : Prop := ∃ v er, e = .returned (.tuple #[v, .int .i64 er]) ∧ Below W.heap.size W w' ∧ (chkD g s T ≠ 0 → er = chkD g s T ∧ v = .slice none 0 0) ∧
  (chkD g s T = 0 → (hasN g s (tabT T) (tabT T).length → er = 0 ∧ Rd AnyB w' (.sl ((rowsI g s (tabT T) (tabT T).length).map D.ints)) [v]) ∧ (¬ hasN g s (tabT T) (tabT T).length → er = 9 ∧ v = .slice none 0 0))
theorem allI_leA (g : Gram) (s : At.Sys) (L : List Nd) : (allI g s L).length ≤ L.length * s.attrs.length := by
  unfold allI
  have h : ∀ n, ((List.range n).flatMap fun n => (attrsAt g s L n).map fun a => (n, a)).length ≤ n * s.attrs.length := fun n => by
    induction n with
    | zero => simp
    | succ n ih =>
      rw [List.range_succ, List.flatMap_append, List.length_append, Nat.succ_mul]
      have h2 : (attrsAt g s L n).length ≤ s.attrs.length := by
        unfold attrsAt attrsOf
        split
        · exact Nat.zero_le _
        · exact Nat.le_trans (List.length_filter_le _ _) (by rw [List.length_range]; exact Nat.le_refl _)
      rw [List.flatMap_cons, List.flatMap_nil, List.append_nil, List.length_map]
      omega
  exact h _
theorem chk_size {g : Gram} {s : At.Sys} {T : Tree} (h : chkD g s T = 0) : tsz T ≤ 1000000 := by
  obtain ⟨_, hv, _, hn⟩ := chk_ok h
  rw [tsz_nodes T hv]
  omega
theorem start_inv (s : At.Sys) (L : List Nd) (A : Inst → Prop) : GetI s L A (fun _ => False) ⟨fun _ => 0, fun _ => 0⟩ :=
  ⟨fun i => ⟨fun h => (by cases h), fun h => h.elim⟩, fun i h => (by cases h), fun i h => (by cases h), fun i => Nat.zero_le _, fun i h => absurd rfl h⟩
set_option maxHeartbeats 4000000 in
set_option maxRecDepth 100000 in
theorem allDE (g : Gram) (s : At.Sys) (T : Tree) (hok : ∀ q ∈ s.eqs, okEqK q) (hal : s.attrs.length ≤ 2000000) (hN : (nodes T).length ≤ 1099511627776) (ra aa qa ta : Option Addr) (rc ac qc tc : Nat) (W : World)
    (hr : Rd AnyB W (.sl (g.rules.map Rule.d)) [.slice ra g.rules.length rc]) (ha : Rd AnyB W (.sl (s.attrs.map At.Attr.d)) [.slice aa s.attrs.length ac]) (hq : Rd AnyB W (.sl (s.eqs.map At.Eqn.d)) [.slice qa s.eqs.length qc]) (ht : Rd AnyB W (.sl (T.kids.map Tree.d)) [.slice ta T.kids.length tc]) :
    Calls Tryz.prog 6 #[.agg #[.int .i64 g.terms, .int .i64 g.nons, .int .i64 g.start, .slice ra g.rules.length rc], .agg #[.slice aa s.attrs.length ac, .slice qa s.eqs.length qc], .agg #[.int .i64 T.rule, .int .i64 T.term, .slice ta T.kids.length tc]] W (DAllPost g s T W) := by
  obtain ⟨w0, HW0⟩ := nameIt (((W.alloc (.cells #[.int .i64 g.terms, .int .i64 g.nons, .int .i64 g.start, .slice ra g.rules.length rc] 24)).alloc (.cells #[.slice aa s.attrs.length ac, .slice qa s.eqs.length qc] 28)).alloc (.cells #[.int .i64 T.rule, .int .i64 T.term, .slice ta T.kids.length tc] 31))
  have b1 : Below W.heap.size W (W.alloc (.cells #[.int .i64 g.terms, .int .i64 g.nons, .int .i64 g.start, .slice ra g.rules.length rc] 24)) := (Below.refl _ _).alloc (Nat.le_refl _) _
  have b2 := b1.alloc (by simp) (.cells #[.slice aa s.attrs.length ac, .slice qa s.eqs.length qc] 28)
  have hb0 : Below W.heap.size W w0 := by rw [← HW0.out]; exact b2.alloc (by simp; omega) _
  have X0 : Hid (w0.heap[W.heap.size]? = some (.cells #[.int .i64 g.terms, .int .i64 g.nons, .int .i64 g.start, .slice ra g.rules.length rc] 24 (0, 0))) := by
    rw [← HW0.out]; exact bx_keep (bx_keep (bx_new _ _ _ rfl) ((Below.refl _ _).alloc (Nat.le_refl _) _)) ((Below.refl _ _).alloc (Nat.le_refl _) _)
  have X1 : Hid (w0.heap[W.heap.size + 1]? = some (.cells #[.slice aa s.attrs.length ac, .slice qa s.eqs.length qc] 28 (0, 0))) := by
    rw [← HW0.out]; exact bx_keep (bx_new _ _ _ (by simp)) ((Below.refl _ _).alloc (Nat.le_refl _) _)
  have X2 : Hid (w0.heap[W.heap.size + 1 + 1]? = some (.cells #[.int .i64 T.rule, .int .i64 T.term, .slice ta T.kids.length tc] 31 (0, 0))) := by
    rw [← HW0.out]; exact bx_new _ _ _ (by simp)
  have HB0 := Lib.hid hb0
  have CC := Lib.hid (fun (w' : World) (hb : Below W.heap.size W w') => checkDE g s T hok hN ra aa qa ta rc ac qc tc w' (hr.below hb) (ha.below hb) (hq.below hb) (ht.below hb))
  have CN : Hid (∀ (w' : World), Below W.heap.size W w' → chkD g s T = 0 → Calls Tryz.prog 26 #[.agg #[.int .i64 g.terms, .int .i64 g.nons, .int .i64 g.start, .slice ra g.rules.length rc], .agg #[.slice aa s.attrs.length ac, .slice qa s.eqs.length qc], .agg #[.int .i64 T.rule, .int .i64 T.term, .slice ta T.kids.length tc]] w' (NewPost g s T w')) := fun w' hb h => newTableE g s T (chk_ok h).1 hal (chk_size h) ra aa qa rc ac qc _ w' (hr.below hb) (ha.below hb) (hq.below hb) (ht.below hb)
  have CT2 : Hid (∀ (w' : World) (tb eb vb sb : Nat), chkD g s T = 0 → TbS g s (tabT T) tb eb vb sb w' → NumM vb (fun _ => 0) 0 w' → NumM sb (fun _ => 0) 0 w' → Calls Tryz.prog 27 #[.pointer (some ⟨tb, 0, none⟩)] w' (AllPost g s (tabT T) vb sb w')) := fun w' tb eb vb sb h h1 h2 h3 => by
    have hl : (allI g s (tabT T)).length ≤ 5000 * 2000000 := by
      refine Nat.le_trans (allI_leA g s (tabT T)) (Nat.mul_le_mul ?_ hal)
      rw [tab_len, tsz_nodes T (chk_ok h).2.1]
      exact (chk_ok h).2.2.2
    have hc : cnt0 (allI g s (tabT T)) ⟨fun _ => 0, fun _ => 0⟩ ≤ 5000 * 2000000 := Nat.le_trans List.countP_le_length hl
    exact allE g s T (chk_ok h).1 (chk_ok h).2.1 (chk_ok h).2.2.1 hal (chk_size h) tb eb vb sb 1000000000000 ⟨fun _ => 0, fun _ => 0⟩ w' (Nat.le_refl _) (start_inv _ _ _) h1 ⟨⟨0, h3, by omega⟩, ⟨0, h2, by omega⟩⟩
  obtain ⟨PST, HP⟩ := nameIt (DAllPost g s T W)
  have HBAD : Hid (chkD g s T ≠ 0 → ∀ w', Below W.heap.size W w' → PST (.returned (.tuple #[.slice none 0 0, .int .i64 (chkD g s T)])) w') := fun h w' hb => by rw [← HP.out]; exact ⟨_, _, rfl, hb, fun _ => ⟨rfl, rfl⟩, fun h2 => absurd h2 h⟩
  have HYES : Hid (chkD g s T = 0 → ∀ v w', Below W.heap.size W w' → hasN g s (tabT T) (tabT T).length → Rd AnyB w' (.sl ((rowsI g s (tabT T) (tabT T).length).map D.ints)) [v] → PST (.returned (.tuple #[v, .int .i64 0])) w') := fun h v w' hb h1 h2 => by rw [← HP.out]; exact ⟨_, _, rfl, hb, fun h3 => absurd h h3, fun _ => ⟨fun _ => ⟨rfl, h2⟩, fun h3 => absurd h1 h3⟩⟩
  have HNO : Hid (chkD g s T = 0 → ∀ w', Below W.heap.size W w' → ¬ hasN g s (tabT T) (tabT T).length → PST (.returned (.tuple #[.slice none 0 0, .int .i64 9])) w') := fun h w' hb h1 => by rw [← HP.out]; exact ⟨_, _, rfl, hb, fun h3 => absurd h h3, fun _ => ⟨fun h3 => absurd h3 h1, fun _ => ⟨rfl, rfl⟩⟩⟩
  rw [HP.out]
  clear HP
  obtain ⟨Z, HZ⟩ := nameIt (chkD g s T)
  obtain ⟨rl, HRL⟩ := nameIt g.rules.length
  obtain ⟨al, HAL⟩ := nameIt s.attrs.length
  obtain ⟨ql, HQLn⟩ := nameIt s.eqs.length
  obtain ⟨gt, HGT⟩ := nameIt g.terms
  obtain ⟨gn, HGN⟩ := nameIt g.nons
  obtain ⟨gs, HGS⟩ := nameIt g.start
  obtain ⟨tr, HTR⟩ := nameIt T.rule
  obtain ⟨tm, HTM⟩ := nameIt T.term
  obtain ⟨nk, HNK⟩ := nameIt T.kids.length
  rw [HRL.out, HAL.out, HQLn.out, HGT.out, HGN.out, HGS.out, HTR.out, HTM.out, HNK.out]
  rw [HRL.out, HAL.out, HQLn.out, HGT.out, HGN.out, HGS.out, HTR.out, HTM.out, HNK.out] at HW0
  rw [HRL.out, HGT.out, HGN.out, HGS.out] at X0
  rw [HAL.out, HQLn.out] at X1
  rw [HTR.out, HTM.out, HNK.out] at X2
  simp only [HRL.out, HAL.out, HQLn.out, HGT.out, HGN.out, HGS.out, HTR.out, HTM.out, HNK.out, HZ.out] at CC CN
  simp only [HZ.out] at CT2 HBAD HYES HNO
  clear b1 b2 hb0 hr ha hq ht hok hN hal
  have C0 := Lib.hid (CC.out w0 HB0.out)
  obtain ⟨x0, x1, x2, x3⟩ := bx_cells4 X0.out
  obtain ⟨y0, y1⟩ := bx_cells2 X1.out
  obtain ⟨z0, z1, z2⟩ := bx_cells3 X2.out
  go_enter Tryz.func6, Tryz.ntmps6
  go_upto_region 1 with fail
  rw [HW0.out]
  clear HW0
  go_wp2_with (refine C0.out.mono ?_)
  rintro e1 w1 ⟨rfl, hb1⟩
  have HB1 : Hid (Below W.heap.size W w1) := HB0.out.trans (hb1.mono HB0.out.size)
  have HB01 : Hid (Below w0.heap.size w0 w1) := hb1
  clear hb1 x0 x1 x2 x3 y0 y1 z0 z1 z2 C0
  by_cases hE : Z = 0
  · have hE1 : (Z != 0) = false := by simpa using hE
    have HZ0 : Hid (Z = 0) := hE
    have C1 := Lib.hid (CN.out w1 HB1.out hE)
    obtain ⟨x0, x1, x2, x3⟩ := bx_cells4 (bx_keep X0.out HB01.out)
    obtain ⟨y0, y1⟩ := bx_cells2 (bx_keep X1.out HB01.out)
    obtain ⟨z0, z1, z2⟩ := bx_cells3 (bx_keep X2.out HB01.out)
    clear hE
    go_wp2_with (refine C1.out.mono ?_)
    rintro e2 w2 ⟨tb, eb, vb, sb, rfl, hT2, hv2, hs2, hb2, hvb, hsb⟩
    have C2 := Lib.hid (CT2.out w2 tb eb vb sb HZ0.out hT2 hv2 hs2)
    have HB2 : Hid (Below W.heap.size W w2) := HB1.out.trans (hb2.mono HB1.out.size)
    have HVS : Hid (W.heap.size ≤ vb ∧ W.heap.size ≤ sb) := ⟨Nat.le_trans HB1.out.size hvb, Nat.le_trans HB1.out.size hsb⟩
    clear hb2 x0 x1 x2 x3 y0 y1 z0 z1 z2 C1 hT2 hv2 hs2 hvb hsb
    go_wp2_with (refine C2.out.mono ?_)
    rintro e3 w3 ⟨hk3, v, ok, rfl, hyes, hno⟩
    have HB3 : Hid (Below W.heap.size W w3) := HB2.out.trans (Keeps.below hk3 (fun k hk => by have := HVS.out; rcases hk with h | h <;> omega) HB2.out.size)
    cases ok with
    | true =>
      obtain ⟨h1, h2⟩ := hyes rfl
      have HE := Lib.hid (HYES.out HZ0.out v w3 HB3.out h1 h2.any)
      obtain ⟨va, vl, vc, rfl⟩ : ∃ x y z, v = .slice x y z := (by obtain ⟨x, y, e, -, -⟩ := h2.form; exact ⟨_, _, _, e⟩)
      clear hyes hno hk3 h1 h2 C2
      go_wp2_with fail
      first | exact HE.out | (refine bodyPost_ret (results_tmp2 Tryz.results6 _ _ _) rfl ?_; exact HE.out)
    | false =>
      obtain ⟨rfl, i, hi, hn⟩ := hno rfl
      have HE := Lib.hid (HNO.out HZ0.out w3 HB3.out (fun h => by obtain ⟨x, hx⟩ := h i hi (mem_allI.1 hi).1; exact hn x hx))
      clear hyes hno hk3 hi hn C2
      go_wp2_with fail
      first | exact HE.out | (refine bodyPost_ret (results_tmp2 Tryz.results6 _ _ _) rfl ?_; exact HE.out)
  · have hE1 : (Z != 0) = true := by simpa using hE
    have HE := Lib.hid (HBAD.out hE w1 HB1.out)
    clear hE
    go_wp2_with fail
    first | exact HE.out | (refine bodyPost_ret (results_tmp2 Tryz.results6 _ _ _) rfl ?_; exact HE.out)
set_option maxHeartbeats 4000000 in
set_option maxRecDepth 100000 in
theorem startFaultE (g : Gram) (T : Tree) (hN : (nodes T).length ≤ 1099511627776) (ra ta : Option Addr) (rc tc : Nat) (W : World)
    (hr : Rd AnyB W (.sl (g.rules.map Rule.d)) [.slice ra g.rules.length rc]) (ht : Rd AnyB W (.sl (T.kids.map Tree.d)) [.slice ta T.kids.length tc]) :
    Calls Tryz.prog 12 #[.agg #[.int .i64 g.terms, .int .i64 g.nons, .int .i64 g.start, .slice ra g.rules.length rc], .agg #[.int .i64 T.rule, .int .i64 T.term, .slice ta T.kids.length tc]] W fun e w' => e = .returned (.int .i64 (stF g T)) ∧ Below W.heap.size W w' := by
  obtain ⟨w0, HW0⟩ := nameIt ((W.alloc (.cells #[.int .i64 g.terms, .int .i64 g.nons, .int .i64 g.start, .slice ra g.rules.length rc] 24)).alloc (.cells #[.int .i64 T.rule, .int .i64 T.term, .slice ta T.kids.length tc] 31))
  have hb0 : Below W.heap.size W w0 := by rw [← HW0.out]; exact ((Below.refl _ _).alloc (Nat.le_refl _) _).alloc (by simp) _
  have X0 : Hid (w0.heap[W.heap.size]? = some (.cells #[.int .i64 g.terms, .int .i64 g.nons, .int .i64 g.start, .slice ra g.rules.length rc] 24 (0, 0))) := by
    rw [← HW0.out]; exact bx_keep (bx_new _ _ _ rfl) ((Below.refl _ _).alloc (Nat.le_refl _) _)
  have X2 : Hid (w0.heap[W.heap.size + 1]? = some (.cells #[.int .i64 T.rule, .int .i64 T.term, .slice ta T.kids.length tc] 31 (0, 0))) := by
    rw [← HW0.out]; exact bx_new _ _ _ (by simp)
  have HB0 := Lib.hid hb0
  have CF := Lib.hid (fun (w' : World) (hb : Below W.heap.size W w') => TF.treeFaultE g ra rc T ta tc w' (hr.below hb) (ht.below hb) hN)
  have CL := Lib.hid (fun (w' : World) (hb : Below W.heap.size W w') => labelE g ra rc T ta tc w' (hr.below hb))
  have HCH : Hid (stF g T = if TF.refFault g T ≠ 0 then TF.refFault g T else if (labS g T).term = false ∧ (labS g T).n = g.start then 0 else 1) := rfl
  obtain ⟨F, HF⟩ := nameIt (TF.refFault g T)
  obtain ⟨yt, HYT⟩ := nameIt (labS g T).term
  obtain ⟨yn, HYN⟩ := nameIt (labS g T).n
  obtain ⟨lb, HLB⟩ := nameIt (label g T).isSome
  obtain ⟨Z, HZ⟩ := nameIt (stF g T)
  obtain ⟨rl, HRL⟩ := nameIt g.rules.length
  obtain ⟨gt, HGT⟩ := nameIt g.terms
  obtain ⟨gn, HGN⟩ := nameIt g.nons
  obtain ⟨gs, HGS⟩ := nameIt g.start
  obtain ⟨tr, HTR⟩ := nameIt T.rule
  obtain ⟨tm, HTM⟩ := nameIt T.term
  obtain ⟨nk, HNK⟩ := nameIt T.kids.length
  rw [HRL.out, HGT.out, HGN.out, HGS.out, HTR.out, HTM.out, HNK.out, HZ.out]
  rw [HRL.out, HGT.out, HGN.out, HGS.out, HTR.out, HTM.out, HNK.out] at HW0
  rw [HRL.out, HGT.out, HGN.out, HGS.out] at X0
  rw [HTR.out, HTM.out, HNK.out] at X2
  simp only [HRL.out, HGT.out, HGN.out, HGS.out, HTR.out, HTM.out, HNK.out, HF.out] at CF
  simp only [HRL.out, HGT.out, HGN.out, HGS.out, HTR.out, HTM.out, HNK.out, HYT.out, HYN.out, HLB.out] at CL
  rw [HF.out, HYT.out, HYN.out, HGS.out, HZ.out] at HCH
  clear hb0 hr ht hN
  have C0 := Lib.hid (CF.out w0 HB0.out)
  obtain ⟨x0, x1, x2, x3⟩ := bx_cells4 X0.out
  obtain ⟨z0, z1, z2⟩ := bx_cells3 X2.out
  go_enter Tryz.func12, Tryz.ntmps12
  go_upto_region 1 with fail
  rw [HW0.out]
  clear HW0
  go_wp2_with (refine C0.out.mono ?_)
  rintro e1 w1 ⟨rfl, hb1⟩
  have HB1 : Hid (Below W.heap.size W w1) := HB0.out.trans (hb1.mono HB0.out.size)
  have HB01 : Hid (Below w0.heap.size w0 w1) := hb1
  clear hb1 x0 x1 x2 x3 z0 z1 z2 C0
  by_cases hE : F = 0
  · have hE1 : (F != 0) = false := by simpa using hE
    have HC2 : Hid (Z = if yt = false ∧ yn = gs then 0 else 1) := by show _ = _; rw [HCH.out, if_neg (by simpa using hE)]
    have C1 := Lib.hid (CL.out w1 HB1.out)
    obtain ⟨x0, x1, x2, x3⟩ := bx_cells4 (bx_keep X0.out HB01.out)
    obtain ⟨z0, z1, z2⟩ := bx_cells3 (bx_keep X2.out HB01.out)
    clear hE HCH
    go_wp2_with (refine C1.out.mono ?_)
    rintro e2 w2 ⟨rfl, hb2⟩
    have HB2 : Hid (Below W.heap.size W w2) := HB1.out.trans (hb2.mono HB1.out.size)
    have HB02 : Hid (Below w0.heap.size w0 w2) := HB01.out.trans (hb2.mono HB01.out.size)
    clear hb2 x0 x1 x2 x3 z0 z1 z2 C1
    obtain ⟨w3, HW3⟩ := nameIt (w2.alloc (.cells #[.bool yt, .int .i64 yn] 78))
    have hb3 : Below w2.heap.size w2 w3 := by rw [← HW3.out]; exact (Below.refl _ _).alloc (Nat.le_refl _) _
    have X3 : Hid (w3.heap[w2.heap.size]? = some (.cells #[.bool yt, .int .i64 yn] 78 (0, 0))) := by rw [← HW3.out]; exact bx_new _ _ _ rfl
    have HB3 : Hid (Below W.heap.size W w3) := HB2.out.trans (hb3.mono HB2.out.size)
    have HB03 : Hid (Below w0.heap.size w0 w3) := HB02.out.trans (hb3.mono HB02.out.size)
    clear hb3
    go_upto_region 5 with fail
    rw [HW3.out]
    clear HW3
    obtain ⟨x0, x1, x2, x3⟩ := bx_cells4 (bx_keep X0.out HB03.out)
    obtain ⟨s0, s1⟩ := bx_cells2 X3.out
    cases yt with
    | true =>
      have HZ1 : Hid (Z = 1) := by show _ = _; rw [HC2.out, if_neg (fun h => by cases h.1)]
      obtain rfl := HZ1.out
      go_wp2_with fail
      go_ret
      exact ⟨rfl, HB3.out⟩
    | false =>
      by_cases hy : yn = gs
      · have hy1 : (yn != gs) = false := by simpa using hy
        have HZ1 : Hid (Z = 0) := by show _ = _; rw [HC2.out, if_pos ⟨rfl, hy⟩]
        obtain rfl := HZ1.out
        clear hy
        go_wp2_with fail
        go_ret
        exact ⟨rfl, HB3.out⟩
      · have hy1 : (yn != gs) = true := by simpa using hy
        have HZ1 : Hid (Z = 1) := by show _ = _; rw [HC2.out, if_neg (fun h => hy h.2)]
        obtain rfl := HZ1.out
        clear hy
        go_wp2_with fail
        go_ret
        exact ⟨rfl, HB3.out⟩
  · have hE1 : (F != 0) = true := by simpa using hE
    have HZ1 : Hid (Z = F) := by show _ = _; rw [HCH.out, if_pos (by simpa using hE)]
    clear hE HCH
    obtain rfl := HZ1.out
    go_wp2_with fail
    go_ret
    exact ⟨rfl, HB1.out⟩
end Dm
end Go.Proofs.YtfocooehnmpndaaGreat
namespace Go.Proofs.YtfocooehnmpndaaGreat
open Go.RowKit
namespace Dm
open At (Ref)
structure Hw where
  c0 : Value
  c1 : Value
  c2 : Value
  c3 : Value
  c4 : Value
  c5 : Value
def Hw.cells (h : Hw) (vn vu vp vk va : Value) : Array Value := #[h.c0, h.c1, h.c2, h.c3, h.c4, h.c5, vn, vu, vp, vk, va]
structure W4 (B : Nat) (cn : List Value) (nn : Nat) (ck : List Value) (nk : Nat) (al : List Inst) (vn vk va : Value) (M : Nat) (iv : Nat → Value) (il : Nat → List Int) (w : World) : Prop where
  nod : w.ownsRow B 31 3 vn nn cn
  out : w.ownsRow B 40 1 vk nk ck
  all : w.ownsRow B 59 2 va al.length (plC al)
  int : ∀ k, k < M → w.ownsRow B 3 1 (iv k) (il k).length (ints (il k))
  dis : ∀ k k', k < M → k' < M → k ≠ k' → ∀ g, (iv k).ownBlock = some g → (iv k').ownBlock ≠ some g
  le : B ≤ w.heap.size
def OwW (vn vk va : Value) (M : Nat) (iv : Nat → Value) (k : Nat) : Prop := vn.ownBlock = some k ∨ vk.ownBlock = some k ∨ va.ownBlock = some k ∨ ∃ i, i < M ∧ (iv i).ownBlock = some k
theorem stq_grown {O O' : Nat → Prop} {w w' : World} {row : Option Nat} (hg : w.grownBy w' row) (h1 : ∀ k, row = some k → O k) (h2 : ∀ k, O' k → O k ∨ w.heap.size ≤ k) : Stq O O' w w' :=
  ⟨hg.os, hg.tape, hg.output, hg.size, fun k hk hn => hg.block k hk (fun e => hn (h1 k e.symm)), h2⟩
theorem typ_ne {w : World} {B : Nat} {e e' : TypeId} {s s' : Nat} {v v' : Value} {n n' : Nat} {xs xs' : List Value} (h : w.ownsRow B e s v n xs) (h' : w.ownsRow B e' s' v' n' xs') (hne : e ≠ e') {g : Nat} (hg : v.ownBlock = some g) : v'.ownBlock ≠ some g := fun hg' => by
  obtain ⟨c1, h1⟩ := own_typedN h hg
  obtain ⟨c2, h2⟩ := own_typedN h' hg'
  rw [h1] at h2
  cases h2
  exact hne rfl
theorem own_beside {w w' : World} {B : Nat} {e : TypeId} {s : Nat} {v v0 : Value} {n : Nat} {xs : List Value} (h : w.ownsRow B e s v n xs) (hg : w.grownBy w' v0.ownBlock) (hne : ∀ g, v.ownBlock = some g → v0.ownBlock ≠ some g) : w'.ownsRow B e s v n xs :=
  own_blk h fun g hgk => hg.block g (h.lt g hgk).2 (fun e => hne g hgk e.symm)
section
variable {B : Nat} {cn : List Value} {nn : Nat} {ck : List Value} {nk : Nat} {al : List Inst} {vn vk va : Value} {M : Nat} {iv : Nat → Value} {il : Nat → List Int} {w w' : World}
theorem W4.keep (h : W4 B cn nn ck nk al vn vk va M iv il w) (hb : Below w.heap.size w w') : W4 B cn nn ck nk al vn vk va M iv il w' :=
  ⟨own_keep h.nod hb, own_keep h.out hb, own_keep h.all hb, fun k hk => own_keep (h.int k hk) hb, h.dis, Nat.le_trans h.le hb.size⟩
theorem W4.own (h : W4 B cn nn ck nk al vn vk va M iv il w) {k : Nat} (hk : OwW vn vk va M iv k) : B ≤ k ∧ k < w.heap.size := by
  rcases hk with hk | hk | hk | ⟨i, hi, hk⟩
  · exact h.nod.lt k hk
  · exact h.out.lt k hk
  · exact h.all.lt k hk
  · exact (h.int i hi).lt k hk
theorem W4.set (h : W4 B cn nn ck nk al vn vk va M iv il w) {b j : Nat} (hb : b < B) (v : Value) : W4 B cn nn ck nk al vn vk va M iv il (w.setCell ⟨b, j, none⟩ v) := by
  have hs : ∀ g, B ≤ g → (w.setCell ⟨b, j, none⟩ v).heap[g]? = w.heap[g]? := fun g hg => Below.heap_setCell _ _ _ _ (show g ≠ b by omega)
  refine ⟨own_blk h.nod fun g hg => hs g (h.nod.lt g hg).1, own_blk h.out fun g hg => hs g (h.out.lt g hg).1, own_blk h.all fun g hg => hs g (h.all.lt g hg).1, fun k hk => own_blk (h.int k hk) fun g hg => hs g ((h.int k hk).lt g hg).1, h.dis, ?_⟩
  rw [show (w.setCell ⟨b, j, none⟩ v).heap.size = w.heap.size by simp]
  exact h.le
theorem W4.appN (h : W4 B cn nn ck nk al vn vk va M iv il w) {v' : Value} {news : List Value} (ho : w'.ownsRow B 31 3 v' (nn + 1) (cn ++ news)) (hg : w.grownBy w' vn.ownBlock) (hat : v'.ownBlock = vn.ownBlock ∨ ∃ k, v'.ownBlock = some k ∧ w.heap.size ≤ k) :
    W4 B (cn ++ news) (nn + 1) ck nk al v' vk va M iv il w' ∧ Stq (OwW vn vk va M iv) (OwW v' vk va M iv) w w' := by
  refine ⟨⟨ho, own_beside h.out hg (fun g e => typ_ne h.out h.nod (by decide) e), own_beside h.all hg (fun g e => typ_ne h.all h.nod (by decide) e), fun k hk => own_beside (h.int k hk) hg (fun g e => typ_ne (h.int k hk) h.nod (by decide) e), h.dis, Nat.le_trans h.le hg.size⟩, stq_grown hg (fun k e => .inl e) fun k hk => ?_⟩
  rcases hk with hk | hk | hk | hk
  · rcases hat with e | ⟨q, e, hq⟩
    · exact .inl (.inl (by rw [← e]; exact hk))
    · rw [e] at hk; cases hk; exact .inr hq
  · exact .inl (.inr (.inl hk))
  · exact .inl (.inr (.inr (.inl hk)))
  · exact .inl (.inr (.inr (.inr hk)))
theorem W4.appO (h : W4 B cn nn ck nk al vn vk va M iv il w) {v' : Value} {news : List Value} (ho : w'.ownsRow B 40 1 v' (nk + 1) (ck ++ news)) (hg : w.grownBy w' vk.ownBlock) (hat : v'.ownBlock = vk.ownBlock ∨ ∃ k, v'.ownBlock = some k ∧ w.heap.size ≤ k) :
    W4 B cn nn (ck ++ news) (nk + 1) al vn v' va M iv il w' ∧ Stq (OwW vn vk va M iv) (OwW vn v' va M iv) w w' := by
  refine ⟨⟨own_beside h.nod hg (fun g e => typ_ne h.nod h.out (by decide) e), ho, own_beside h.all hg (fun g e => typ_ne h.all h.out (by decide) e), fun k hk => own_beside (h.int k hk) hg (fun g e => typ_ne (h.int k hk) h.out (by decide) e), h.dis, Nat.le_trans h.le hg.size⟩, stq_grown hg (fun k e => .inr (.inl e)) fun k hk => ?_⟩
  rcases hk with hk | hk | hk | hk
  · exact .inl (.inl hk)
  · rcases hat with e | ⟨q, e, hq⟩
    · exact .inl (.inr (.inl (by rw [← e]; exact hk)))
    · rw [e] at hk; cases hk; exact .inr hq
  · exact .inl (.inr (.inr (.inl hk)))
  · exact .inl (.inr (.inr (.inr hk)))
theorem W4.appA (h : W4 B cn nn ck nk al vn vk va M iv il w) {v' : Value} {i : Inst} (ho : w'.ownsRow B 59 2 v' (al.length + 1) (plC al ++ [.int .i64 i.1, .int .i64 i.2])) (hg : w.grownBy w' va.ownBlock) (hat : v'.ownBlock = va.ownBlock ∨ ∃ k, v'.ownBlock = some k ∧ w.heap.size ≤ k) :
    W4 B cn nn ck nk (al ++ [i]) vn vk v' M iv il w' ∧ Stq (OwW vn vk va M iv) (OwW vn vk v' M iv) w w' := by
  refine ⟨⟨own_beside h.nod hg (fun g e => typ_ne h.nod h.all (by decide) e), own_beside h.out hg (fun g e => typ_ne h.out h.all (by decide) e), by rw [plC_snoc, List.length_append]; exact ho, fun k hk => own_beside (h.int k hk) hg (fun g e => typ_ne (h.int k hk) h.all (by decide) e), h.dis, Nat.le_trans h.le hg.size⟩, stq_grown hg (fun k e => .inr (.inr (.inl e))) fun k hk => ?_⟩
  rcases hk with hk | hk | hk | hk
  · exact .inl (.inl hk)
  · exact .inl (.inr (.inl hk))
  · rcases hat with e | ⟨q, e, hq⟩
    · exact .inl (.inr (.inr (.inl (by rw [← e]; exact hk))))
    · rw [e] at hk; cases hk; exact .inr hq
  · exact .inl (.inr (.inr (.inr hk)))
theorem W4.appI (h : W4 B cn nn ck nk al vn vk va M iv il w) {p : Nat} (hp : p < M) {v' : Value} {x : Int} (ho : w'.ownsRow B 3 1 v' ((il p).length + 1) (ints (il p) ++ [.int .i64 x])) (hg : w.grownBy w' (iv p).ownBlock) (hat : v'.ownBlock = (iv p).ownBlock ∨ ∃ k, v'.ownBlock = some k ∧ w.heap.size ≤ k) :
    W4 B cn nn ck nk al vn vk va M (fun k => if k = p then v' else iv k) (fun k => if k = p then il p ++ [x] else il k) w' ∧ Stq (OwW vn vk va M iv) (OwW vn vk va M (fun k => if k = p then v' else iv k)) w w' := by
  have hq : ∀ j, j < M → j ≠ p → ∀ g, (iv j).ownBlock = some g → v'.ownBlock ≠ some g := by
    intro j hj hjt g e1 e2
    rcases hat with e | ⟨q, e, hq⟩
    · rw [e] at e2
      exact h.dis j p hj hp hjt g e1 e2
    · rw [e] at e2
      cases e2
      have := ((h.int j hj).lt _ e1).2
      omega
  refine ⟨⟨own_beside h.nod hg (fun g e => typ_ne h.nod (h.int p hp) (by decide) e), own_beside h.out hg (fun g e => typ_ne h.out (h.int p hp) (by decide) e), own_beside h.all hg (fun g e => typ_ne h.all (h.int p hp) (by decide) e), fun k hk => ?_, fun k k' hk hk' hkk g hgk hgk' => ?_, Nat.le_trans h.le hg.size⟩, stq_grown hg (fun k e => .inr (.inr (.inr ⟨p, hp, e⟩))) fun k hk => ?_⟩
  · by_cases e : k = p
    · subst e
      simp only [if_true]
      rw [ints_append, List.length_append]
      exact ho
    · simp only [e, if_false]
      exact own_beside (h.int k hk) hg (fun g e1 => h.dis k p hk hp e g e1)
  · by_cases e1 : k = p <;> by_cases e2 : k' = p <;> simp only [e1, e2, if_true, if_false] at hgk hgk'
    · exact hkk (by rw [e1, e2])
    · exact hq k' hk' e2 g hgk' hgk
    · exact hq k hk e1 g hgk hgk'
    · exact h.dis k k' hk hk' hkk g hgk hgk'
  · rcases hk with hk | hk | hk | ⟨i, hi, hk⟩
    · exact .inl (.inl hk)
    · exact .inl (.inr (.inl hk))
    · exact .inl (.inr (.inr (.inl hk)))
    · by_cases e1 : i = p
      · simp only [e1, if_true] at hk
        rcases hat with e | ⟨q, e, hq⟩
        · exact .inl (.inr (.inr (.inr ⟨p, hp, by rw [← e]; exact hk⟩)))
        · rw [e] at hk
          cases hk
          exact .inr hq
      · simp only [e1, if_false] at hk
        exact .inl (.inr (.inr (.inr ⟨i, hi, hk⟩)))
theorem W4.more (h : W4 B cn nn ck nk al vn vk va M iv il w) (hv : iv M = .slice none 0 0) (hl : il M = []) : W4 B cn nn ck nk al vn vk va (M + 1) iv il w := by
  refine ⟨h.nod, h.out, h.all, fun k hk => ?_, fun k k' hk hk' hkk g hgk hgk' => ?_, h.le⟩
  · by_cases e : k = M
    · subst e
      rw [hv, hl]
      exact World.ownsRow_nil _ _ _ _
    · exact h.int k (by omega)
  · by_cases e1 : k = M
    · rw [e1, hv] at hgk; cases hgk
    · by_cases e2 : k' = M
      · rw [e2, hv] at hgk'; cases hgk'
      · exact h.dis k k' (by omega) (by omega) hkk g hgk hgk'
theorem W4.setO (h : W4 B cn nn ck nk al vn vk va M iv il w) {kb kc p : Nat} (hvk : vk = .slice (some ⟨kb, 0, none⟩) nk kc) (u : Value) : W4 B cn nn (ck.set p u) nk al vn vk va M iv il (w.setCell ⟨kb, p, none⟩ u) ∧ Stq (OwW vn vk va M iv) (OwW vn vk va M iv) w (w.setCell ⟨kb, p, none⟩ u) := by
  subst hvk
  have hs : ∀ g, g ≠ kb → (w.setCell ⟨kb, p, none⟩ u).heap[g]? = w.heap[g]? := fun g hg => Below.heap_setCell _ _ _ _ hg
  have hsz : (w.setCell ⟨kb, p, none⟩ u).heap.size = w.heap.size := by simp
  have hne : ∀ {e : TypeId} {s : Nat} {v : Value} {n : Nat} {xs : List Value}, w.ownsRow B e s v n xs → e ≠ 40 → ∀ g, v.ownBlock = some g → g ≠ kb := fun hr he g hg e => by
    subst e
    exact typ_ne hr h.out he hg rfl
  refine ⟨⟨own_blk h.nod fun g hg => hs g (hne h.nod (by decide) g hg), own_setN h.out p u, own_blk h.all fun g hg => hs g (hne h.all (by decide) g hg), fun k hk => own_blk (h.int k hk) fun g hg => hs g (hne (h.int k hk) (by decide) g hg), h.dis, by rw [hsz]; exact h.le⟩, (setCell_facts _ _ _).1, (setCell_facts _ _ _).2.1, (setCell_facts _ _ _).2.2, by rw [hsz]; exact Nat.le_refl _, fun k hk hn => hs k (fun e => hn (.inr (.inl (by rw [e]; rfl)))), fun k hk => .inl hk⟩
end
end Dm
end Go.Proofs.YtfocooehnmpndaaGreat
namespace Go.Proofs.YtfocooehnmpndaaGreat
open Go.RowKit
namespace Dm
open At (Ref)
def trC (L : List Nd) (tr : Nat → Value × Value) : List Value := (List.range L.length).flatMap fun k => [.int .i64 (ndAt L k).rule, (tr k).1, (tr k).2]
theorem trC_len (L : List Nd) (tr : Nat → Value × Value) : (trC L tr).length = L.length * 3 := by
  have h : ∀ n, ((List.range n).flatMap fun k => [Value.int .i64 (ndAt L k).rule, (tr k).1, (tr k).2]).length = n * 3 := fun n => by
    induction n with
    | zero => rfl
    | succ n ih => rw [List.range_succ, List.flatMap_append, List.length_append, ih]; simp; omega
  exact h _
theorem trC_app (L : List Nd) (tr : Nat → Value × Value) (x : Nd) (u v : Value) : trC (L ++ [x]) (fun k => if k = L.length then (u, v) else tr k) = trC L tr ++ [.int .i64 x.rule, u, v] := by
  unfold trC
  rw [List.length_append, show L.length + [x].length = L.length + 1 from rfl, List.range_succ, List.flatMap_append]
  congr 1
  · refine flatCongr _ fun k hk => ?_
    rw [List.mem_range] at hk
    rw [ndAt_app, if_pos hk]
    simp only [show ¬ k = L.length by omega, if_false]
  · simp [ndAt_app]
theorem trC_addK (L : List Nd) (tr : Nat → Value × Value) {p n : Nat} (hp : p < L.length) : trC (addK L (p : Int) n) tr = trC L tr := by
  unfold trC
  rw [addK_len]
  refine flatCongr _ fun k hk => ?_
  rw [ndAt_addK hp]
  by_cases e : k = p
  · subst e; simp
  · simp [e]
theorem trC_at {L : List Nd} {tr : Nat → Value × Value} {n : Nat} (h : n < L.length) : (trC L tr)[n * 3]? = some (.int .i64 (ndAt L n).rule) := by
  have key : ∀ m, n < m → ((List.range m).flatMap fun k => [Value.int .i64 (ndAt L k).rule, (tr k).1, (tr k).2])[n * 3]? = some (.int .i64 (ndAt L n).rule) := by
    intro m
    induction m with
    | zero => intro h; omega
    | succ m ih =>
      intro hm
      have hl : ((List.range m).flatMap fun k => [Value.int .i64 (ndAt L k).rule, (tr k).1, (tr k).2]).length = m * 3 := by
        clear ih hm
        induction m with
        | zero => rfl
        | succ m ih => rw [List.range_succ, List.flatMap_append, List.length_append, ih]; simp; omega
      rw [List.range_succ, List.flatMap_append]
      by_cases e : n = m
      · subst e
        rw [List.getElem?_append_right (by rw [hl]; exact Nat.le_refl _), hl, Nat.sub_self]
        simp
      · rw [List.getElem?_append_left (by rw [hl]; omega)]
        exact ih (by omega)
  exact key _ h
def ilW (L : List Nd) (k : Nat) : List Int := if k = 0 then L.map Nd.up else if k = 1 then L.map Nd.pos else (ndAt L (k - 2)).kids
def ilF (L : List Nd) (up pos : Int) (c2 c3 : Bool) (k : Nat) : List Int := if k = 0 then (if c2 = true then L.map Nd.up ++ [up] else L.map Nd.up) else if k = 1 then (if c3 = true then L.map Nd.pos ++ [pos] else L.map Nd.pos) else (ndAt L (k - 2)).kids
theorem ilF_up (L : List Nd) (up pos : Int) (c3 : Bool) : (fun k => if k = 0 then ilF L up pos false c3 0 ++ [up] else ilF L up pos false c3 k) = ilF L up pos true c3 := by
  funext k
  by_cases e : k = 0
  · subst e; simp [ilF]
  · simp [ilF, e]
theorem ilF_pos (L : List Nd) (up pos : Int) (c2 : Bool) : (fun k => if k = 1 then ilF L up pos c2 false 1 ++ [pos] else ilF L up pos c2 false k) = ilF L up pos c2 true := by
  funext k
  by_cases e : k = 1
  · subst e; simp [ilF]
  · by_cases e0 : k = 0
    · subst e0; simp [ilF]
    · simp [ilF, e, e0]
theorem ilF_end (L : List Nd) (r up pos : Int) : ilF L up pos true true = ilW (L ++ [⟨r, up, pos, []⟩]) := by
  funext k
  unfold ilF ilW
  by_cases e0 : k = 0
  · simp [e0]
  · by_cases e1 : k = 1
    · simp [e1]
    · simp only [e0, e1, if_false]
      rw [ndAt_app]
      by_cases h : k - 2 < L.length
      · rw [if_pos h]
      · rw [if_neg h]
        have h2 : (ndAt L (k - 2)).kids = [] := by unfold ndAt; rw [List.getElem?_eq_none (by omega)]; rfl
        rw [h2]
        by_cases h3 : k - 2 = L.length
        · rw [if_pos h3]
        · rw [if_neg h3]; rfl
theorem addK_map (L : List Nd) (p n : Nat) (f : Nd → Int) (hf : ∀ x : Nd, ∀ l, f { x with kids := l } = f x) : (addK L (p : Int) n).map f = L.map f := by
  unfold addK
  rw [if_pos (by omega), Int.toNat_natCast]
  refine List.ext_getElem? fun k => ?_
  rw [List.getElem?_map, List.getElem?_map, List.getElem?_modify]
  cases L[k]? with
  | none => rfl
  | some x =>
    by_cases e : p = k
    · simp [e, hf]
    · simp [e]
theorem ilW_addK {L : List Nd} {p n : Nat} (hp : p < L.length) : (fun k => if k = p + 2 then ilW L (p + 2) ++ [(n : Int)] else ilW L k) = ilW (addK L (p : Int) n) := by
  funext k
  unfold ilW
  rw [addK_map _ _ _ Nd.up (fun _ _ => rfl), addK_map _ _ _ Nd.pos (fun _ _ => rfl)]
  by_cases e0 : k = 0
  · simp [e0]
  · by_cases e1 : k = 1
    · simp [e1]
    · simp only [e0, e1, if_false]
      rw [ndAt_addK hp]
      by_cases e : k = p + 2
      · subst e
        simp
      · simp only [e, if_false]
        rw [if_neg (by omega)]
def OwX (wb : Nat) (vn vk va : Value) (M : Nat) (iv : Nat → Value) (k : Nat) : Prop := k = wb ∨ OwW vn vk va M iv k
theorem Stq.withB {O O' : Nat → Prop} {w w' : World} (h : Stq O O' w w') (wb : Nat) : Stq (fun k => k = wb ∨ O k) (fun k => k = wb ∨ O' k) w w' :=
  ⟨h.os, h.tape, h.output, h.size, fun k hk hn => h.same k hk (fun e => hn (.inr e)), fun k hk => by
    rcases hk with hk | hk
    · exact .inl (.inl hk)
    · rcases h.own k hk with h1 | h1
      · exact .inl (.inr h1)
      · exact .inr h1⟩
structure WR (B wb : Nat) (hd : Hw) (L : List Nd) (al : List Inst) (vn vk va : Value) (iv : Nat → Value) (tr : Nat → Value × Value) (w : World) : Prop where
  w4 : W4 B (trC L tr) L.length ((List.range L.length).map fun k => iv (k + 2)) L.length al vn vk va (L.length + 2) iv (ilW L) w
  hdr : w.heap[wb]? = some (.cells (hd.cells vn (iv 0) (iv 1) vk va) 64 (0, 0))
  nil : ∀ k, L.length + 2 ≤ k → iv k = .slice none 0 0
  lt : wb < B
def WI (B wb : Nat) (hd : Hw) (L : List Nd) (al : List Inst) (O : Nat → Prop) (w : World) : Prop := ∃ vn vk va iv tr, WR B wb hd L al vn vk va iv tr w ∧ ∀ k, O k ↔ OwX wb vn vk va (L.length + 2) iv k
section
variable {B wb : Nat} {hd : Hw} {L : List Nd} {al : List Inst} {O : Nat → Prop} {w w' : World}
theorem WI.keep (h : WI B wb hd L al O w) (hb : Below w.heap.size w w') : WI B wb hd L al O w' := by
  obtain ⟨vn, vk, va, iv, tr, h1, h2⟩ := h
  exact ⟨vn, vk, va, iv, tr, ⟨h1.w4.keep hb, bx_keep h1.hdr hb, h1.nil, h1.lt⟩, h2⟩
theorem WI.own (h : WI B wb hd L al O w) {k : Nat} (hk : O k) : (k = wb ∨ B ≤ k) ∧ k < w.heap.size := by
  obtain ⟨vn, vk, va, iv, tr, h1, h2⟩ := h
  rcases (h2 k).1 hk with rfl | hk
  · exact ⟨.inl rfl, (Array.getElem?_eq_some_iff.1 h1.hdr).1⟩
  · have := h1.w4.own hk
    exact ⟨.inr this.1, this.2⟩
end
end Dm
end Go.Proofs.YtfocooehnmpndaaGreat
namespace Go.Proofs.YtfocooehnmpndaaGreat
open Go.RowKit
namespace Dm
def okW (b9 c1 b16 c2 b23 c3 b29 c4 : Bool) : Bool := (!c1 || b9) && (!c2 || (c1 && b16)) && (!c3 || (c2 && b23)) && (!c4 || (c3 && b29))
def lstW (b9 c1 b16 c2 b23 c3 b29 c4 : Bool) : Array Bool := #[true, true, true, true, true, true, true, true, true, b9, c1, true, true, true, true, true, b16, c2, true, true, true, true, true, b23, c3, true, true, true, true, b29, c4, false, false, false, false, false, false, false, false, false, false, false, false]
structure KW where
  B : Nat
  cn : List Value
  n : Nat
  ck : List Value
  al : List Inst
  va : Value
  iv : Nat → Value
  L : List Nd
  up : Int
  pos : Int
  news : Array Value
  w0 : World
  O : Nat → Prop
  vn : Value
  vu : Value
  vp : Value
  vk : Value
structure JF (k : KW) (b9 c1 b16 c2 b23 c3 b29 c4 : Bool) (un uk : Value) (iv' : Nat → Value) (x31 x32 x38 x39 x45 x46 x51 x52 : Value) (g9 g16 g23 g29 : Nat) (w : World) : Prop where
  ok : okW b9 c1 b16 c2 b23 c3 b29 c4 = true
  w4 : W4 k.B (if c1 = true then k.cn ++ k.news.toList else k.cn) (if c1 = true then k.n + 1 else k.n) (if c4 = true then k.ck ++ [.slice none 0 0] else k.ck) (if c4 = true then k.n + 1 else k.n) k.al un uk k.va (k.n + 2) iv' (ilF k.L k.up k.pos c2 c3) w
  st : Stq k.O (OwW un uk k.va (k.n + 2) iv') k.w0 w
  l9 : b9 = true → x31 = .slice (some ⟨g9, 0, none⟩) 1 1 ∧ w.heap[g9]? = some (.cells k.news 31 (0, 0)) ∧ ¬ OwW un uk k.va (k.n + 2) iv' g9
  l16 : b16 = true → x38 = .slice (some ⟨g16, 0, none⟩) 1 1 ∧ w.heap[g16]? = some (.cells #[.int .i64 k.up] 3 (0, 0)) ∧ ¬ OwW un uk k.va (k.n + 2) iv' g16
  l23 : b23 = true → x45 = .slice (some ⟨g23, 0, none⟩) 1 1 ∧ w.heap[g23]? = some (.cells #[.int .i64 k.pos] 3 (0, 0)) ∧ ¬ OwW un uk k.va (k.n + 2) iv' g23
  l29 : b29 = true → x51 = .slice (some ⟨g29, 0, none⟩) 1 1 ∧ w.heap[g29]? = some (.cells #[.slice none 0 0] 40 (0, 0)) ∧ ¬ OwW un uk k.va (k.n + 2) iv' g29
  n0 : c1 = false → un = k.vn
  n1 : c1 = true → x32 = un
  u0 : c2 = false → iv' 0 = k.vu
  u1 : c2 = true → x39 = iv' 0
  p0 : c3 = false → iv' 1 = k.vp
  p1 : c3 = true → x46 = iv' 1
  k0 : c4 = false → uk = k.vk
  k1 : c4 = true → x52 = uk
  rest : ∀ j, 2 ≤ j → iv' j = k.iv j
section
variable {k : KW} {b9 c1 b16 c2 b23 c3 b29 c4 : Bool} {un uk : Value} {iv' : Nat → Value} {x31 x32 x38 x39 x45 x46 x51 x52 : Value} {g9 g16 g23 g29 : Nat} {w w' : World}
theorem JF.lit9 (h : JF k false c1 b16 c2 b23 c3 b29 c4 un uk iv' x31 x32 x38 x39 x45 x46 x51 x52 g9 g16 g23 g29 w) : JF k true c1 b16 c2 b23 c3 b29 c4 un uk iv' (.slice (some ⟨w.heap.size, 0, none⟩) 1 1) x32 x38 x39 x45 x46 x51 x52 w.heap.size g16 g23 g29 (w.alloc (.cells k.news 31)) := by
  have hb : Below w.heap.size w (w.alloc (.cells k.news 31)) := (Below.refl _ _).alloc (Nat.le_refl _) _
  have hn : ¬ OwW un uk k.va (k.n + 2) iv' w.heap.size := fun e => by have := (h.w4.own e).2; omega
  exact ⟨by have h1 := h.ok; revert h1; unfold okW; cases c1 <;> cases b16 <;> cases c2 <;> cases b23 <;> cases c3 <;> cases b29 <;> cases c4 <;> simp, h.w4.keep hb, h.st.trans (Stq.below hb), fun _ => ⟨rfl, bx_new _ _ _ rfl, hn⟩, fun e => ⟨(h.l16 e).1, bx_keep (h.l16 e).2.1 hb, (h.l16 e).2.2⟩, fun e => ⟨(h.l23 e).1, bx_keep (h.l23 e).2.1 hb, (h.l23 e).2.2⟩, fun e => ⟨(h.l29 e).1, bx_keep (h.l29 e).2.1 hb, (h.l29 e).2.2⟩, h.n0, h.n1, h.u0, h.u1, h.p0, h.p1, h.k0, h.k1, h.rest⟩
theorem JF.lit16 (h : JF k b9 c1 false c2 b23 c3 b29 c4 un uk iv' x31 x32 x38 x39 x45 x46 x51 x52 g9 g16 g23 g29 w) : JF k b9 c1 true c2 b23 c3 b29 c4 un uk iv' x31 x32 (.slice (some ⟨w.heap.size, 0, none⟩) 1 1) x39 x45 x46 x51 x52 g9 w.heap.size g23 g29 (w.alloc (.cells #[.int .i64 k.up] 3)) := by
  have hb : Below w.heap.size w (w.alloc (.cells #[.int .i64 k.up] 3)) := (Below.refl _ _).alloc (Nat.le_refl _) _
  have hn : ¬ OwW un uk k.va (k.n + 2) iv' w.heap.size := fun e => by have := (h.w4.own e).2; omega
  exact ⟨by have h1 := h.ok; revert h1; unfold okW; cases b9 <;> cases c1 <;> cases c2 <;> cases b23 <;> cases c3 <;> cases b29 <;> cases c4 <;> simp, h.w4.keep hb, h.st.trans (Stq.below hb), fun e => ⟨(h.l9 e).1, bx_keep (h.l9 e).2.1 hb, (h.l9 e).2.2⟩, fun _ => ⟨rfl, bx_new _ _ _ rfl, hn⟩, fun e => ⟨(h.l23 e).1, bx_keep (h.l23 e).2.1 hb, (h.l23 e).2.2⟩, fun e => ⟨(h.l29 e).1, bx_keep (h.l29 e).2.1 hb, (h.l29 e).2.2⟩, h.n0, h.n1, h.u0, h.u1, h.p0, h.p1, h.k0, h.k1, h.rest⟩
theorem JF.lit23 (h : JF k b9 c1 b16 c2 false c3 b29 c4 un uk iv' x31 x32 x38 x39 x45 x46 x51 x52 g9 g16 g23 g29 w) : JF k b9 c1 b16 c2 true c3 b29 c4 un uk iv' x31 x32 x38 x39 (.slice (some ⟨w.heap.size, 0, none⟩) 1 1) x46 x51 x52 g9 g16 w.heap.size g29 (w.alloc (.cells #[.int .i64 k.pos] 3)) := by
  have hb : Below w.heap.size w (w.alloc (.cells #[.int .i64 k.pos] 3)) := (Below.refl _ _).alloc (Nat.le_refl _) _
  have hn : ¬ OwW un uk k.va (k.n + 2) iv' w.heap.size := fun e => by have := (h.w4.own e).2; omega
  exact ⟨by have h1 := h.ok; revert h1; unfold okW; cases b9 <;> cases c1 <;> cases b16 <;> cases c2 <;> cases c3 <;> cases b29 <;> cases c4 <;> simp, h.w4.keep hb, h.st.trans (Stq.below hb), fun e => ⟨(h.l9 e).1, bx_keep (h.l9 e).2.1 hb, (h.l9 e).2.2⟩, fun e => ⟨(h.l16 e).1, bx_keep (h.l16 e).2.1 hb, (h.l16 e).2.2⟩, fun _ => ⟨rfl, bx_new _ _ _ rfl, hn⟩, fun e => ⟨(h.l29 e).1, bx_keep (h.l29 e).2.1 hb, (h.l29 e).2.2⟩, h.n0, h.n1, h.u0, h.u1, h.p0, h.p1, h.k0, h.k1, h.rest⟩
theorem JF.lit29 (h : JF k b9 c1 b16 c2 b23 c3 false c4 un uk iv' x31 x32 x38 x39 x45 x46 x51 x52 g9 g16 g23 g29 w) : JF k b9 c1 b16 c2 b23 c3 true c4 un uk iv' x31 x32 x38 x39 x45 x46 (.slice (some ⟨w.heap.size, 0, none⟩) 1 1) x52 g9 g16 g23 w.heap.size (w.alloc (.cells #[.slice none 0 0] 40)) := by
  have hb : Below w.heap.size w (w.alloc (.cells #[.slice none 0 0] 40)) := (Below.refl _ _).alloc (Nat.le_refl _) _
  have hn : ¬ OwW un uk k.va (k.n + 2) iv' w.heap.size := fun e => by have := (h.w4.own e).2; omega
  exact ⟨by have h1 := h.ok; revert h1; unfold okW; cases b9 <;> cases c1 <;> cases b16 <;> cases c2 <;> cases b23 <;> cases c3 <;> cases c4 <;> simp, h.w4.keep hb, h.st.trans (Stq.below hb), fun e => ⟨(h.l9 e).1, bx_keep (h.l9 e).2.1 hb, (h.l9 e).2.2⟩, fun e => ⟨(h.l16 e).1, bx_keep (h.l16 e).2.1 hb, (h.l16 e).2.2⟩, fun e => ⟨(h.l23 e).1, bx_keep (h.l23 e).2.1 hb, (h.l23 e).2.2⟩, fun _ => ⟨rfl, bx_new _ _ _ rfl, hn⟩, h.n0, h.n1, h.u0, h.u1, h.p0, h.p1, h.k0, h.k1, h.rest⟩
theorem JF.app10 (h : JF k true false b16 c2 b23 c3 b29 c4 un uk iv' x31 x32 x38 x39 x45 x46 x51 x52 g9 g16 g23 g29 w) {v' : Value} (ho : w'.ownsRow k.B 31 3 v' (k.n + 1) (k.cn ++ k.news.toList)) (hg : w.grownBy w' un.ownBlock) (hat : v'.ownBlock = un.ownBlock ∨ ∃ q, v'.ownBlock = some q ∧ w.heap.size ≤ q) : JF k true true b16 c2 b23 c3 b29 c4 v' uk iv' x31 v' x38 x39 x45 x46 x51 x52 g9 g16 g23 g29 w' := by
  have h4 := h.w4
  simp only [Bool.false_eq_true, if_false] at h4
  obtain ⟨hw, hs⟩ := h4.appN ho hg hat
  exact ⟨by have h1 := h.ok; revert h1; unfold okW; cases b16 <;> cases c2 <;> cases b23 <;> cases c3 <;> cases b29 <;> cases c4 <;> simp, hw, h.st.trans hs, fun e => ⟨(h.l9 e).1, (hs.box (h.l9 e).2.1 (h.l9 e).2.2).1, (hs.box (h.l9 e).2.1 (h.l9 e).2.2).2⟩, fun e => ⟨(h.l16 e).1, (hs.box (h.l16 e).2.1 (h.l16 e).2.2).1, (hs.box (h.l16 e).2.1 (h.l16 e).2.2).2⟩, fun e => ⟨(h.l23 e).1, (hs.box (h.l23 e).2.1 (h.l23 e).2.2).1, (hs.box (h.l23 e).2.1 (h.l23 e).2.2).2⟩, fun e => ⟨(h.l29 e).1, (hs.box (h.l29 e).2.1 (h.l29 e).2.2).1, (hs.box (h.l29 e).2.1 (h.l29 e).2.2).2⟩, fun e => (by cases e), fun _ => rfl, h.u0, h.u1, h.p0, h.p1, h.k0, h.k1, h.rest⟩
theorem JF.app17 (h : JF k b9 true true false b23 c3 b29 c4 un uk iv' x31 x32 x38 x39 x45 x46 x51 x52 g9 g16 g23 g29 w) {v' : Value} (ho : w'.ownsRow k.B 3 1 v' ((k.L.map Nd.up).length + 1) (ints (k.L.map Nd.up) ++ [.int .i64 k.up])) (hg : w.grownBy w' (iv' 0).ownBlock) (hat : v'.ownBlock = (iv' 0).ownBlock ∨ ∃ q, v'.ownBlock = some q ∧ w.heap.size ≤ q) : JF k b9 true true true b23 c3 b29 c4 un uk (fun j => if j = 0 then v' else iv' j) x31 x32 x38 v' x45 x46 x51 x52 g9 g16 g23 g29 w' := by
  obtain ⟨hw, hs⟩ := h.w4.appI (p := 0) (by omega) (x := k.up) ho hg hat
  rw [ilF_up] at hw
  exact ⟨by have h1 := h.ok; revert h1; unfold okW; cases b9 <;> cases b23 <;> cases c3 <;> cases b29 <;> cases c4 <;> simp, hw, h.st.trans hs, fun e => ⟨(h.l9 e).1, (hs.box (h.l9 e).2.1 (h.l9 e).2.2).1, (hs.box (h.l9 e).2.1 (h.l9 e).2.2).2⟩, fun e => ⟨(h.l16 e).1, (hs.box (h.l16 e).2.1 (h.l16 e).2.2).1, (hs.box (h.l16 e).2.1 (h.l16 e).2.2).2⟩, fun e => ⟨(h.l23 e).1, (hs.box (h.l23 e).2.1 (h.l23 e).2.2).1, (hs.box (h.l23 e).2.1 (h.l23 e).2.2).2⟩, fun e => ⟨(h.l29 e).1, (hs.box (h.l29 e).2.1 (h.l29 e).2.2).1, (hs.box (h.l29 e).2.1 (h.l29 e).2.2).2⟩, h.n0, h.n1, fun e => (by cases e), fun _ => (by simp), fun e => (by simpa using h.p0 e), fun e => (by simpa using h.p1 e), h.k0, h.k1, fun j hj => (by rw [← h.rest j hj]; exact if_neg (by omega))⟩
theorem JF.app24 (h : JF k b9 c1 b16 true true false b29 c4 un uk iv' x31 x32 x38 x39 x45 x46 x51 x52 g9 g16 g23 g29 w) {v' : Value} (ho : w'.ownsRow k.B 3 1 v' ((k.L.map Nd.pos).length + 1) (ints (k.L.map Nd.pos) ++ [.int .i64 k.pos])) (hg : w.grownBy w' (iv' 1).ownBlock) (hat : v'.ownBlock = (iv' 1).ownBlock ∨ ∃ q, v'.ownBlock = some q ∧ w.heap.size ≤ q) : JF k b9 c1 b16 true true true b29 c4 un uk (fun j => if j = 1 then v' else iv' j) x31 x32 x38 x39 x45 v' x51 x52 g9 g16 g23 g29 w' := by
  obtain ⟨hw, hs⟩ := h.w4.appI (p := 1) (by omega) (x := k.pos) ho hg hat
  rw [ilF_pos] at hw
  exact ⟨by have h1 := h.ok; revert h1; unfold okW; cases b9 <;> cases c1 <;> cases b16 <;> cases b29 <;> cases c4 <;> simp, hw, h.st.trans hs, fun e => ⟨(h.l9 e).1, (hs.box (h.l9 e).2.1 (h.l9 e).2.2).1, (hs.box (h.l9 e).2.1 (h.l9 e).2.2).2⟩, fun e => ⟨(h.l16 e).1, (hs.box (h.l16 e).2.1 (h.l16 e).2.2).1, (hs.box (h.l16 e).2.1 (h.l16 e).2.2).2⟩, fun e => ⟨(h.l23 e).1, (hs.box (h.l23 e).2.1 (h.l23 e).2.2).1, (hs.box (h.l23 e).2.1 (h.l23 e).2.2).2⟩, fun e => ⟨(h.l29 e).1, (hs.box (h.l29 e).2.1 (h.l29 e).2.2).1, (hs.box (h.l29 e).2.1 (h.l29 e).2.2).2⟩, h.n0, h.n1, fun e => (by cases e), fun e => (by simpa using h.u1 e), fun e => (by cases e), fun _ => (by simp), h.k0, h.k1, fun j hj => (by rw [← h.rest j hj]; exact if_neg (by omega))⟩
theorem JF.app30 (h : JF k b9 c1 b16 c2 b23 true true false un uk iv' x31 x32 x38 x39 x45 x46 x51 x52 g9 g16 g23 g29 w) {v' : Value} (ho : w'.ownsRow k.B 40 1 v' (k.n + 1) (k.ck ++ [.slice none 0 0])) (hg : w.grownBy w' uk.ownBlock) (hat : v'.ownBlock = uk.ownBlock ∨ ∃ q, v'.ownBlock = some q ∧ w.heap.size ≤ q) : JF k b9 c1 b16 c2 b23 true true true un v' iv' x31 x32 x38 x39 x45 x46 x51 v' g9 g16 g23 g29 w' := by
  have h4 := h.w4
  simp only [Bool.false_eq_true, if_false] at h4
  obtain ⟨hw, hs⟩ := h4.appO ho hg hat
  exact ⟨by have h1 := h.ok; revert h1; unfold okW; cases b9 <;> cases c1 <;> cases b16 <;> cases c2 <;> cases b23 <;> simp, hw, h.st.trans hs, fun e => ⟨(h.l9 e).1, (hs.box (h.l9 e).2.1 (h.l9 e).2.2).1, (hs.box (h.l9 e).2.1 (h.l9 e).2.2).2⟩, fun e => ⟨(h.l16 e).1, (hs.box (h.l16 e).2.1 (h.l16 e).2.2).1, (hs.box (h.l16 e).2.1 (h.l16 e).2.2).2⟩, fun e => ⟨(h.l23 e).1, (hs.box (h.l23 e).2.1 (h.l23 e).2.2).1, (hs.box (h.l23 e).2.1 (h.l23 e).2.2).2⟩, fun e => ⟨(h.l29 e).1, (hs.box (h.l29 e).2.1 (h.l29 e).2.2).1, (hs.box (h.l29 e).2.1 (h.l29 e).2.2).2⟩, h.n0, h.n1, h.u0, h.u1, h.p0, h.p1, fun e => (by cases e), fun _ => rfl, h.rest⟩
theorem cell_set_ne {w : World} {b c i j : Nat} {v : Value} (h : b ≠ c) : (w.setCell ⟨c, j, none⟩ v).cell? ⟨b, i, none⟩ = w.cell? ⟨b, i, none⟩ := by
  simp only [World.cell?, Below.heap_setCell w ⟨c, j, none⟩ v b h]
theorem Stq.set {O O' : Nat → Prop} {w0 : World} {c j : Nat} {v : Value} (h : Stq O O' w0 w) (hc : O c) : Stq O O' w0 (w.setCell ⟨c, j, none⟩ v) := by
  refine ⟨(setCell_facts _ _ _).1.trans h.os, (setCell_facts _ _ _).2.1.trans h.tape, (setCell_facts _ _ _).2.2.trans h.output, by rw [show (w.setCell ⟨c, j, none⟩ v).heap.size = w.heap.size by simp]; exact h.size, fun q hq hn => ?_, h.own⟩
  rw [Below.heap_setCell w ⟨c, j, none⟩ v q (fun e => hn (by rw [e]; exact hc))]
  exact h.same q hq hn
theorem JF.fin (h : JF k true true true true true true true true un uk iv' x31 x32 x38 x39 x45 x46 x51 x52 g9 g16 g23 g29 w) {wb : Nat} {hd : Hw} {tr : Nat → Value × Value} {r : Int} {u v vn' vu' vp' vk' : Value} {O : Nat → Prop} (hcn : k.cn = trC k.L tr) (hn : k.n = k.L.length) (hck : k.ck = (List.range k.n).map fun j => k.iv (j + 2)) (hnil : ∀ j, k.n + 2 ≤ j → k.iv j = .slice none 0 0) (hnews : k.news = #[.int .i64 r, u, v])
    (hhd : w.heap[wb]? = some (.cells (hd.cells vn' vu' vp' vk' k.va) 64 (0, 0))) (hwb : wb < k.B) (hO : ∀ q, O q ↔ OwX wb k.vn k.vk k.va (k.n + 2) k.iv q) (hkO : k.O = OwW k.vn k.vk k.va (k.n + 2) k.iv) :
    WI k.B wb hd (k.L ++ [⟨r, k.up, k.pos, []⟩]) k.al (OwX wb un uk k.va (k.n + 3) iv') ((((w.setCell ⟨wb, 0 + 6, none⟩ un).setCell ⟨wb, 0 + 7, none⟩ (iv' 0)).setCell ⟨wb, 0 + 8, none⟩ (iv' 1)).setCell ⟨wb, 0 + 9, none⟩ uk) ∧
      Stq O (OwX wb un uk k.va (k.n + 3) iv') k.w0 ((((w.setCell ⟨wb, 0 + 6, none⟩ un).setCell ⟨wb, 0 + 7, none⟩ (iv' 0)).setCell ⟨wb, 0 + 8, none⟩ (iv' 1)).setCell ⟨wb, 0 + 9, none⟩ uk) := by
  have h4 := h.w4
  have hst := h.st
  have hiv : ∀ j, k.n + 2 ≤ j → iv' j = .slice none 0 0 := fun j hj => by rw [h.rest j (by omega)]; exact hnil j hj
  simp only [if_true] at h4
  have h5 := h4.more (hiv _ (Nat.le_refl _)) (by
    unfold ilF
    rw [if_neg (by omega), if_neg (by omega), hn, Nat.add_sub_cancel]
    unfold ndAt
    rw [List.getElem?_eq_none (Nat.le_refl _)]
    rfl)
  rw [hcn, hnews, ilF_end k.L r, hck] at h5
  have e1 : trC k.L tr ++ (#[Value.int .i64 r, u, v] : Array Value).toList = trC (k.L ++ [⟨r, k.up, k.pos, []⟩]) (fun j => if j = k.L.length then (u, v) else tr j) := by rw [trC_app]
  have e2 : ((List.range k.n).map fun j => k.iv (j + 2)) ++ [.slice none 0 0] = (List.range (k.n + 1)).map fun j => iv' (j + 2) := by
    rw [List.range_succ, List.map_append]
    congr 1
    · refine List.map_congr_left fun j _ => ?_
      rw [h.rest (j + 2) (by omega)]
    · simp [hiv (k.n + 2) (Nat.le_refl _)]
  rw [e1, e2] at h5
  have e3 : (k.L ++ [(⟨r, k.up, k.pos, []⟩ : Nd)]).length = k.n + 1 := by rw [List.length_append, hn]; rfl
  refine ⟨⟨un, uk, k.va, iv', fun j => if j = k.L.length then (u, v) else tr j, ⟨?_, ?_, fun j hj => ?_, hwb⟩, fun q => ?_⟩, ?_⟩
  · rw [e3]
    exact (((h5.set hwb _).set hwb _).set hwb _).set hwb _
  · exact bx_set (bx_set (bx_set (bx_set hhd 6 un) 7 (iv' 0)) 8 (iv' 1)) 9 uk
  · rw [e3] at hj
    exact hiv j (by omega)
  · rw [e3]
  · have h6 : Stq O (OwX wb un uk k.va (k.n + 3) iv') k.w0 w := by
      have h7 := hst.withB wb
      refine ⟨h7.os, h7.tape, h7.output, h7.size, fun q hq hnq => h7.same q hq (fun e => hnq ((hO q).2 (by unfold OwX; rw [hkO] at e; exact e))), fun q hq => ?_⟩
      have h8 : q = wb ∨ OwW un uk k.va (k.n + 2) iv' q := by
        rcases hq with hq | hq | hq | hq | ⟨i, hi, hq⟩
        · exact .inl hq
        · exact .inr (.inl hq)
        · exact .inr (.inr (.inl hq))
        · exact .inr (.inr (.inr (.inl hq)))
        · by_cases ei : i < k.n + 2
          · exact .inr (.inr (.inr (.inr ⟨i, ei, hq⟩)))
          · rw [hiv i (by omega)] at hq; cases hq
      rcases h7.own q h8 with h9 | h9
      · exact .inl ((hO q).2 (by unfold OwX; rw [hkO] at h9; exact h9))
      · exact .inr h9
    have hw : O wb := (hO wb).2 (.inl rfl)
    exact (((h6.set hw).set hw).set hw).set hw
end
end Dm
end Go.Proofs.YtfocooehnmpndaaGreat
namespace Go.Proofs.YtfocooehnmpndaaGreat
open Go.RowKit
namespace Dm
open At (Ref)
section
variable {B wb : Nat} {hd : Hw} {L : List Nd} {al : List Inst} {O : Nat → Prop} {vn vk va : Value} {iv : Nat → Value} {tr : Nat → Value × Value} {w w' : World}
def WaX (B wb : Nat) (hd : Hw) (L : List Nd) (al : List Inst) (O : Nat → Prop) (w0 w : World) : Prop := ∃ O', WI B wb hd L al O' w ∧ Stq O O' w0 w
theorem stq_x {O O' : Nat → Prop} (h : Stq O O' w w') : Stq (fun k => k = wb ∨ O k) (fun k => k = wb ∨ O' k) w w' := h.withB wb
theorem WR.hdr' (h : WR B wb hd L al vn vk va iv tr w) {v0 : Value} (hg : w.grownBy w' v0.ownBlock) (hv : ∀ k, v0.ownBlock = some k → B ≤ k) : w'.heap[wb]? = some (.cells (hd.cells vn (iv 0) (iv 1) vk va) 64 (0, 0)) := by
  have hl := h.lt
  exact (hg.block wb (Array.getElem?_eq_some_iff.1 h.hdr).1 (fun e => by have := hv _ e.symm; omega)).trans h.hdr
theorem WR.appA (h : WR B wb hd L al vn vk va iv tr w) {v' : Value} {i : Inst} (ho : w'.ownsRow B 59 2 v' (al.length + 1) (plC al ++ [.int .i64 i.1, .int .i64 i.2])) (hg : w.grownBy w' va.ownBlock) (hat : v'.ownBlock = va.ownBlock ∨ ∃ k, v'.ownBlock = some k ∧ w.heap.size ≤ k) :
    w'.cell? ⟨wb, 0 + 10, none⟩ = some va ∧ w'.frozen? ⟨wb, 0 + 10, none⟩ = false ∧ WI B wb hd L (al ++ [i]) (OwX wb vn vk v' (L.length + 2) iv) (w'.setCell ⟨wb, 0 + 10, none⟩ v') ∧ Stq (OwX wb vn vk va (L.length + 2) iv) (OwX wb vn vk v' (L.length + 2) iv) w (w'.setCell ⟨wb, 0 + 10, none⟩ v') := by
  have hh := h.hdr' hg (fun k e => (h.w4.all.lt k e).1)
  obtain ⟨h1, h2⟩ := h.w4.appA ho hg hat
  refine ⟨by simp [World.cell?, hh, Hw.cells], by simp [World.frozen?, hh], ⟨vn, vk, v', iv, tr, ⟨h1.set h.lt _, bx_set hh 10 v', h.nil, h.lt⟩, fun _ => Iff.rfl⟩, ?_⟩
  exact Stq.set (stq_x h2) (.inl rfl)
theorem WR.kids (h : WR B wb hd L al vn vk va iv tr w) {p : Nat} (hp : p < L.length) : ∃ kb kc, vk = .slice (some ⟨kb, 0, none⟩) L.length kc ∧ L.length ≤ kc ∧ kc ≤ maxLen ∧ B ≤ kb ∧ kb < w.heap.size ∧ w.cell? ⟨kb, p, none⟩ = some (iv (p + 2)) ∧ w.frozen? ⟨kb, p, none⟩ = false := by
  obtain ⟨a, cap, rfl, e1, e2⟩ := own_len h.w4.out
  cases a with
  | none =>
    rcases h.w4.out.2 with ⟨h2, h3⟩ | ⟨g, cap', cur, h2, _⟩
    · omega
    · cases h2
  | some ad =>
    rcases h.w4.out.2 with ⟨h2, h3⟩ | ⟨g, cap', cur, h2, hg, hh, _⟩
    · cases h2
    · cases h2
      have hj : p < ((List.range L.length).map fun k => iv (k + 2)).length := by simpa using hp
      have hc := own_cellN h.w4.out hj
      refine ⟨g, _, rfl, e1, e2, hg, (Array.getElem?_eq_some_iff.1 hh).1, ?_, hc.2⟩
      rw [hc.1]
      simp
theorem WR.addk (h : WR B wb hd L al vn vk va iv tr w) {p x : Nat} (hp : p < L.length) {v' : Value} (ho : w'.ownsRow B 3 1 v' ((ndAt L p).kids.length + 1) (ints (ndAt L p).kids ++ [.int .i64 x])) (hg : w.grownBy w' (iv (p + 2)).ownBlock) (hat : v'.ownBlock = (iv (p + 2)).ownBlock ∨ ∃ k, v'.ownBlock = some k ∧ w.heap.size ≤ k) {kb kc : Nat} (hvk : vk = .slice (some ⟨kb, 0, none⟩) L.length kc) :
    w'.cell? ⟨kb, p, none⟩ = some (iv (p + 2)) ∧ w'.frozen? ⟨kb, p, none⟩ = false ∧ w'.cell? ⟨wb, 0 + 9, none⟩ = some vk ∧ WaX B wb hd (addK L (p : Int) x) al (OwX wb vn vk va (L.length + 2) iv) w (w'.setCell ⟨kb, p, none⟩ v') := by
  have hil : ilW L (p + 2) = (ndAt L p).kids := by unfold ilW; rw [if_neg (by omega), if_neg (by omega), Nat.add_sub_cancel]
  have hh := h.hdr' hg (fun k e => ((h.w4.int (p + 2) (by omega)).lt k e).1)
  obtain ⟨h1, h2⟩ := h.w4.appI (p := p + 2) (by omega) (x := (x : Int)) (by rw [hil]; exact ho) hg hat
  rw [ilW_addK hp] at h1
  have hj : p < ((List.range L.length).map fun k => iv (k + 2)).length := by simpa using hp
  subst hvk
  have hc := own_cellN h1.out hj
  obtain ⟨h3, h4⟩ := h1.setO (p := p) rfl v'
  have hkb : kb ≠ wb := by
    have h5 := (h1.out.lt kb rfl).1
    have h6 := h.lt
    omega
  refine ⟨by rw [hc.1]; simp, hc.2, by simp [World.cell?, hh, Hw.cells], _, ⟨vn, .slice (some ⟨kb, 0, none⟩) L.length kc, va, fun k => if k = p + 2 then v' else iv k, tr, ⟨?_, ?_, fun k hk => ?_, h.lt⟩, fun _ => Iff.rfl⟩, ?_⟩
  · rw [addK_len, trC_addK _ _ hp]
    have e : ((List.range L.length).map fun k => iv (k + 2)).set p v' = (List.range L.length).map fun k => if k + 2 = p + 2 then v' else iv (k + 2) := by
      refine List.ext_getElem? fun k => ?_
      rw [List.getElem?_set]
      by_cases e : p = k
      · subst e
        simp [hp]
      · simp only [e, if_false]
        rw [List.getElem?_map, List.getElem?_map]
        by_cases hk : k < L.length
        · simp [hk, show ¬ k = p from fun e2 => e e2.symm]
        · simp [hk]
    rw [e] at h3
    exact h3
  · rw [Below.heap_setCell w' ⟨kb, p, none⟩ v' wb (Ne.symm hkb)]
    simp only [show ¬ (0 = p + 2) by omega, show ¬ (1 = p + 2) by omega, if_false]
    exact hh
  · rw [addK_len] at hk
    simp only [show ¬ k = p + 2 by omega, if_false]
    exact h.nil k hk
  · rw [addK_len]
    exact stq_x (h2.trans h4)
end
end Dm
end Go.Proofs.YtfocooehnmpndaaGreat
namespace Go.Proofs.YtfocooehnmpndaaGreat
open Go.RowKit
section
variable {P : Program} {ops : Array Oper} {Q : Exit → Act → World → Prop} {md : Region.Mode} {S : Array Bool → World → Prop}
def wpV (P : Program) (md : Region.Mode) (ops : Array Oper) (Q : Exit → Act → World → Prop) (S : Array Bool → World → Prop) : Nat → Array Bool → Act → World → Prop
  | 0, listed, a, w => Region.ready md ops listed = [] ∧ Q .normal a w
  | f + 1, listed, a, w =>
    (Region.ready md ops listed = [] → Q .normal a w) ∧
    ∀ i ∈ Region.ready md ops listed, wpOp P ops Q i (fun a' w' => S (listed.setIfInBounds i true) w' ∧ wpV P md ops Q S f (listed.setIfInBounds i true) a' w') a w
theorem wpAny_of_V : ∀ (f : Nat) (listed : Array Bool) (a : Act) (w : World), wpV P md ops Q S f listed a w → wpAny P md ops Q f listed a w
  | 0, _, _, _, h => h
  | f + 1, _, _, _, h => ⟨h.1, fun i hi => wpOp_mono (fun a' w' h' => wpAny_of_V f _ a' w' h'.2) (h.2 i hi)⟩
def ClV (md : Region.Mode) (ops : Array Oper) (l : Array Bool) : Prop := ∀ k o, ops[k]? = some o → l.getD k false = true → ∀ e ∈ o.after, Region.binds md e = true → l.getD e.on false = true
theorem getD_set_false {l : Array Bool} {i j : Nat} (h : l.getD j false = true) : (l.setIfInBounds i true).getD j false = true := by
  by_cases e : i = j
  · subst e
    by_cases hl : i < l.size
    · simp [Array.getD_eq_getD_getElem?, hl]
    · rw [Array.getD_eq_getD_getElem?, Array.getElem?_eq_none (by omega)] at h; cases h
  · rw [getD_set_ne false e]; exact h
theorem ClV.set {l : Array Bool} {i : Nat} (h : ClV md ops l) (hi : i ∈ Region.ready md ops l) : ClV md ops (l.setIfInBounds i true) := by
  intro k o ho hk e he hb
  by_cases ek : k = i
  · subst ek
    obtain ⟨_, o', ho', hall⟩ := mem_ready.1 hi
    rw [ho] at ho'
    cases ho'
    exact getD_set_false (hall e he hb)
  · rw [getD_set_ne false (Ne.symm ek)] at hk
    exact getD_set_false (h k o ho hk e he hb)
theorem waits_un {l : Array Bool} {n i : Nat} (h : ClV md ops l) (hw : waitsB md ops n i = true) (hun : l.getD i false = false) : l.getD n false = false := by
  cases hn : l.getD n false with
  | false => rfl
  | true =>
    unfold waitsB at hw
    cases ho : ops[n]? with
    | none => rw [ho] at hw; cases hw
    | some o =>
      rw [ho] at hw
      simp only at hw
      obtain ⟨e, he, h1⟩ := Array.any_eq_true'.1 hw
      rw [Bool.and_eq_true] at h1
      have := h n o ho hn e he h1.1
      rw [show e.on = i by simpa using h1.2, hun] at this
      cases this
theorem wpV_first {i : Nat} {oi : Oper} {v : Value} {T : World → Prop} (hi : ops[i]? = some oi) (hsel : ∀ (j : Nat) (o : Oper) cs b, ops[j]? = some o → o.op ≠ .select cs b)
    (hQ : ∀ c a w, Q (.panic c) (a.put oi.dst v) w → Q (.panic c) a w) (hSi : ∀ l w, S (l.setIfInBounds i true) w → S l w) (hST : ∀ l w, ClV md ops l → l.getD i false = false → S l w → T w) :
    ∀ (f : Nat) (listed : Array Bool) (a : Act) (w : World), ClV md ops listed →
      (∀ j oj, ops[j]? = some oj → j ≠ i → listed.getD j true = false → (∀ e ∈ oj.after, Region.binds md e = true → e.on ≠ i) → oi.apart ops oj = true) →
      i ∈ Region.ready md ops listed → YieldsIf P ops T oi v a → S (listed.setIfInBounds i true) w →
      wpV P md ops Q S f (listed.setIfInBounds i true) (a.put oi.dst v) w → wpV P md ops Q S (f + 1) listed a w := by
  intro f
  induction f with
  | zero =>
    intro listed a w hcl _ hr hy hS H
    refine ⟨fun h => (by rw [h] at hr; cases hr), fun j hj => ?_⟩
    by_cases hji : j = i
    · subst hji; exact hy.wpOp hi (hST listed w hcl (getD_both (mem_ready.1 hr).1) (hSi _ _ hS)) ⟨hS, H⟩
    · have h1 := ready_mono hj hji
      rw [H.1] at h1
      cases h1
  | succ f ih =>
    intro listed a w hcl hfree hr hy hS H
    have hun := (mem_ready.1 hr).1
    refine ⟨fun h => (by rw [h] at hr; cases hr), fun j hj => ?_⟩
    by_cases hji : j = i
    · subst hji; exact hy.wpOp hi (hST listed w hcl (getD_both hun) (hSi _ _ hS)) ⟨hS, H⟩
    · have h1 := H.2 j (ready_mono hj hji)
      obtain ⟨hjun, oj, hoj, hall⟩ := mem_ready.1 hj
      have hnot : ∀ e ∈ oj.after, Region.binds md e = true → e.on ≠ i := fun e he hb heq => by
        have h1 := hall e he hb
        rw [heq, getD_both hun] at h1
        cases h1
      have h2 := wpOp_putIf hoj (hfree j oj hoj hji hjun hnot) (fun cs b => hsel i oi cs b hi) (fun cs b => hsel j oj cs b hoj) hQ hy h1
      have hfree' : ∀ k ok, ops[k]? = some ok → k ≠ i → (listed.setIfInBounds j true).getD k true = false →
          (∀ e ∈ ok.after, Region.binds md e = true → e.on ≠ i) → oi.apart ops ok = true := fun k ok hk hki hun hno => by
        refine hfree k ok hk hki ?_ hno
        by_cases hjk : j = k
        · subst hjk; exact hjun
        · rw [getD_set_ne true hjk] at hun; exact hun
      have hcomm := Array.setIfInBounds_comm (xs := listed) true true (Ne.symm hji)
      refine wpOp_mono (fun a' w' h3 => ?_) h2
      have h5 : S ((listed.setIfInBounds j true).setIfInBounds i true) w' := by rw [← hcomm]; exact h3.2.1
      refine ⟨hSi _ _ h5, ih (listed.setIfInBounds j true) a' w' (hcl.set hj) hfree' (ready_mono hr (Ne.symm hji)) h3.1 h5 ?_⟩
      rw [← hcomm]
      exact h3.2.2
theorem wpV_take {i : Nat} {oi : Oper} {v : Value} {T : World → Prop} {f : Nat} {listed : Array Bool} {a : Act} {w : World} (hi : ops[i]? = some oi) (hcl : ClV md ops listed)
    (hsel : Region.noSelect ops = true) (hf : Region.free md ops listed i = true) (hr : (Region.ready md ops listed).contains i = true)
    (hQ : ∀ c a w, Q (.panic c) (a.put oi.dst v) w → Q (.panic c) a w) (hSi : ∀ l w, S (l.setIfInBounds i true) w → S l w) (hST : ∀ l w, ClV md ops l → l.getD i false = false → S l w → T w) (hy : YieldsIf P ops T oi v a) (hS : S (listed.setIfInBounds i true) w)
    (h : ClV md ops (listed.setIfInBounds i true) → wpV P md ops Q S f (listed.setIfInBounds i true) (a.put oi.dst v) w) : wpV P md ops Q S (f + 1) listed a w :=
  wpV_first hi (Region.noSelect_spec hsel) hQ hSi hST f listed a w hcl (Region.free_spec hi hf) (by simpa using hr) hy hS (h (hcl.set (by simpa using hr)))
theorem wp_region_V {id : Nat} {a : Act} {w : World} (hm : P.follows .mixedOrders = true)
    (h : ClV .any ops (Array.replicate ops.size false) → wpV P .any ops Q S ops.size (Array.replicate ops.size false) a w.drew) : (Code.region id ops true).wp P Q a w :=
  wp_region_any hm (wpAny_of_V _ _ _ _ (h fun k o _ hk => by
    exfalso
    by_cases hl : k < ops.size
    · simp [Array.getD_eq_getD_getElem?, hl] at hk
    · rw [Array.getD_eq_getD_getElem?, Array.getElem?_eq_none (by simpa using hl)] at hk; cases hk))
def OnV (P : Program) (md : Region.Mode) (ops : Array Oper) (Q : Exit → Act → World → Prop) (S : Array Bool → World → Prop) (f : Nat) (listed : Array Bool) (K : Act → World → Prop) : Prop :=
  ∀ a w, S listed w → wpV P md ops Q S f listed a w → K a w
theorem OnV.out {f : Nat} {listed : Array Bool} {K : Act → World → Prop} (h : OnV P md ops Q S f listed K) (a : Act) (w : World) (hS : S listed w) (hw : wpV P md ops Q S f listed a w) : K a w := h a w hS hw
theorem wpV_one {i : Nat} {o : Oper} {f : Nat} {listed : Array Bool} {a : Act} {w : World} (hr : Region.ready md ops listed = [i]) (ho : ops[i]? = some o)
    (h : ∀ K : Act → World → Prop, OnV P md ops Q S f (listed.setIfInBounds i true) K → if Region.wanted o (yielded ops a.tmps) = true then Oper.wp P o a w K Q else K (a.put o.dst undef) w) : wpV P md ops Q S (f + 1) listed a w := by
  refine ⟨fun h0 => (by rw [hr] at h0; cases h0), fun j hj => ?_⟩
  rw [hr] at hj
  obtain rfl : j = i := by simpa using hj
  exact wpOp_step ho (fun K hK => h K (fun a w hS hW => hK a w ⟨hS, hW⟩))
theorem wpV_done {listed : Array Bool} {a : Act} {w : World} (hr : Region.ready md ops listed = []) (h : Q .normal a w) : ∀ f, wpV P md ops Q S f listed a w
  | 0 => ⟨hr, h⟩
  | _ + 1 => ⟨fun _ => h, by rw [hr]; simp⟩
theorem wpV_inv {J : Nat → Array Bool → Act → World → Prop}
    (hstep : ∀ f l a w, J f l a w → wpV P md ops Q S f l a w ∨ ∃ f', f = f' + 1 ∧ Region.ready md ops l ≠ [] ∧ ∀ i ∈ Region.ready md ops l, ∃ o, ops[i]? = some o ∧ ∀ K : Act → World → Prop, (∀ a' w', S (l.setIfInBounds i true) w' → J f' (l.setIfInBounds i true) a' w' → K a' w') → if Region.wanted o (yielded ops a.tmps) = true then Oper.wp P o a w K Q else K (a.put o.dst undef) w) :
    ∀ f l a w, J f l a w → wpV P md ops Q S f l a w
  | 0, l, a, w, h => by
    rcases hstep 0 l a w h with h | ⟨f', e, _⟩
    · exact h
    · cases e
  | f + 1, l, a, w, h => by
    rcases hstep (f + 1) l a w h with h | ⟨f', e, hne, hall⟩
    · exact h
    · cases e
      refine ⟨fun h0 => absurd h0 hne, fun i hi => ?_⟩
      obtain ⟨o, ho, hs⟩ := hall i hi
      exact wpOp_step ho (fun K hK => hs K (fun a' w' hS hJ => hK a' w' ⟨hS, wpV_inv hstep f _ a' w' hJ⟩))
theorem ne_nil_of {α : Type} {l : List α} (h : l.isEmpty = false) : l ≠ [] := fun e => by rw [e] at h; cases h
theorem ready_of {l : Array Bool} {c : List Nat} {i : Nat} (hi : i ∈ Region.ready md ops l) (hc : (List.range l.size).all (fun j => c.contains j || l.getD j true) = true) : i ∈ c := by
  have hun := (mem_ready.1 hi).1
  by_cases h : i < l.size
  · have h1 := List.all_eq_true.1 hc i (List.mem_range.2 h)
    rw [hun, Bool.or_false] at h1
    simpa using h1
  · rw [Array.getD_eq_getD_getElem?, Array.getElem?_eq_none (by omega)] at hun
    cases hun
theorem ready_has {l : Array Bool} {n i : Nat} (hn : n ∈ Region.ready md ops l) (hw : waitsB md ops n i = true) : l.getD i false = true := by
  cases h : l.getD i false with
  | true => rfl
  | false => exact absurd hn (waits_not hw h)
end
end Go.Proofs.YtfocooehnmpndaaGreat
