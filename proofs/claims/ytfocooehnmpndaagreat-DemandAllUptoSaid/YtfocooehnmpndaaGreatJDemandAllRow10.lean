/- demand.NewTable. The contract of attr.Check. The contracts of gram.Root and of the functions of tree.valid. The contracts of tree.valid, tree.Check and tree.Symbol. The contract of tree.valid. -/
import Derived.Test.YtfocooehnmpndaaGreatJDemandAllRow9
import Derived.Test.YtfocooehnmpndaaGreatJDemandAllRow4
import Derived.Test.YtfocooehnmpndaaGreatJDemandAllRow2
import Derived.Test.YtfocooehnmpndaaGreatJDemandAllRow3
import Derived.Test.YtfocooehnmpndaaGreatJDemandAllRow6
import Derived.Deep.QuietTactic
import Derived.BigQuiet
import Derived.Laws.StructEq
namespace Go.Proofs.YtfocooehnmpndaaGreat
open Go.RowKit
namespace Dm
open At (Ref)
theorem eqsFrom_index {g : Gram} {s : At.Sys} : ∀ {l : List At.Eqn} {k : Nat}, At.eqsFrom g s k l = 0 → ∀ j (h : j < l.length), At.eqErr g s (k + j) l[j] = 0
  | [], _, _, j, h => by simp at h
  | q :: l, k, h, j, hj => by
    rw [At.eqsFrom] at h
    by_cases h0 : At.eqErr g s k q = 0
    · rw [if_neg (by simpa using h0)] at h
      cases j with
      | zero => exact h0
      | succ j =>
        have := eqsFrom_index h j (by simpa using hj)
        rw [show k + (j + 1) = k + 1 + j by omega]
        exact this
    · rw [if_pos h0] at h; exact absurd h h0
theorem eqs_apart {g : Gram} {s : At.Sys} (h : At.checkS g s = 0) {i : Nat} (hi : i < s.eqs.length) : ∀ z ∈ s.eqs.take i, ¬ (z.rule = s.eqs[i].rule ∧ z.to' = s.eqs[i].to') := by
  obtain ⟨_, _, _, he, _⟩ := sys_parts h
  have hj := eqsFrom_index he i hi
  rw [Nat.zero_add] at hj
  unfold At.eqErr at hj
  cases hr : g.rules[s.eqs[i].rule.toNat]? with
  | none => rw [hr] at hj; simp at hj
  | some r =>
    rw [hr] at hj
    simp only at hj
    by_cases h1 : s.eqs[i].rule < 0
    · rw [if_pos h1] at hj; simp at hj
    · rw [if_neg h1] at hj
      by_cases h2 : 30 < s.eqs[i].is'.size
      · rw [if_pos h2] at hj; simp at hj
      · rw [if_neg h2] at hj
        by_cases h3 : At.defs s.attrs r s.eqs[i].to' = false ∨ At.valid s.attrs r s.eqs[i].is' = false
        · rw [if_pos h3] at hj; simp at hj
        · rw [if_neg h3] at hj
          intro z hz hzz
          have h4 : At.had (s.eqs.take i) s.eqs[i].rule s.eqs[i].to' = true := List.any_eq_true.2 ⟨z, hz, by simpa using hzz⟩
          rw [h4] at hj
          simp at hj
theorem okq_all {g : Gram} {s : At.Sys} (h : At.checkS g s = 0) (hal : s.attrs.length ≤ 2000000) {q : At.Eqn} (hq : q ∈ s.eqs) : okQ q := by
  obtain ⟨r, e1, h0, _, hdef, _⟩ := eq_facts h hq
  obtain ⟨hlt, e2⟩ := List.getElem?_eq_some_iff.1 e1
  have hz := checkG_zero (sys_parts h).1
  unfold At.defs at hdef
  rw [Bool.and_eq_true] at hdef
  obtain ⟨a, ha, hal2, k, hk, hkr, -⟩ := there_parts hdef.1
  have hr := (hz.2.2 _ (by rw [← e2]; exact List.getElem_mem hlt : r ∈ g.rules)).2.2.1
  refine ⟨⟨h0, ?_⟩, ⟨by omega, ?_⟩, ⟨by omega, ?_⟩⟩
  · have := hz.2.1; omega
  · omega
  · omega
theorem EqM.monoP {P P' : Nat → Prop} {eb : Nat} {K : List At.Eqn} {w : World} (h : EqM P eb K w) (hP : ∀ k, P k → P' k) : EqM P' eb K w := by
  obtain ⟨D, h1, h2⟩ := h
  refine ⟨D, h1, fun q hq => ?_⟩
  obtain ⟨v, h3, h4⟩ := h2 q hq
  exact ⟨v, h3, h4.mono fun k hk _ => hP k hk⟩
theorem bx_cells8e {w : World} {b : Nat} {x0 x1 x2 x3 x4 x5 x6 x7 : Value} {T : TypeId} (h : w.heap[b]? = some (.cells #[x0, x1, x2, x3, x4, x5, x6, x7] T (0, 0))) :
    w.cell? ⟨b, 0, none⟩ = some x0 ∧ w.cell? ⟨b, 0 + 1, none⟩ = some x1 ∧ w.cell? ⟨b, 0 + 2, none⟩ = some x2 ∧ w.cell? ⟨b, 0 + 3, none⟩ = some x3 ∧ w.cell? ⟨b, 0 + 4, none⟩ = some x4 ∧ w.cell? ⟨b, 0 + 5, none⟩ = some x5 ∧ w.cell? ⟨b, 0 + 6, none⟩ = some x6 ∧ w.cell? ⟨b, 0 + 7, none⟩ = some x7 := by
  refine ⟨?_, ?_, ?_, ?_, ?_, ?_, ?_, ?_⟩ <;> simp [World.cell?, h]
structure EqL (eb : Nat) (w1 : World) (K : List At.Eqn) (wr : World) : Prop where
  eq : EqM (fun k => k < eb) eb K wr
  keep : Keeps (fun k => k = eb) w1 wr
def NewPost (g : Gram) (s : At.Sys) (T : Tree) (W : World) (e : Ending) (w' : World) : Prop :=
  ∃ tb eb vb sb, e = .returned (.pointer (some ⟨tb, 0, none⟩)) ∧ TbS g s (tabT T) tb eb vb sb w' ∧ NumM vb (fun _ => 0) 0 w' ∧ NumM sb (fun _ => 0) 0 w' ∧ Below W.heap.size W w' ∧ W.heap.size ≤ vb ∧ W.heap.size ≤ sb
set_option maxHeartbeats 8000000 in
set_option maxRecDepth 100000 in
theorem newTableE (g : Gram) (s : At.Sys) (T : Tree) (hs : At.checkS g s = 0) (hal : s.attrs.length ≤ 2000000) (hsz : tsz T ≤ 1000000) (ra aa qa : Option Addr) (rc ac qc : Nat) (v : Value) (W : World)
    (hr : Rd AnyB W (.sl (g.rules.map Rule.d)) [.slice ra g.rules.length rc]) (ha : Rd AnyB W (.sl (s.attrs.map At.Attr.d)) [.slice aa s.attrs.length ac]) (hq : Rd AnyB W (.sl (s.eqs.map At.Eqn.d)) [.slice qa s.eqs.length qc]) (ht : Rd AnyB W (.sl (T.kids.map Tree.d)) [v]) :
    Calls Tryz.prog 26 #[.agg #[.int .i64 g.terms, .int .i64 g.nons, .int .i64 g.start, .slice ra g.rules.length rc], .agg #[.slice aa s.attrs.length ac, .slice qa s.eqs.length qc], .agg #[.int .i64 T.rule, .int .i64 T.term, v]] W (NewPost g s T W) := by
  obtain ⟨av, nk, cv, rfl⟩ := treeBox ht
  obtain ⟨PST, HP⟩ := nameIt (NewPost g s T W)
  have HPN := HP
  rw [HP.out]
  clear HP
  have HR := Lib.hid hr
  have HA := Lib.hid ha
  have HQ := Lib.hid hq
  have HT := Lib.hid ht
  have HEQS := Lib.hid (fun (i : Nat) (hi : i < s.eqs.length) => eqs_apart hs hi)
  have HOKQ := Lib.hid (fun (q : At.Eqn) (hq : q ∈ s.eqs) => okq_all hs hal hq)
  have HSZ := Lib.hid hsz
  have HQL : Hid (s.eqs.length ≤ 200) := (sys_parts hs).2.2.1
  obtain ⟨hq1, hq2⟩ := hq.bounds.2
  unfold maxLen at hq2
  obtain ⟨rl, HRL⟩ := nameIt g.rules.length
  obtain ⟨al, HAL⟩ := nameIt s.attrs.length
  obtain ⟨ql, HQLn⟩ := nameIt s.eqs.length
  obtain ⟨gt, HGT⟩ := nameIt g.terms
  obtain ⟨gn, HGN⟩ := nameIt g.nons
  obtain ⟨gs, HGS⟩ := nameIt g.start
  obtain ⟨tr, HTR⟩ := nameIt T.rule
  obtain ⟨tm, HTM⟩ := nameIt T.term
  rw [HRL.out, HAL.out, HQLn.out, HGT.out, HGN.out, HGS.out, HTR.out, HTM.out]
  rw [HQLn.out] at hq1
  obtain ⟨w0, HW0⟩ := nameIt (((W.alloc (.cells #[.int .i64 gt, .int .i64 gn, .int .i64 gs, .slice ra rl rc] 24)).alloc (.cells #[.slice aa al ac, .slice qa ql qc] 28)).alloc (.cells #[.int .i64 tr, .int .i64 tm, .slice av nk cv] 31))
  have b1 : Below W.heap.size W (W.alloc (.cells #[.int .i64 gt, .int .i64 gn, .int .i64 gs, .slice ra rl rc] 24)) := (Below.refl _ _).alloc (Nat.le_refl _) _
  have b2 := b1.alloc (by simp) (.cells #[.slice aa al ac, .slice qa ql qc] 28)
  have hb0 : Below W.heap.size W w0 := by rw [← HW0.out]; exact b2.alloc (by simp; omega) _
  have X0 : Hid (w0.heap[W.heap.size]? = some (.cells #[.int .i64 gt, .int .i64 gn, .int .i64 gs, .slice ra rl rc] 24 (0, 0))) := by
    rw [← HW0.out]; exact bx_keep (bx_keep (bx_new _ _ _ rfl) ((Below.refl _ _).alloc (Nat.le_refl _) _)) ((Below.refl _ _).alloc (Nat.le_refl _) _)
  have X1 : Hid (w0.heap[W.heap.size + 1]? = some (.cells #[.slice aa al ac, .slice qa ql qc] 28 (0, 0))) := by
    rw [← HW0.out]; exact bx_keep (bx_new _ _ _ (by simp)) ((Below.refl _ _).alloc (Nat.le_refl _) _)
  have X2 : Hid (w0.heap[W.heap.size + 1 + 1]? = some (.cells #[.int .i64 tr, .int .i64 tm, .slice av nk cv] 31 (0, 0))) := by
    rw [← HW0.out]; exact bx_new _ _ _ (by simp)
  have HB0 := Lib.hid hb0
  clear b1 b2 hb0 hr ha hq ht hs hal hsz
  have hmk1 : ∀ W : World, (Instr.makeMap 128 none).run Tryz.prog W = .ok (.map (some W.heap.size)) (W.alloc (.map #[] 0)) := fun W => by
    simp [Instr.makeMap, run_underlying Tryz.underlying128]; try rfl
  have hmk2 : ∀ W : World, (Instr.makeMap 129 none).run Tryz.prog W = .ok (.map (some W.heap.size)) (W.alloc (.map #[] 0)) := fun W => by
    simp [Instr.makeMap, run_underlying Tryz.underlying129]; try rfl
  obtain ⟨x0, x1, x2, x3⟩ := bx_cells4 X0.out
  obtain ⟨y0, y1⟩ := bx_cells2 X1.out
  go_enter Tryz.func26, Tryz.ntmps26
  go_upto_region 1 with fail
  rw [HW0.out]
  clear HW0
  go_upto_region 2 with fail
  obtain ⟨eb, HEB⟩ := nameIt w0.heap.size
  have HWE : Hid (W.heap.size + 2 < eb) := by show _ < _; rw [← HEB.out]; exact (Array.getElem?_eq_some_iff.1 X2.out).1
  obtain ⟨w1, HW1⟩ := nameIt (((((w0.alloc (.map #[] 0)).alloc (.map #[] 0)).alloc (.map #[] 0)).alloc (.cells #[.int .i64 gt, .int .i64 gn, .int .i64 gs, .slice ra rl rc, .slice aa al ac, .slice qa ql qc, .slice none 0 0, .map (some w0.heap.size), .map (some (w0.heap.size + 1)), .map (some (w0.heap.size + 1 + 1))] 132)).alloc (.cells #[.pointer (some ⟨w0.heap.size + 1 + 1 + 1, 0, none⟩)] 75))
  have HB1 : Hid (Below w0.heap.size w0 w1) := by
    show Below _ _ _
    rw [← HW1.out]
    exact (((((Below.refl _ _).alloc (Nat.le_refl _) _).alloc (by simp) _).alloc (by simp; omega) _).alloc (by simp; omega) _).alloc (by simp; omega) _
  have ba : ∀ (w : World) (o : Obj), Below w.heap.size w (w.alloc o) := fun w o => (Below.refl _ _).alloc (Nat.le_refl _) _
  have hE0 : EqM (fun k => k < eb) eb [] w1 := by
    rw [← HW1.out]
    have h1 : EqM (fun k => k < eb) eb [] (w0.alloc (.map #[] 0)) := EqM.start _ _ HEB.out.symm
    have hk : ∀ {wa wb : World}, EqM (fun k => k < eb) eb [] wa → Below wa.heap.size wa wb → EqM (fun k => k < eb) eb [] wb := fun h hb => h.keeps (S := fun _ => False) (Below.keeps hb) id (fun _ _ => id)
    exact hk (hk (hk (hk h1 (ba _ _)) (ba _ _)) (ba _ _)) (ba _ _)
  have HN1 : Hid (NumM (eb + 1) (fun _ => 0) 0 w1) := by
    show NumM _ _ _ _
    rw [← HW1.out]
    exact (((NumM.start (w0.alloc (.map #[] 0)) (by simp [HEB.out])).keep (ba _ _)).keep (ba _ _)).keep (ba _ _)
  have HN2 : Hid (NumM (eb + 1 + 1) (fun _ => 0) 0 w1) := by
    show NumM _ _ _ _
    rw [← HW1.out]
    exact ((NumM.start ((w0.alloc (.map #[] 0)).alloc (.map #[] 0)) (by simp [HEB.out])).keep (ba _ _)).keep (ba _ _)
  have X3 : Hid (w1.heap[eb + 1 + 1 + 1]? = some (.cells #[.int .i64 gt, .int .i64 gn, .int .i64 gs, .slice ra rl rc, .slice aa al ac, .slice qa ql qc, .slice none 0 0, .map (some eb), .map (some (eb + 1)), .map (some (eb + 1 + 1))] 132 (0, 0))) := by
    show _ = _
    rw [← HW1.out, ← HEB.out]
    exact bx_keep (bx_new _ _ _ (by simp)) (ba _ _)
  have X4 : Hid (w1.heap[eb + 1 + 1 + 1 + 1]? = some (.cells #[.pointer (some ⟨eb + 1 + 1 + 1, 0, none⟩)] 75 (0, 0))) := by
    show _ = _
    rw [← HW1.out, ← HEB.out]
    exact bx_new _ _ _ (by simp)
  rw [HW1.out]
  simp only [HEB.out]
  rw [HEB.out] at HB1
  have HBW1 : Hid (Below W.heap.size W w1) := HB0.out.trans (HB1.out.mono (Nat.le_of_lt (Nat.lt_of_le_of_lt (Nat.le_add_right _ _) HWE.out)))
  have HSZ1 : Hid (eb + 1 + 1 + 1 + 1 < w1.heap.size) := (Array.getElem?_eq_some_iff.1 X4.out).1
  have HQ1 : Hid (Rd (fun k => k < eb) w1 (.sl (s.eqs.map At.Eqn.d)) [.slice qa s.eqs.length qc]) := HQ.out.keep (fun k _ hl => ⟨by have := HWE.out; omega, HBW1.out.block k hl⟩)
  rw [HQLn.out] at HQ1
  have HI0 : Hid (EqL eb w1 (s.eqs.take 0) w1) := ⟨hE0, Below.keeps (Below.refl _ _)⟩
  have z0 : w1.cell? ⟨W.heap.size + 1, 0, none⟩ = some (.slice aa al ac) := by have := (bx_cells2 (bx_keep X1.out (HB1.out.mono (Nat.le_of_eq HEB.out)))).1; exact this
  have z1 : w1.cell? ⟨W.heap.size + 1, 0 + 1, none⟩ = some (.slice qa ql qc) := (bx_cells2 (bx_keep X1.out (HB1.out.mono (Nat.le_of_eq HEB.out)))).2
  clear x0 x1 x2 x3 y0 y1 hE0 HW1 ba hmk1 hmk2
  go_wp2_with fail
  clear z0 z1
  go_loopg [9, 21] ql (fun gg v9 v21 wr => ∃ i : Nat, i ≤ ql ∧ ql - i ≤ gg ∧ v21 = .int .i64 i ∧ Hid (EqL eb w1 (s.eqs.take i) wr))
  case atStart => exact ⟨0, by omega, by omega, rfl, HI0⟩
  case round =>
    obtain ⟨i, hi, hg, rfl, HI⟩ := hrel
    clear HI0
    by_cases hlt : i < ql
    · have hlt' : (i : Int) < (ql : Int) := by omega
      have hic : (i : Int) ≤ (qc : Int) := by omega
      have hil : i < s.eqs.length := by rw [HQLn.out]; exact hlt
      have HQR : Hid (Rd (fun k => k < eb) wr (.sl (s.eqs.map At.Eqn.d)) [.slice qa ql qc]) := HQ1.out.keep (fun k hk hl => ⟨hk, HI.out.keep.block k hl (by show ¬ k = eb; omega)⟩)
      obtain ⟨b, off, ve, hae, -, hbl, e0, e1, e2, e3, e4, e5, e6, e7, hargs⟩ := At.Rd.eqn_at HQR.out hil
      obtain ⟨va, vl, vc, rfl⟩ : ∃ x y z, ve = .slice x y z := (by obtain ⟨x, y, e, -, -⟩ := hargs.form; exact ⟨_, _, _, e⟩)
      have HTK : Hid (s.eqs.take (i + 1) = s.eqs.take i ++ [s.eqs[i]]) := List.take_succ_eq_append_getElem hil
      have HAP := Lib.hid (HEQS.out i hil)
      have HOK := Lib.hid (HOKQ.out _ (List.getElem_mem hil))
      have HOKT : Hid (∀ z ∈ s.eqs.take i, okQ z) := fun z hz => HOKQ.out z (List.mem_of_mem_take hz)
      have HTL : Hid ((s.eqs.take i).length ≤ 1000000) := by show _ ≤ _; have := HQL.out; rw [List.length_take]; omega
      obtain ⟨q, HQn⟩ := nameIt (s.eqs[i]'hil)
      rw [HQn.out] at e0 e1 e2 e3 e4 e5 e6 hargs HTK HAP HOK
      have HARG := Lib.hid hargs
      obtain ⟨n0, HN_0⟩ := nameIt q.rule
      obtain ⟨n1, HN_1⟩ := nameIt q.to'.at'
      obtain ⟨n2, HN_2⟩ := nameIt q.to'.attr
      obtain ⟨n3, HN_3⟩ := nameIt q.is'.kind
      obtain ⟨n4, HN_4⟩ := nameIt q.is'.n
      obtain ⟨n5, HN_5⟩ := nameIt q.is'.ref.at'
      obtain ⟨n6, HN_6⟩ := nameIt q.is'.ref.attr
      rw [HN_0.out] at e0
      rw [HN_1.out] at e1
      rw [HN_2.out] at e2
      rw [HN_3.out] at e3
      rw [HN_4.out] at e4
      rw [HN_5.out] at e5
      rw [HN_6.out] at e6
      obtain ⟨w2, HW2⟩ := nameIt (wr.alloc (.cells #[.int .i64 n0, .int .i64 n1, .int .i64 n2, .int .i64 n3, .int .i64 n4, .int .i64 n5, .int .i64 n6, .slice va vl vc] 90))
      have HB2 : Hid (Below wr.heap.size wr w2) := by show Below _ _ _; rw [← HW2.out]; exact (Below.refl _ _).alloc (Nat.le_refl _) _
      have X5 : Hid (w2.heap[wr.heap.size]? = some (.cells #[.int .i64 n0, .int .i64 n1, .int .i64 n2, .int .i64 n3, .int .i64 n4, .int .i64 n5, .int .i64 n6, .slice va vl vc] 90 (0, 0))) := by show _ = _; rw [← HW2.out]; exact bx_new _ _ _ rfl
      have HK2 : Hid (Keeps (fun k => k = eb) w1 w2) := Keeps.more HI.out.keep (Below.keeps HB2.out)
      obtain ⟨x0, x1, x2, x3, x4, x5, x6, x7, x8, x9⟩ := bx_cells10 (HK2.out.cells X3.out (by show ¬ _ = eb; omega))
      have ax7 := aft_cell x7
      have ay0 := aft_cell (bx_cells1 (HK2.out.cells X4.out (by show ¬ _ = eb; omega)))
      obtain ⟨f0, f1, f2, f3, f4, f5, f6, f7⟩ := bx_cells8e X5.out
      have af0 := aft_cell f0
      have af1 := aft_cell f1
      have af2 := aft_cell f2
      have af3 := aft_cell f3
      have af4 := aft_cell f4
      have af5 := aft_cell f5
      have af6 := aft_cell f6
      have af7 := aft_cell f7
      subst hae
      clear x0 x1 x2 x3 x4 x5 x6 x7 x8 x9 f0 f1 f2 f3 f4 f5 f6 f7
      go_upto_region 5 with fail
      rw [HW2.out]
      clear HW2 e0 e1 e2 e3 e4 e5 e6 e7 hargs
      refine wp_region_after_tail (w0 := w2) 11 (by kernel_rfl) (by kernel_rfl) ?_
      simp only [List.take_succ_cons, List.take_zero, List.drop_succ_cons, List.drop_zero]
      repeat (go_big_quiet_step (fail))
      refine wpQuiet_nil ?_
      rintro w3 ⟨⟨_, hb3⟩, rfl⟩
      have HE3 : Hid (EqM (fun k => k < eb) eb (s.eqs.take i) w3) := (HI.out.eq.keeps (S := fun _ => False) (Below.keeps (HB2.out.trans (hb3.mono HB2.out.size))) id (fun _ _ => id))
      have HARG3 : Hid (Rd (fun k => k < eb) w3 (.sl (q.is'.args.map At.Expr.d)) [.slice va vl vc]) := (HARG.out.below HB2.out).below hb3
      obtain ⟨w4, hrun, hE4, hg4⟩ := HE3.out.store HOK.out HOKT.out HAP.out HTL.out (Nat.lt_irrefl _) HARG3.out
      have HI4 : Hid (EqL eb w1 (s.eqs.take (i + 1)) w4) := by
        rw [HTK.out]
        exact ⟨hE4, Keeps.more HK2.out (Keeps.more (Below.keeps hb3) (keeps_grown hg4 rfl))⟩
      simp only [HN_0.out, HN_1.out, HN_2.out, HN_3.out, HN_4.out, HN_5.out, HN_6.out] at hrun
      clear hb3 hE4 hg4 ax7 ay0 af0 af1 af2 af3 af4 af5 af6 af7
      go_wp2_with fail
      go_roundg (ql - (i + 1))
      case measure => omega
      case rel => exact ⟨i + 1, by omega, by omega, by go_num, HI4⟩
    · have hend : i = ql := by omega
      have hlt' : ¬ (i : Int) < (ql : Int) := by omega
      have HEQ : Hid (EqM (fun k => k < eb) eb s.eqs wr) := by
        have h := HI.out.eq
        rw [hend, ← HQLn.out, List.take_length] at h
        exact h
      have HKR := Lib.hid HI.out.keep
      have hwr : eb + 1 + 1 + 1 + 1 < wr.heap.size := Nat.lt_of_lt_of_le HSZ1.out HKR.out.size
      obtain ⟨fb, HFB⟩ := nameIt wr.heap.size
      obtain ⟨w5, HW5⟩ := nameIt (wr.alloc (.cells #[.func (.func 62) #[] #[.pointer (some ⟨eb + 1 + 1 + 1 + 1, 0, none⟩), .pointer (some ⟨wr.heap.size, 0, none⟩)]] 135))
      have HB5 : Hid (Below wr.heap.size wr w5) := by show Below _ _ _; rw [← HW5.out]; exact (Below.refl _ _).alloc (Nat.le_refl _) _
      have X5 : Hid (w5.heap[wr.heap.size]? = some (.cells #[.func (.func 62) #[] #[.pointer (some ⟨eb + 1 + 1 + 1 + 1, 0, none⟩), .pointer (some ⟨wr.heap.size, 0, none⟩)]] 135 (0, 0))) := by show _ = _; rw [← HW5.out]; exact bx_new _ _ _ rfl
      have HK5 : Hid (Keeps (fun k => k = eb) w1 w5) := Keeps.more HKR.out (Below.keeps HB5.out)
      have HT5 := Lib.hid (HK5.out.cells X3.out (by show ¬ _ = eb; omega))
      have HX5 := Lib.hid (HK5.out.cells X4.out (by show ¬ _ = eb; omega))
      have h5s : wr.heap.size < w5.heap.size := (Array.getElem?_eq_some_iff.1 X5.out).1
      have HKW : Hid (Keeps (fun k => W.heap.size ≤ k) W w5) := Keeps.trans (Below.keeps HBW1.out) HK5.out (fun k hk => .inl (by have := HWE.out; show W.heap.size ≤ k; omega))
      have HBS : Hid (eb + 1 + 1 + 1 + 1 < w5.heap.size) := Nat.lt_trans hwr h5s
      obtain ⟨B, HBn⟩ := nameIt w5.heap.size
      rw [HBn.out] at HBS
      obtain ⟨hd, HHD⟩ := nameIt (Hd.mk (.int .i64 gt) (.int .i64 gn) (.int .i64 gs) (.slice ra rl rc) (.slice aa al ac) (.slice qa ql qc) (.map (some eb)) (.map (some (eb + 1))) (.map (some (eb + 1 + 1))))
      have HNB : Hid (NB B (eb + 1 + 1 + 1) hd [] (.slice none 0 0) (fun _ => .slice none 0 0) w5) := by
        refine ⟨?_, World.ownsRow_nil _ _ _ _, fun k hk => by simp at hk, fun k k' hk => by simp at hk, by rw [← HBn.out]; omega, by rw [HBn.out]; exact Nat.le_refl _⟩
        rw [← HHD.out]
        exact HT5.out
      have HTK : Hid (Rd (fun k => k < B ∧ k ≠ eb + 1 + 1 + 1) w5 (.sl (T.kids.map Tree.d)) [.slice av nk cv]) := by
        refine HT.out.keep (fun k _ hl => ⟨⟨?_, ?_⟩, HKW.out.block k hl (by show ¬ W.heap.size ≤ k; omega)⟩)
        · have := HKW.out.size; rw [HBn.out] at this; omega
        · have := HWE.out; omega
      have HVIS := Lib.hid (visitE B (eb + 1 + 1 + 1) (eb + 1 + 1 + 1 + 1) wr.heap.size hd (by rw [← HBn.out]; omega) (by rw [← HBn.out]; exact h5s) (by omega) (by omega) (tsz T) T (-1) 0 (.slice av nk cv) [] _ _ w5 (Nat.le_refl _) (by simpa using HSZ.out) HNB.out (.inl rfl) HTK.out HX5.out X5.out)
      rw [addK_neg, List.nil_append, List.length_nil, HTR.out, HTM.out, HFB.out] at HVIS
      rw [HFB.out] at X5 HW5 h5s
      have y0 := bx_cells1 X5.out
      have hX2 : w5.heap[W.heap.size + 1 + 1]? = some (.cells #[.int .i64 tr, .int .i64 tm, .slice av nk cv] 31 (0, 0)) := HK5.out.cells (bx_keep X2.out (HB1.out.mono (Nat.le_of_eq HEB.out))) (by have := HWE.out; show ¬ _ = eb; omega)
      obtain ⟨z0, z1, z2⟩ := bx_cells3 hX2
      go_upto_region 9 with fail
      simp only [HFB.out]
      rw [HW5.out]
      clear HW5 hX2
      go_wp2_with (refine HVIS.out.mono ?_)
      rintro e6 w6 ⟨rfl, hV6⟩
      obtain ⟨vs6, val6, hN6, hS6⟩ := hV6.ex
      obtain ⟨sa, sc, hvs, -, -⟩ := own_len hN6.row
      subst hvs
      have hS6o : ∀ k, ¬ k = eb + 1 + 1 + 1 → ¬ OwN (eb + 1 + 1 + 1) (.slice none 0 0) ([] : List Nd).length (fun _ => .slice none 0 0) k := fun k hk h => by
        rcases h with h | h | ⟨i, hi, -⟩
        · exact hk h
        · cases h
        · simp at hi
      have HK6 : Hid (Keeps (fun k => k = eb + 1 + 1 + 1) w5 w6) := ⟨hS6.os, hS6.tape, hS6.output, hS6.size, fun k hk hn => hS6.same k hk (hS6o k hn)⟩
      have HX6 := Lib.hid (HK6.out.cells HX5.out (by show ¬ _ = eb + 1 + 1 + 1; omega))
      have HE : Hid (∀ wz, wz = w6 → PST (.returned (.pointer (some ⟨eb + 1 + 1 + 1, 0, none⟩))) wz) := fun wz hz => by
        rw [hz, ← HPN.out]
        have hBs : eb + 1 + 1 + 1 + 1 < B := HBS.out
        have hkw6 : Keeps (fun k => W.heap.size ≤ k) W w6 := Keeps.trans HKW.out HK6.out (fun k hk => .inl (by have := HWE.out; show W.heap.size ≤ k; omega))
        have hrd : ∀ {d : D} {cs : List Value}, Rd AnyB W d cs → Rd (PT (eb + 1) (eb + 1 + 1)) w6 d cs := fun h => h.keep (fun k _ hl => ⟨by have := HWE.out; unfold PT; omega, hkw6.block k hl (by show ¬ W.heap.size ≤ k; omega)⟩)
        refine ⟨eb + 1 + 1 + 1, eb, eb + 1, eb + 1 + 1, rfl, ⟨?_, ?_, by omega⟩, ?_, ?_, Keeps.below hkw6 (fun k h => h) (Nat.le_refl _), by have := HWE.out; omega, by have := HWE.out; omega⟩
        · refine ⟨ra, rc, aa, ac, qa, ql, qc, sa, sc, ?_, hrd HR.out, hrd HA.out, ?_⟩
          · have h := hN6.hdr
            rw [← HHD.out] at h
            rw [HRL.out, HAL.out, HGT.out, HGN.out, HGS.out]
            exact h
          · exact hN6.rd.mono fun k hk _ => by unfold PT; omega
        · refine EqM.monoP ((HEQ.out.keeps (S := fun _ => False) (Below.keeps HB5.out) id (fun _ _ => id)).keeps HK6.out (by show ¬ _ = eb + 1 + 1 + 1; omega) (fun k hk => by show ¬ k = eb + 1 + 1 + 1; omega)) (fun k hk => by unfold PT; omega)
        · exact (HN1.out.keeps HK5.out (by show ¬ _ = eb; omega)).keeps HK6.out (by show ¬ _ = eb + 1 + 1 + 1; omega)
        · exact (HN2.out.keeps HK5.out (by show ¬ _ = eb; omega)).keeps HK6.out (by show ¬ _ = eb + 1 + 1 + 1; omega)
      have y1 := bx_cells1 HX6.out
      have HEF := Lib.hid (HE.out w6 rfl)
      clear hN6 hS6 hV6 hS6o y0 z0 z1 z2 HVIS
      go_wp2_with fail
      exact HEF.out
end Dm
end Go.Proofs.YtfocooehnmpndaaGreat
namespace Go.Proofs.YtfocooehnmpndaaGreat
open Go.RowKit
namespace At
theorem nn_true : ∀ {a b : Bool}, (!a || !b) = true → a = false ∨ b = false := by decide
theorem nn_false : ∀ {a b : Bool}, (!a || !b) = false → ¬ (a = false ∨ b = false) := by decide
set_option maxHeartbeats 8000000 in
set_option maxRecDepth 100000 in
theorem attrCheckE (g : Gram) (s : Sys) (ar aa ae : Option Addr) (cr ca ce : Nat) (w : World) (hok : ∀ q ∈ s.eqs, okEqK q) (hR : Rd AnyB w (.sl (g.rules.map Rule.d)) [.slice ar g.rules.length cr]) (hA : Rd AnyB w (.sl (s.attrs.map Attr.d)) [.slice aa s.attrs.length ca]) (hE : Rd AnyB w (.sl (s.eqs.map Eqn.d)) [.slice ae s.eqs.length ce]) :
    Calls Tryz.prog 59 #[.agg #[.int .i64 g.terms, .int .i64 g.nons, .int .i64 g.start, .slice ar g.rules.length cr], .agg #[.slice aa s.attrs.length ca, .slice ae s.eqs.length ce]] w (fun e w' => e = .returned (.int .i64 (checkS g s)) ∧ Below w.heap.size w w') := by
  have hr1 := hR.bounds.2
  have ha1 := hA.bounds.2
  have he1 := hE.bounds.2
  unfold maxLen at hr1 ha1 he1
  obtain ⟨hr1, hr2⟩ := hr1
  obtain ⟨ha1, ha2⟩ := ha1
  obtain ⟨he1, he2⟩ := he1
  obtain ⟨w0, HW0⟩ := nameIt ((w.alloc (.cells #[.int .i64 g.terms, .int .i64 g.nons, .int .i64 g.start, .slice ar g.rules.length cr] 24)).alloc (.cells #[.slice aa s.attrs.length ca, .slice ae s.eqs.length ce] 28))
  have HB0 : Hid (Below w.heap.size w w0) := by rw [← HW0.out]; exact ((Below.refl _ _).alloc (Nat.le_refl _) _).alloc (by simp) _
  have X1 : Hid (w0.heap[w.heap.size]? = some (.cells #[.int .i64 g.terms, .int .i64 g.nons, .int .i64 g.start, .slice ar g.rules.length cr] 24 (0, 0))) := by
    rw [← HW0.out]; exact bx_keep (bx_new _ _ _ rfl) ((Below.refl _ _).alloc (Nat.le_refl _) _)
  have X2 : Hid (w0.heap[w.heap.size + 1]? = some (.cells #[.slice aa s.attrs.length ca, .slice ae s.eqs.length ce] 28 (0, 0))) := by
    rw [← HW0.out]; exact bx_new _ _ _ (by simp)
  have HR := Lib.hid hR
  have HA := Lib.hid hA
  have HE := Lib.hid hE
  have HOK := Lib.hid hok
  have HSG := Lib.hid (@checkS_g g s)
  have HSS := Lib.hid (@checkS_sys g s)
  have HSA := Lib.hid (@sysErr_a g s)
  have HSL := Lib.hid (@sysErr_l g s)
  have HSE := Lib.hid (@sysErr_e g s)
  have HSN := Lib.hid (@sysErr_n g s)
  have HSZ := Lib.hid (@sysErr_z g s)
  have HZG := Lib.hid (@checkG_zero g)
  have HCE := Lib.hid (checkE g ar cr w0 (hR.below HB0.out))
  have HAE := Lib.hid (fun (W : World) (hb : Below w.heap.size w W) (hn : 1 ≤ g.nons ∧ g.nons ≤ 10) => attrsE g s.attrs hn ar aa ae g.rules.length cr ca s.eqs.length ce W (hA.below hb))
  have HDE := Lib.hid (fun (r : Rule) (x : Ref) (av : Option Addr) (cv : Nat) (W : World) (hb : Below w.heap.size w W) (h : Rd AnyB W (.sl (r.right.map Sym.d)) [.slice av r.right.length cv]) => definesE s.attrs r x aa ae av ca s.eqs.length ce cv W (hA.below hb) h)
  have HVE := Lib.hid (fun (r : Rule) (x : Expr) (v : Value) (av : Option Addr) (cv : Nat) (W : World) (hb : Below w.heap.size w W) (h : Rd AnyB W (.sl (r.right.map Sym.d)) [.slice av r.right.length cv]) (h2 : Rd AnyB W (.sl (x.args.map Expr.d)) [v]) => validE s.attrs r aa ae av ca s.eqs.length ce cv x.size x v W (Nat.le_refl _) (hA.below hb) h h2)
  have HSI := Lib.hid (fun (x : Expr) (v : Value) (W : World) (h : Rd AnyB W (.sl (x.args.map Expr.d)) [v]) => sizeE x.size x v W (Nat.le_refl _) h)
  obtain ⟨cs, HCS⟩ := nameIt (checkS g s)
  obtain ⟨cg, HCG⟩ := nameIt (checkG g)
  obtain ⟨ss, HSSS⟩ := nameIt (sysErr g s)
  obtain ⟨ass, HAS⟩ := nameIt (attrsErr g s.attrs)
  obtain ⟨tm, HTM⟩ := nameIt g.terms
  obtain ⟨no, HNO⟩ := nameIt g.nons
  obtain ⟨st, HST⟩ := nameIt g.start
  obtain ⟨m, HM⟩ := nameIt g.rules.length
  obtain ⟨al, HAL⟩ := nameIt s.attrs.length
  obtain ⟨n, HN⟩ := nameIt s.eqs.length
  have HM' := Lib.hid HM.out
  have HN' := Lib.hid HN.out
  have HAL' := Lib.hid HAL.out
  rw [HCS.out, HCG.out] at HSG
  rw [HCS.out, HCG.out, HSSS.out] at HSS
  rw [HSSS.out, HAS.out] at HSA
  rw [HSSS.out, HAS.out, HN.out] at HSL
  rw [HSSS.out, HAS.out, HN.out] at HSE
  rw [HSSS.out, HAS.out, HN.out] at HSN
  rw [HSSS.out, HAS.out, HN.out] at HSZ
  rw [HCG.out] at HZG
  rw [HTM.out, HNO.out, HST.out, HM.out, HCG.out] at HCE
  simp only [HTM.out, HNO.out, HST.out, HM.out, HAL.out, HN.out, HAS.out] at HAE
  simp only [HAL.out, HN.out] at HDE HVE
  rw [HTM.out, HNO.out, HST.out, HM.out, HAL.out, HN.out] at HW0
  rw [HTM.out, HNO.out, HST.out, HM.out] at X1
  rw [HAL.out, HN.out] at X2
  rw [HM.out] at HR hr1
  rw [HAL.out] at HA ha1
  rw [HN.out] at HE he1
  rw [HTM.out, HNO.out, HST.out, HM.out, HAL.out, HN.out, HCS.out]
  have hmk : ∀ W : World, (Instr.makeMap 172 none).run Tryz.prog W = .ok (.map (some W.heap.size)) (W.alloc (.map #[] 0)) := fun W => by
    simp [Instr.makeMap, run_underlying Tryz.underlying172]; try rfl
  obtain ⟨x0, x1, x2, x3⟩ := bx_cells4 X1.out
  obtain ⟨y0, y1⟩ := bx_cells2 X2.out
  clear hR hA hE hok
  go_enter Tryz.func59, Tryz.ntmps59
  go_upto_region 1 with fail
  rw [HW0.out]
  go_wp2_with fail
  refine HCE.out.mono ?_
  rintro e w1 ⟨rfl, hb1⟩
  have HB1 : Hid (Below w.heap.size w w1) := HB0.out.trans (hb1.mono HB0.out.size)
  have Y1 := Lib.hid (bx_keep X1.out hb1)
  have Y2 := Lib.hid (bx_keep X2.out hb1)
  clear x0 x1 x2 x3 y0 y1 hb1
  by_cases hz : cg = 0
  · have HZ := Lib.hid (HZG.out hz)
    have HZS := Lib.hid (HSS.out hz)
    subst hz
    obtain ⟨k0, k1, k2, k3⟩ := bx_cells4 Y1.out
    obtain ⟨l0, l1⟩ := bx_cells2 Y2.out
    go_upto_region 4 with fail
    go_wp2_with fail
    refine (HAE.out w1 HB1.out ⟨HNO.out ▸ HZ.out.1.2.2.1, HNO.out ▸ HZ.out.1.2.2.2.1⟩).mono ?_
    rintro e w2 ⟨rfl, hb2⟩
    have HB2 : Hid (Below w.heap.size w w2) := HB1.out.trans (hb2.mono HB1.out.size)
    have Z1 := Lib.hid (bx_keep Y1.out hb2)
    have Z2 := Lib.hid (bx_keep Y2.out hb2)
    clear k0 k1 k2 k3 l0 l1 hb2
    by_cases ha : ass = 0
    · have HASS := HAS
      subst ha
      obtain ⟨k0, k1, k2, k3⟩ := bx_cells4 Z1.out
      obtain ⟨l0, l1⟩ := bx_cells2 Z2.out
      by_cases hbig : 200 < n
      · have hbig' : (200 : Int) < (n : Int) := by omega
        have HF : Hid (cs = 2) := by show _ = _; rw [HZS.out]; exact HSL.out (by simp) hbig
        go_wp2_with fail
        go_ret
        exact ⟨by rw [HF.out]; rfl, HB2.out⟩
      · have hbig' : ¬ (200 : Int) < (n : Int) := by omega
        have HNB := Lib.hid hbig
        obtain ⟨mb, HMB⟩ := nameIt w2.heap.size
        obtain ⟨w3, HW3⟩ := nameIt (w2.alloc (.map #[] 0))
        have HI0 : Hid (CkI w mb #[.int .i64 tm, .int .i64 no, .int .i64 st, .slice ar m cr] #[.slice aa al ca, .slice ae n ce] (s.eqs.take 0) w3) := by
          have hb : Below w2.heap.size w2 w3 := by rw [← HW3.out]; exact (Below.refl _ _).alloc (Nat.le_refl _) _
          refine ⟨bx_keep Z1.out hb, bx_keep Z2.out hb, ⟨0, ?_, by simp⟩, HB2.out.trans (hb.mono HB2.out.size), ?_⟩
          · rw [← HW3.out]; exact SetM.start Tryz.prog 177 4 w2 HMB.out.symm (fun l => rfl)
          · rw [← HMB.out]; exact (Array.getElem?_eq_some_iff.1 Z2.out).1
        have HER0 : Hid (eqsFrom g s 0 s.eqs = eqsFrom g s 0 (s.eqs.drop 0)) := rfl
        have HEA := Lib.hid (fun (i : Nat) (h : i < s.eqs.length) => @eqsFrom_at g s i h)
        obtain ⟨er, HER⟩ := nameIt (eqsFrom g s 0 s.eqs)
        rw [HER.out] at HER0 HSE HSN HSZ
        go_upto_region 10 with fail
        rw [HMB.out, HW3.out]
        clear k0 k1 k2 k3 l0 l1 hmk
        obtain ⟨k0, k1, k2, k3⟩ := bx_cells4 HI0.out.b1
        obtain ⟨l0, l1⟩ := bx_cells2 HI0.out.b2
        go_wp2_with fail
        clear k0 k1 k2 k3 l0 l1
        go_loopg [34] n (fun gg v34 wr => ∃ i : Nat, i ≤ n ∧ n - i ≤ gg ∧ v34 = .int .i64 i ∧ Hid (er = eqsFrom g s i (s.eqs.drop i)) ∧ Hid (CkI w mb #[.int .i64 tm, .int .i64 no, .int .i64 st, .slice ar m cr] #[.slice aa al ca, .slice ae n ce] (s.eqs.take i) wr))
        case atStart => exact ⟨0, by omega, by omega, rfl, HER0, HI0⟩
        case round =>
          clear HI0 HER0
          obtain ⟨i, hi, hg, rfl, HEI, HI⟩ := hrel
          by_cases hlt : i < n
          · have hlt' : (i : Int) < (n : Int) := by omega
            have hltE : i < s.eqs.length := by rw [HN.out]; exact hlt
            obtain ⟨b, off, v, hae, -, hbl, c0, c1, c2, c3, c4, c5, c6, c7, hkid⟩ := Rd.eqn_at (HE.out.below HI.out.bel) hltE
            obtain ⟨av, cv, rfl, -, -⟩ := hkid.form
            rw [List.length_map] at c7 hkid
            have HATI := Lib.hid (HEA.out i hltE)
            have HOKQ := Lib.hid (HOK.out _ (List.getElem_mem hltE))
            have HTK : Hid (s.eqs.take (i + 1) = s.eqs.take i ++ [s.eqs[i]'hltE]) := List.take_succ_eq_append_getElem hltE
            obtain ⟨q, HQ⟩ := nameIt (s.eqs[i]'hltE)
            rw [HQ.out] at c0 c1 c2 c3 c4 c5 c6 c7 hkid HATI HOKQ HTK
            have HRET : Hid (∀ z, z ≠ 0 → eqErr g s i q = z → cs = z) := by
              intro z hz h
              have h1 : er = z := by rw [HEI.out, HATI.out, h, if_pos hz]
              rw [HZS.out, ← h1]
              exact HSE.out (by simp) HNB.out (by rw [h1]; exact hz)
            have HNEXT : Hid (eqErr g s i q = 0 → er = eqsFrom g s (i + 1) (s.eqs.drop (i + 1))) := by
              intro h
              rw [HEI.out, HATI.out, h, if_neg (by simp)]
            have HEIN := Lib.hid (fun (j : Nat) (hj : j < g.rules.length) (h : q.rule = (j : Int)) => eqErr_in (s := s) (i := i) hj h)
            have HEOUT : Hid (q.rule < 0 ∨ (m : Int) ≤ q.rule → eqErr g s i q = 1) := by
              intro h
              exact eqErr_out (by rw [HM.out]; exact h)
            have HLK := Lib.hid (fun (W : World) (h : CkI w mb #[.int .i64 tm, .int .i64 no, .int .i64 st, .slice ar m cr] #[.slice aa al ca, .slice ae n ce] (s.eqs.take i) W) => h.look (fun q hq => HOK.out q (List.mem_of_mem_take hq)) HOKQ.out.1 HOKQ.out.2)
            have HADD := Lib.hid (fun (W : World) (h : CkI w mb #[.int .i64 tm, .int .i64 no, .int .i64 st, .slice ar m cr] #[.slice aa al ca, .slice ae n ce] (s.eqs.take i) W) => h.add (by unfold maxLen; simp; omega) HOKQ.out)
            rw [← HTK.out] at HADD
            have hkk := hkid
            obtain ⟨w4, HW4⟩ := nameIt (wr.alloc (.cells #[.int .i64 q.rule, .int .i64 q.to'.at', .int .i64 q.to'.attr, .int .i64 q.is'.kind, .int .i64 q.is'.n, .int .i64 q.is'.ref.at', .int .i64 q.is'.ref.attr, .slice av q.is'.args.length cv] 90))
            have hb4 : Below wr.heap.size wr w4 := by rw [← HW4.out]; exact (Below.refl _ _).alloc (Nat.le_refl _) _
            have XQ : Hid (w4.heap[wr.heap.size]? = some (.cells #[.int .i64 q.rule, .int .i64 q.to'.at', .int .i64 q.to'.attr, .int .i64 q.is'.kind, .int .i64 q.is'.n, .int .i64 q.is'.ref.at', .int .i64 q.is'.ref.attr, .slice av q.is'.args.length cv] 90 (0, 0))) := by rw [← HW4.out]; exact bx_new _ _ _ rfl
            have HKID := Lib.hid (hkid.below hb4)
            have HSQ := Lib.hid (HSI.out q.is' _ w4 HKID.out)
            have HI4 := Lib.hid (HI.out.keep hb4)
            have HVQ := Lib.hid (fun (r : Rule) (av' : Option Addr) (cv' : Nat) (W : World) (hb : Below w4.heap.size w4 W) (h : Rd AnyB W (.sl (r.right.map Sym.d)) [.slice av' r.right.length cv']) => HVE.out r q.is' _ av' cv' W (HI4.out.bel.trans (hb.mono HI4.out.bel.size)) h (HKID.out.below hb))
            have HDQ := Lib.hid (fun (r : Rule) (av' : Option Addr) (cv' : Nat) (W : World) (hb : Below w4.heap.size w4 W) (h : Rd AnyB W (.sl (r.right.map Sym.d)) [.slice av' r.right.length cv']) => HDE.out r q.to' av' cv' W (HI4.out.bel.trans (hb.mono HI4.out.bel.size)) h)
            obtain ⟨qr, HQR⟩ := nameIt q.rule
            obtain ⟨t1, HT1⟩ := nameIt q.to'.at'
            obtain ⟨t2, HT2⟩ := nameIt q.to'.attr
            obtain ⟨e0, HE0⟩ := nameIt q.is'.kind
            obtain ⟨e1, HE1⟩ := nameIt q.is'.n
            obtain ⟨e2, HE2⟩ := nameIt q.is'.ref.at'
            obtain ⟨e3, HE3⟩ := nameIt q.is'.ref.attr
            obtain ⟨qn, HQN⟩ := nameIt q.is'.args.length
            obtain ⟨hd, HHD⟩ := nameIt (had (s.eqs.take i) q.rule q.to')
            simp only [HHD.out] at HEIN
            simp only [HHD.out] at HLK
            simp only [HQR.out] at HEIN HEOUT
            rw [HQR.out] at c0
            rw [HQR.out, HT1.out, HT2.out, HE0.out, HE1.out, HE2.out, HE3.out, HQN.out] at XQ HW4
            rw [HT1.out] at c1
            rw [HT2.out] at c2
            rw [HE0.out] at c3
            rw [HE1.out] at c4
            rw [HE2.out] at c5
            rw [HE3.out] at c6
            rw [HQN.out] at c7
            rw [HE0.out, HE1.out, HE2.out, HE3.out, HQN.out] at HSQ
            simp only [HE0.out, HE1.out, HE2.out, HE3.out, HQN.out] at HVQ
            simp only [HT1.out, HT2.out] at HDQ
            simp only [HQR.out, HT1.out, HT2.out] at HLK HADD
            subst hae
            obtain ⟨g0, g1, g2, g3⟩ := bx_cells4 HI4.out.b1
            obtain ⟨l0, l1⟩ := bx_cells2 HI4.out.b2
            obtain ⟨z0, z1, z2, z3, z4, z5, z6, z7⟩ := bx_cells8 XQ.out
            clear hb4 hkid hkk
            go_upto_region 13 with fail
            rw [HW4.out]
            clear c0 c1 c2 c3 c4 c5 c6 c7
            by_cases h1 : qr < 0
            · have h1' : decide (qr < 0) = true := by simpa using h1
              have HF : Hid (cs = 1) := HRET.out 1 (by decide) (HEOUT.out (.inl h1))
              clear h1
              go_wp2_with fail
              go_ret
              exact ⟨by rw [HF.out]; rfl, HI4.out.bel⟩
            · have h1' : decide (qr < 0) = false := by simpa using h1
              obtain ⟨j, hj⟩ : ∃ j : Nat, qr = (j : Int) := ⟨qr.toNat, by omega⟩
              subst hj
              by_cases h2 : m ≤ j
              · have h2' : decide ((m : Int) ≤ (j : Int)) = true := by simpa using h2
                have HF : Hid (cs = 1) := HRET.out 1 (by decide) (HEOUT.out (.inr (by omega)))
                clear h1
                go_wp2_with fail
                go_ret
                exact ⟨by rw [HF.out]; rfl, HI4.out.bel⟩
              · have h2' : decide ((m : Int) ≤ (j : Int)) = false := by simp; omega
                have hjm : j < m := by omega
                have hj1 : (j : Int) < (m : Int) := by omega
                have hj0 : (0 : Int) ≤ (j : Int) := by omega
                have hjR : j < g.rules.length := by rw [HM.out]; exact hjm
                have HEJ := Lib.hid (HEIN.out j hjR rfl)
                clear h1
                go_upto_region 15 with fail
                go_wp2_with fail
                refine HSQ.out.mono ?_
                rintro e w5 ⟨rfl, hb5⟩
                have HB5 := Lib.hid hb5
                obtain ⟨sz, HSZE⟩ := nameIt (min q.is'.size 31)
                rw [HSZE.out]
                have HI5 := Lib.hid (HI4.out.keep hb5)
                have XQ5 := Lib.hid (bx_keep XQ.out hb5)
                obtain ⟨b6, off6, vr6, hae6, -, hbl6, d0, d1, hkr6⟩ := (HR.out.below HI5.out.bel).rule_at hjR
                obtain ⟨ar6, cr6, rfl, -, -⟩ := hkr6.form
                rw [List.length_map] at d1 hkr6
                obtain ⟨ru, HRU⟩ := nameIt (g.rules[j]'hjR)
                rw [HRU.out] at d0 d1 hkr6 HEJ
                have HDR := Lib.hid (fun (W : World) (hb : Below w5.heap.size w5 W) => HDQ.out ru ar6 cr6 W (HB5.out.trans (hb.mono HB5.out.size)) (hkr6.below hb))
                have HVR := Lib.hid (fun (W : World) (hb : Below w5.heap.size w5 W) => HVQ.out ru ar6 cr6 W (HB5.out.trans (hb.mono HB5.out.size)) (hkr6.below hb))
                obtain ⟨lf, HLF⟩ := nameIt ru.left
                obtain ⟨rn, HRN⟩ := nameIt ru.right.length
                obtain ⟨df, HDF⟩ := nameIt (defs s.attrs ru q.to')
                obtain ⟨vl, HVL⟩ := nameIt (valid s.attrs ru q.is')
                rw [HDF.out, HVL.out] at HEJ
                rw [HLF.out] at d0
                rw [HRN.out] at d1
                simp only [HLF.out, HRN.out, HDF.out] at HDR
                simp only [HLF.out, HRN.out, HVL.out] at HVR
                clear g0 g1 g2 g3 l0 l1 z0 z1 z2 z3 z4 z5 z6 z7 hb5 hkr6
                by_cases hbs : 30 < sz
                · have hbs' : (30 : Int) < (sz : Int) := by omega
                  have HF : Hid (cs = 2) := HRET.out 2 (by decide) (by rw [HEJ.out, if_pos (by have := HSZE.out; omega)])
                  go_wp2_with fail
                  go_ret
                  exact ⟨by rw [HF.out]; rfl, HI5.out.bel⟩
                · have hbs' : ¬ (30 : Int) < (sz : Int) := by omega
                  have HEL : Hid (eqErr g s i q = if df = false ∨ vl = false then 3 else if hd then 6 else 0) := by
                    show _ = _
                    rw [HEJ.out, if_neg (by have := HSZE.out; omega)]
                  subst hae6
                  obtain ⟨g0, g1, g2, g3⟩ := bx_cells4 HI5.out.b1
                  obtain ⟨l0, l1⟩ := bx_cells2 HI5.out.b2
                  obtain ⟨z0, z1, z2, z3, z4, z5, z6, z7⟩ := bx_cells8 XQ5.out
                  have k0 := aft_cell g3
                  have k1 := aft_cell l0
                  have k2 := aft_cell l1
                  have k3 := aft_cell z0
                  have k4 := aft_cell z1
                  have k5 := aft_cell z2
                  have k6 := aft_cell z3
                  have k7 := aft_cell z4
                  have k8 := aft_cell z5
                  have k9 := aft_cell z6
                  have k10 := aft_cell z7
                  have k11 := aft_cell d0
                  have k12 := aft_cell d1
                  clear g0 g1 g2 g3 l0 l1 z0 z1 z2 z3 z4 z5 z6 z7 d0 d1
                  go_upto_region 17 with fail
                  go_cut [55] (fun t55 wx => t55 = .bool (!df || !vl) ∧ Hid (Below w5.heap.size w5 wx))
                  case first =>
                    cases df with
                    | false =>
                      refine wp_region_after (by kernel_rfl) (by kernel_rfl) ?_
                      repeat (go_big_quiet_step (first | exact Calls.after (HDR.out _ (Aft.bel _)) | exact Calls.after (HVR.out _ (Aft.bel _))))
                      refine wpQuiet_nil ?_
                      rintro _ ⟨⟨w7, hb7⟩, rfl⟩
                      have HB7 := Lib.hid hb7
                      clear hb7 k0 k1 k2 k3 k4 k5 k6 k7 k8 k9 k10 k11 k12
                      go_wp2_with fail
                      go_meet
                      exact ⟨rfl, HB7⟩
                    | true =>
                      refine wp_region_after (by kernel_rfl) (by kernel_rfl) ?_
                      repeat (go_big_quiet_step (first | exact Calls.after (HDR.out _ (Aft.bel _)) | exact Calls.after (HVR.out _ (Aft.bel _))))
                      refine wpQuiet_nil ?_
                      rintro _ ⟨⟨w7, hb7⟩, rfl⟩
                      have HB7 := Lib.hid hb7
                      clear hb7 k0 k1 k2 k3 k4 k5 k6 k7 k8 k9 k10 k11 k12
                      go_wp2_with fail
                      go_meet
                      exact ⟨rfl, HB7⟩
                  case rest =>
                    obtain ⟨rfl, HB7⟩ := hcut
                    obtain ⟨w7, rfl⟩ : ∃ ww : World, ww = wc := ⟨_, rfl⟩
                    clear k0 k1 k2 k3 k4 k5 k6 k7 k8 k9 k10 k11 k12
                    have HI7 := Lib.hid (HI5.out.keep HB7.out)
                    have XQ7 := Lib.hid (bx_keep XQ5.out HB7.out)
                    obtain ⟨dv, HDV⟩ := nameIt (!df || !vl)
                    rw [HDV.out]
                    cases dv with
                    | true =>
                      have HF : Hid (cs = 3) := HRET.out 3 (by decide) (by rw [HEL.out, if_pos (nn_true HDV.out)])
                      go_wp2_with fail
                      go_ret
                      exact ⟨by rw [HF.out]; rfl, HI7.out.bel⟩
                    | false =>
                      have HEM : Hid (eqErr g s i q = if hd then 6 else 0) := by
                        show _ = _
                        rw [HEL.out, if_neg (nn_false HDV.out)]
                      obtain ⟨z0, z1, z2, z3, z4, z5, z6, z7⟩ := bx_cells8 XQ7.out
                      have hlk := HLK.out w7 HI7.out
                      cases hd with
                      | true =>
                        have HF : Hid (cs = 6) := HRET.out 6 (by decide) (by rw [HEM.out]; rfl)
                        go_wp2_with fail
                        go_ret
                        exact ⟨by rw [HF.out]; rfl, HI7.out.bel⟩
                      | false =>
                        have HF := Lib.hid (HNEXT.out (by rw [HEM.out]; rfl))
                        obtain ⟨w8, hup, hi8⟩ := HADD.out w7 HI7.out
                        have HI8 := Lib.hid hi8
                        clear hi8
                        go_wp2_with fail
                        go_roundg (n - (i + 1))
                        case measure => omega
                        case rel => exact ⟨i + 1, by omega, by omega, by go_num, HF, HI8⟩
          · have hlt' : ¬ (i : Int) < (n : Int) := by omega
            have hin : i = n := by omega
            have HEZ : Hid (er = 0) := by
              show _ = _
              rw [HEI.out, List.drop_of_length_le (by rw [HN.out]; omega)]
              rfl
            have hie := HI.out
            rw [List.take_of_length_le (by rw [HN.out]; omega)] at hie
            have HIE := Lib.hid hie
            have HFZ := Lib.hid (fun h => HZS.out.trans (HSZ.out (by simp) HNB.out HEZ.out h))
            have HFN := Lib.hid (fun h => HZS.out.trans (HSN.out (by simp) HNB.out HEZ.out h))
            have HN0 := Lib.hid (noL_start g s)
            have HLKE := Lib.hid (fun (W : World) (h : CkI w mb #[.int .i64 tm, .int .i64 no, .int .i64 st, .slice ar m cr] #[.slice aa al ca, .slice ae n ce] s.eqs W) (r : Int) (x : Ref) (h1 : i64 r) (h2 : okRefI x) => h.look HOK.out h1 h2)
            have HI' := HI
            obtain ⟨g0, g1, g2, g3⟩ := bx_cells4 HIE.out.b1
            clear hie HI'
            go_wp2_with fail
            clear g0 g1 g2 g3
            go_loopg [98] m (fun gg v98 wr => ∃ i : Nat, i ≤ m ∧ m - i ≤ gg ∧ v98 = .int .i64 i ∧ Hid (NoL g s i 0 0) ∧ Hid (CkI w mb #[.int .i64 tm, .int .i64 no, .int .i64 st, .slice ar m cr] #[.slice aa al ca, .slice ae n ce] s.eqs wr))
            case atStart => exact ⟨0, by omega, by omega, rfl, HN0, HIE⟩
            case round =>
              clear HN0 HIE HI HEI
              obtain ⟨wb, rfl⟩ : ∃ ww : World, ww = wr := ⟨_, rfl⟩
              obtain ⟨i, hi, hg, rfl, HNL, HI⟩ := hrel
              by_cases him : i < m
              · have him' : (i : Int) < (m : Int) := by omega
                have hiR : i < g.rules.length := by rw [HM.out]; exact him
                obtain ⟨b6, off6, vr6, hae6, -, hbl6, d0, d1, hkr6⟩ := (HR.out.below HI.out.bel).rule_at hiR
                obtain ⟨ar6, cr6, rfl, -, -⟩ := hkr6.form
                rw [List.length_map] at d1 hkr6
                have HNK := Lib.hid (fun (a k : Nat) (h : NoL g s i a k) => h.k hiR)
                have HNA := Lib.hid (fun (a k : Nat) (h : NoL g s i a k) => h.a hiR)
                have HNI := Lib.hid (fun (a : Nat) (h : NoL g s i a 0) => h.i)
                have HLAK : Hid (∀ a k : Nat, k < g.rules[i].right.length + 1 → a < al → lacksAt s i g.rules[i] k a = true → lacks g s) := fun a k h1 h2 h3 => ⟨i, k, a, hiR, h1, by rw [HAL.out]; exact h2, h3⟩
                obtain ⟨ru, HRU⟩ := nameIt (g.rules[i]'hiR)
                simp only [HRU.out] at HNK HNA HLAK
                rw [HRU.out] at d0 d1 hkr6
                obtain ⟨w4, HW4⟩ := nameIt (wb.alloc (.cells #[.int .i64 ru.left, .slice ar6 ru.right.length cr6] 81))
                have hb4 : Below wb.heap.size wb w4 := by rw [← HW4.out]; exact (Below.refl _ _).alloc (Nat.le_refl _) _
                have XR : Hid (w4.heap[wb.heap.size]? = some (.cells #[.int .i64 ru.left, .slice ar6 ru.right.length cr6] 81 (0, 0))) := by rw [← HW4.out]; exact bx_new _ _ _ rfl
                have HDX := Lib.hid (fun (x : Ref) (W : World) (hb : Below w4.heap.size w4 W) => HDE.out ru x ar6 cr6 W ((HI.out.bel.trans (hb4.mono HI.out.bel.size)).trans (hb.mono (HI.out.bel.trans (hb4.mono HI.out.bel.size)).size)) ((hkr6.below hb4).below hb))
                have HI4 := Lib.hid (HI.out.keep hb4)
                have hrn := (HZ.out.2.2 _ (List.getElem_mem hiR)).2.2.1
                rw [HRU.out] at hrn
                obtain ⟨lf, HLF⟩ := nameIt ru.left
                obtain ⟨rn, HRN⟩ := nameIt ru.right.length
                rw [HLF.out] at d0 HW4 XR
                rw [HRN.out] at d1 HW4 XR hrn
                simp only [HLF.out, HRN.out] at HDX
                simp only [HRN.out] at HNA HLAK
                subst hae6
                have HB4 := Lib.hid (Below.refl w4.heap.size w4)
                clear hb4 hkr6
                go_upto_region 26 with fail
                rw [HW4.out]
                clear d0 d1
                obtain ⟨l0, l1⟩ := bx_cells2 HI4.out.b2
                go_wp2_with fail
                clear l0 l1
                go_loopg [106] al (fun gg v106 wr => ∃ a : Nat, a ≤ al ∧ al - a ≤ gg ∧ v106 = .int .i64 a ∧ Hid (NoL g s i a 0) ∧ Hid (CkI w mb #[.int .i64 tm, .int .i64 no, .int .i64 st, .slice (some ⟨b6, off6, none⟩) m cr] #[.slice aa al ca, .slice ae n ce] s.eqs wr) ∧ Hid (Below w4.heap.size w4 wr))
                case atStart => exact ⟨0, by omega, by omega, rfl, HNL, HI4, HB4⟩
                case round =>
                  obtain ⟨wd, rfl⟩ : ∃ ww : World, ww = wr := ⟨_, rfl⟩
                  clear HI4 HB4 HNL
                  obtain ⟨a, ha, hga, rfl, HNL, HIA, HBA⟩ := hrel
                  by_cases haa : a < al
                  · have haa' : (a : Int) < (al : Int) := by omega
                    have XRA := Lib.hid (bx_keep XR.out HBA.out)
                    obtain ⟨r0, r1⟩ := bx_cells2 XRA.out
                    go_wp2_with fail
                    clear r0 r1
                    go_loopg [113] (rn + 1) (fun gg v113 wr => ∃ k : Nat, k ≤ rn + 1 ∧ rn + 1 - k ≤ gg ∧ v113 = .int .i64 k ∧ Hid (NoL g s i a k) ∧ Hid (CkI w mb #[.int .i64 tm, .int .i64 no, .int .i64 st, .slice (some ⟨b6, off6, none⟩) m cr] #[.slice aa al ca, .slice ae n ce] s.eqs wr) ∧ Hid (Below w4.heap.size w4 wr))
                    case atStart => exact ⟨0, by omega, by omega, rfl, HNL, HIA, HBA⟩
                    case round =>
                      obtain ⟨we, rfl⟩ : ∃ ww : World, ww = wr := ⟨_, rfl⟩
                      clear HIA HBA HNL XRA
                      obtain ⟨k, hk, hgk, rfl, HNL, HIK, HBK⟩ := hrel
                      by_cases hkr : k < rn + 1
                      · have hkr' : (k : Int) < (rn : Int) + 1 := by omega
                        obtain ⟨w5, HW5⟩ := nameIt (we.alloc (.cells #[.int .i64 (k : Int), .int .i64 (a : Int)] 83))
                        have hb5 : Below we.heap.size we w5 := by rw [← HW5.out]; exact (Below.refl _ _).alloc (Nat.le_refl _) _
                        have XF : Hid (w5.heap[we.heap.size]? = some (.cells #[.int .i64 (k : Int), .int .i64 (a : Int)] 83 (0, 0))) := by rw [← HW5.out]; exact bx_new _ _ _ rfl
                        have HI5 := Lib.hid (HIK.out.keep hb5)
                        have HB5 : Hid (Below w4.heap.size w4 w5) := HBK.out.trans (hb5.mono HBK.out.size)
                        have XR5 := Lib.hid (bx_keep XR.out HB5.out)
                        have hdx := HDX.out ⟨k, a⟩ w5 HB5.out
                        have hok : okRefI ⟨(k : Int), (a : Int)⟩ := ⟨by unfold i64; simp only; omega, by unfold i64; simp only; omega⟩
                        have hii : i64 (i : Int) := by unfold i64; omega
                        have HLW := Lib.hid (fun (W : World) (h : CkI w mb #[.int .i64 tm, .int .i64 no, .int .i64 st, .slice (some ⟨b6, off6, none⟩) m cr] #[.slice aa al ca, .slice ae n ce] s.eqs W) => HLKE.out W h (i : Int) ⟨k, a⟩ hii hok)
                        have HLA : Hid (lacksAt s i ru k a = (defs s.attrs ru ⟨k, a⟩ && !had s.eqs i ⟨k, a⟩)) := rfl
                        have HLB := Lib.hid (HLAK.out a k hkr haa)
                        have HNN := Lib.hid (fun h => HNK.out a k HNL.out h)
                        obtain ⟨dd, HDD⟩ := nameIt (defs s.attrs ru ⟨k, a⟩)
                        obtain ⟨hh, HHH⟩ := nameIt (had s.eqs i ⟨k, a⟩)
                        obtain ⟨la, HLAA⟩ := nameIt (lacksAt s i ru k a)
                        rw [HDD.out, HHH.out, HLAA.out] at HLA
                        rw [HLAA.out] at HLB
                        simp only [HLAA.out] at HNN
                        rw [HDD.out] at hdx
                        simp only [HHH.out] at HLW
                        have HDC := Lib.hid hdx
                        obtain ⟨l0, l1⟩ := bx_cells2 HI5.out.b2
                        obtain ⟨r0, r1⟩ := bx_cells2 XR5.out
                        obtain ⟨f0, f1⟩ := bx_cells2 XF.out
                        clear hb5 hdx hok hii
                        go_upto_region 33 with fail
                        rw [HW5.out]
                        go_wp2_with fail
                        refine HDC.out.mono ?_
                        rintro e w6 ⟨rfl, hb6⟩
                        have HI6 := Lib.hid (HI5.out.keep hb6)
                        have HB6 : Hid (Below w4.heap.size w4 w6) := HB5.out.trans (hb6.mono HB5.out.size)
                        obtain ⟨f2, f3⟩ := bx_cells2 (bx_keep XF.out hb6)
                        have hlk := HLW.out w6 HI6.out
                        clear l0 l1 r0 r1 f0 f1 hb6
                        cases dd with
                        | false =>
                          have HNX := Lib.hid (HNN.out HLA.out)
                          go_wp2_with fail
                          go_roundg (rn + 1 - (k + 1))
                          case measure => omega
                          case rel => exact ⟨k + 1, by omega, by omega, by go_num, HNX, HI6, HB6⟩
                        | true =>
                          cases hh with
                          | true =>
                            have HNX := Lib.hid (HNN.out HLA.out)
                            go_wp2_with fail
                            go_roundg (rn + 1 - (k + 1))
                            case measure => omega
                            case rel => exact ⟨k + 1, by omega, by omega, by go_num, HNX, HI6, HB6⟩
                          | false =>
                            have HF : Hid (cs = 5) := HFN.out (HLB.out HLA.out)
                            go_wp2_with fail
                            go_ret
                            exact ⟨by rw [HF.out]; rfl, HI6.out.bel⟩
                      · have hkr' : ¬ (k : Int) < (rn : Int) + 1 := by omega
                        have HNN := Lib.hid (HNA.out a k HNL.out (by omega))
                        go_wp2_with fail
                        go_roundg (al - (a + 1))
                        case measure => omega
                        case rel => exact ⟨a + 1, by omega, by omega, by go_num, HNN, HIK, HBK⟩
                  · have haa' : ¬ (a : Int) < (al : Int) := by omega
                    have HNN := Lib.hid (HNI.out a HNL.out (by rw [HAL.out]; omega))
                    go_wp2_with fail
                    go_roundg (m - (i + 1))
                    case measure => omega
                    case rel => exact ⟨i + 1, by omega, by omega, by go_num, HNN, HIA⟩
              · have him' : ¬ (i : Int) < (m : Int) := by omega
                have HF : Hid (cs = 0) := HFZ.out (HNL.out.fin (by rw [HM.out]; omega))
                go_wp2_with fail
                go_ret
                exact ⟨by rw [HF.out]; rfl, HI.out.bel⟩
    · have hab : (ass != 0) = true := by simpa using ha
      have HF : Hid (cs = ass) := by show _ = _; rw [HZS.out]; exact HSA.out ha
      clear ha
      go_wp2_with fail
      go_ret
      exact ⟨by rw [HF.out]; rfl, HB2.out⟩
  · have hzb : (cg != 0) = true := by simpa using hz
    have HF := Lib.hid (HSG.out hz)
    clear hz
    go_wp2_with fail
    go_ret
    exact ⟨by rw [HF.out]; rfl, HB1.out⟩
end At
end Go.Proofs.YtfocooehnmpndaaGreat
namespace Go.Proofs.YtfocooehnmpndaaGreat
open Go.RowKit
set_option maxHeartbeats 1000000 in
set_option maxRecDepth 100000 in
theorem rootE (g : Gram) (ar : Option Addr) (cr : Nat) (t : Tree) (at' : Option Addr) (nt ct : Nat) (w : World) (hr : Rd AnyB w (.sl (g.rules.map Rule.d)) [.slice ar g.rules.length cr]) :
    Calls Tryz.prog 98 #[.agg #[.int .i64 g.terms, .int .i64 g.nons, .int .i64 g.start, .slice ar g.rules.length cr], .agg #[.int .i64 t.rule, .int .i64 t.term, .slice at' nt ct]] w fun e w' =>
      e = .returned (.agg #[.bool (rootS g t).term, .int .i64 (rootS g t).n]) ∧ Below w.heap.size w w' := by
  have hbs := hr.bounds.2
  unfold maxLen at hbs
  obtain ⟨hc1, hc2⟩ := hbs
  obtain ⟨gt, HGT⟩ := nameIt g.terms
  obtain ⟨gn, HGN⟩ := nameIt g.nons
  obtain ⟨gs, HGS⟩ := nameIt g.start
  obtain ⟨K, HK⟩ := nameIt g.rules
  obtain ⟨r, HRr⟩ := nameIt t.rule
  obtain ⟨tm, HRt⟩ := nameIt t.term
  obtain ⟨S, HS⟩ := nameIt (rootS g t)
  have HSV : Hid (S = if r < 0 then ⟨true, tm⟩ else match K[r.toNat]? with | some x => ⟨false, x.left⟩ | none => ⟨true, tm⟩) := by
    show _ = _; rw [← HS.out]; unfold rootS; rw [HRr.out, HRt.out, HK.out]; try rfl
  have HR := Lib.hid hr
  rw [HK.out] at HR hc1
  rw [HGT.out, HGN.out, HGS.out, HK.out, HRr.out, HRt.out, HS.out]
  have hB : Below w.heap.size w (((w.alloc (.cells #[.int .i64 gt, .int .i64 gn, .int .i64 gs, .slice ar K.length cr] 24)).alloc (.cells #[.int .i64 r, .int .i64 tm, .slice at' nt ct] 31)).alloc (.cells #[.bool S.term, .int .i64 S.n] 78)) := (((Below.refl _ _).alloc (Nat.le_refl _) _).alloc (by simp) _).alloc (by first | (simp; done) | (simp; omega)) _
  have HB := Lib.hid hB
  clear hr hB
  by_cases h0 : r < 0
  · obtain rfl : S = ⟨true, tm⟩ := by rw [HSV.out, if_pos h0]
    have b0 : decide (r < 0) = true := by simpa using h0
    clear h0
    go_enter Tryz.func98, Tryz.ntmps98
    go_wp2_with fail
    exact bodyPost_ret (v := .agg #[.bool true, .int .i64 tm]) (by simp [results, Tryz.results98, go_sem]) rfl ⟨rfl, HB.out⟩
  · obtain ⟨j, rfl⟩ := Int.eq_ofNat_of_zero_le (show 0 ≤ r by omega)
    have b0 : decide ((j : Int) < 0) = false := by simp
    by_cases h1 : j < K.length
    · have b1 : decide ((K.length : Int) ≤ (j : Int)) = false := by simp; omega
      have b1' : decide (K.length ≤ j) = false := by simp; omega
      have h1' : (j : Int) < (K.length : Int) := by omega
      obtain ⟨b, off, vr, hae, -, hbl, c0, -, -⟩ := HR.out.rule_at h1
      have hS : S = ⟨false, K[j].left⟩ := by rw [HSV.out, if_neg h0]; simp [h1]
      obtain ⟨lf, HLF⟩ := nameIt (K[j]'h1).left
      rw [HLF.out] at c0 hS
      subst hS
      subst hae
      clear h0
      have hbl1 : b < w.heap.size + 1 := by omega
      have hbl2 : b < w.heap.size + 1 + 1 := by omega
      have hn0 : ¬ b = w.heap.size := by omega
      have hn1 : ¬ b = w.heap.size + 1 := by omega
      have hn2 : ¬ b = w.heap.size + 1 + 1 := by omega
      go_enter Tryz.func98, Tryz.ntmps98
      go_wp2_with fail
      exact bodyPost_ret (v := .agg #[.bool false, .int .i64 lf]) (by simp [results, Tryz.results98, go_sem]) rfl ⟨rfl, HB.out⟩
    · have b1 : decide ((K.length : Int) ≤ (j : Int)) = true := by simp; omega
      have b1' : decide (K.length ≤ j) = true := by simp; omega
      obtain rfl : S = ⟨true, tm⟩ := by rw [HSV.out, if_neg h0]; simp [show K.length ≤ j by omega]
      clear h0
      go_enter Tryz.func98, Tryz.ntmps98
      go_wp2_with fail
      exact bodyPost_ret (v := .agg #[.bool true, .int .i64 tm]) (by simp [results, Tryz.results98, go_sem]) rfl ⟨rfl, HB.out⟩
theorem symEq (a c : Bool) (b d : Int) (w : World) : (binOp .eql 78 (.agg #[.bool a, .int .i64 b]) (.agg #[.bool c, .int .i64 d])).run Tryz.prog w = .ok (.bool (a == c && b == d)) w := by
  have h1 : Tryz.prog.underlying 78 = some (.struct (Tryz.prog.fieldsOf 78)) := by kernel_rfl
  have h2 : Tryz.prog.stoodInHeld 78 = false := by kernel_rfl
  have h3 := Tryz.underlying78
  have h4 := Tryz.underlying4
  have h5 := Tryz.underlying3
  rw [run_eql_struct, run_equalIn_agg (d := 9999) _ _ _ _ h1 h2]
  simp only [Program.fieldsOf, h3]
  cases hac : (a == c) <;> by_cases hbd : b = d <;> simp [Op.eqFields, go_sem, h4, h5, hac, hbd]
theorem cells9 {W w' : World} (hb : Below W.heap.size W w') {b1 b2 b3 : Nat} {T1 T2 T3 : TypeId} {a0 a1 a2 a3 c0 c1 c2 d0 d1 : Value} (h1 : W.heap[b1]? = some (.cells #[a0, a1, a2, a3] T1 (0, 0))) (h2 : W.heap[b2]? = some (.cells #[c0, c1, c2] T2 (0, 0))) (h3 : W.heap[b3]? = some (.cells #[d0, d1] T3 (0, 0))) :
    w'.cell? ⟨b1, 0, none⟩ = some a0 ∧ w'.cell? ⟨b1, 0 + 1, none⟩ = some a1 ∧ w'.cell? ⟨b1, 0 + 2, none⟩ = some a2 ∧ w'.cell? ⟨b1, 0 + 3, none⟩ = some a3 ∧ w'.cell? ⟨b2, 0, none⟩ = some c0 ∧ w'.cell? ⟨b2, 0 + 1, none⟩ = some c1 ∧ w'.cell? ⟨b2, 0 + 2, none⟩ = some c2 ∧ w'.cell? ⟨b3, 0, none⟩ = some d0 ∧ w'.cell? ⟨b3, 0 + 1, none⟩ = some d1 := by
  obtain ⟨x1, x2, x3, x4⟩ := bx_cells4 (bx_keep h1 hb)
  obtain ⟨y1, y2, y3⟩ := bx_cells3 (bx_keep h2 hb)
  obtain ⟨z1, z2⟩ := bx_cells2 (bx_keep h3 hb)
  exact ⟨x1, x2, x3, x4, y1, y2, y3, z1, z2⟩
set_option maxHeartbeats 2000000 in
set_option maxRecDepth 100000 in
theorem kidOkE (g : Gram) (b : Nat) (ar : Option Addr) (cr : Nat) (k : Tree) (ak : Option Addr) (nk ck : Nat) (s : Sym) (w : World) (hx : w.heap[b]? = some (.cells #[.int .i64 g.terms, .int .i64 g.nons, .int .i64 g.start, .slice ar g.rules.length cr] 24 (0, 0)))
    (hr : Rd AnyB w (.sl (g.rules.map Rule.d)) [.slice ar g.rules.length cr]) :
    Calls Tryz.prog 137 #[.agg #[.int .i64 k.rule, .int .i64 k.term, .slice ak nk ck], .agg #[.bool s.term, .int .i64 s.n], .pointer (some ⟨b, 0, none⟩)] w fun e w' => e = .returned (.bool (kidOk g k s)) ∧ Below w.heap.size w w' := by
  have hbs := hr.bounds.2
  unfold maxLen at hbs
  obtain ⟨hc1, hc2⟩ := hbs
  obtain ⟨w0, HW0⟩ := nameIt ((w.alloc (.cells #[.int .i64 k.rule, .int .i64 k.term, .slice ak nk ck] 31)).alloc (.cells #[.bool s.term, .int .i64 s.n] 78))
  have hb0 : Below w.heap.size w w0 := by rw [← HW0.out]; exact ((Below.refl _ _).alloc (Nat.le_refl _) _).alloc (by simp) _
  have X1 := Lib.hid (bx_keep hx hb0)
  have X3 : Hid (w0.heap[w.heap.size]? = some (.cells #[.int .i64 k.rule, .int .i64 k.term, .slice ak nk ck] 31 (0, 0))) := by
    rw [← HW0.out]; exact bx_keep (bx_new _ _ _ rfl) ((Below.refl _ _).alloc (Nat.le_refl _) _)
  have X4 : Hid (w0.heap[w.heap.size + 1]? = some (.cells #[.bool s.term, .int .i64 s.n] 78 (0, 0))) := by
    rw [← HW0.out]; exact bx_new _ _ _ (by simp)
  have CR := Lib.hid (fun W (hb : Below w0.heap.size w0 W) => rootE g ar cr k ak nk ck W ((hr.below hb0).below hb))
  have HB0 := Lib.hid hb0
  obtain ⟨B, HBn⟩ := nameIt (kidOk g k s)
  have HBV : Hid (B = (decide (-1 ≤ k.rule) && (decide (k.rule < g.rules.length) && decide (rootS g k = s)))) := by show _ = _; rw [← HBn.out]; rfl
  obtain ⟨gt, HGT⟩ := nameIt g.terms
  obtain ⟨gn, HGN⟩ := nameIt g.nons
  obtain ⟨gs, HGS⟩ := nameIt g.start
  obtain ⟨n, HKn⟩ := nameIt g.rules.length
  obtain ⟨r, HRr⟩ := nameIt k.rule
  obtain ⟨tm, HRt⟩ := nameIt k.term
  obtain ⟨S, HS⟩ := nameIt (rootS g k)
  obtain ⟨s0, HS0⟩ := nameIt s.term
  obtain ⟨s1, HS1⟩ := nameIt s.n
  rw [HGT.out, HGN.out, HGS.out, HKn.out] at X1
  rw [HRr.out, HRt.out] at X3 HW0
  rw [HS0.out, HS1.out] at X4 HW0
  rw [HGT.out, HGN.out, HGS.out, HKn.out, HRr.out, HRt.out, HS.out] at CR
  rw [HRr.out, HKn.out, HS.out] at HBV
  rw [HKn.out] at hc1
  rw [HRr.out, HRt.out, HS0.out, HS1.out, HBn.out]
  have hk0 := cells9 (Below.refl w0.heap.size w0) X1.out X3.out X4.out
  obtain ⟨x0, x1, x2, x3, y0, y1, y2, z0, z1⟩ := hk0
  clear hx hr hb0
  go_enter Tryz.func137, Tryz.ntmps137
  go_wp2_with fail
  rw [HW0.out]
  by_cases h0 : -1 ≤ r
  · have b0 : decide (-1 ≤ r) = true := by simpa using h0
    by_cases h1 : r < n
    · have b1 : decide (r < (n : Int)) = true := by simpa using h1
      have HBV2 : Hid (B = decide (S = s)) := by show _ = _; rw [HBV.out, b0, b1]; rfl
      obtain ⟨S0, HSS0⟩ := nameIt S.term
      obtain ⟨S1, HSS1⟩ := nameIt S.n
      rw [HSS0.out, HSS1.out] at CR
      have HBV3 : Hid (B = (S0 == s0 && S1 == s1)) := by
        show _ = _
        rw [HBV2.out, ← HSS0.out, ← HSS1.out, ← HS0.out, ← HS1.out, Bool.eq_iff_iff]
        cases S; cases s; simp
      have heq := symEq S0 s0 S1 s1
      have heg : Tryz.prog.eqGuardType Tryz.prog.depth 78 = false := by kernel_rfl
      clear h0 h1
      go_region_held3 (fun w' => w'.cell? ⟨b, 0, none⟩ = some (.int .i64 gt) ∧ w'.cell? ⟨b, 0 + 1, none⟩ = some (.int .i64 gn) ∧ w'.cell? ⟨b, 0 + 2, none⟩ = some (.int .i64 gs) ∧ w'.cell? ⟨b, 0 + 3, none⟩ = some (.slice ar n cr) ∧ w'.cell? ⟨w.heap.size, 0, none⟩ = some (.int .i64 r) ∧ w'.cell? ⟨w.heap.size, 0 + 1, none⟩ = some (.int .i64 tm) ∧ w'.cell? ⟨w.heap.size, 0 + 2, none⟩ = some (.slice ak nk ck) ∧ w'.cell? ⟨w.heap.size + 1, 0, none⟩ = some (.bool s0) ∧ w'.cell? ⟨w.heap.size + 1, 0 + 1, none⟩ = some (.int .i64 s1))
        (first | exact cells9 (Below.refl _ _).drew X1.out X3.out X4.out | exact cells9 HB1.out X1.out X3.out X4.out | fail)
        (first
          | (go_at_call 98; (with_reducible refine (CR.out _ (Below.refl _ _).drew).mono ?_); rintro e w1 ⟨rfl, hb1⟩; have HB1 : Hid (Below w0.heap.size w0 w1) := (Below.refl _ _).drew.trans hb1; clear hb1)
          | fail)
      go_wp2_with fail
      go_ret
      exact ⟨by rw [HBV3.out]; rfl, HB0.out.trans (HB1.out.mono HB0.out.size)⟩
    · have b1 : decide (r < (n : Int)) = false := by simpa using h1
      obtain rfl : B = false := by rw [HBV.out, b1]; simp
      clear h0 h1
      go_quiet (fail)
      go_wp2_with fail
      go_ret
      exact ⟨rfl, HB0.out.trans ((below_drewN _ _).mono HB0.out.size)⟩
  · have b0 : decide (-1 ≤ r) = false := by simpa using h0
    obtain rfl : B = false := by rw [HBV.out, b0]; simp
    clear h0
    go_quiet (fail)
    go_wp2_with fail
    go_ret
    exact ⟨rfl, HB0.out.trans ((below_drewN _ _).mono HB0.out.size)⟩
end Go.Proofs.YtfocooehnmpndaaGreat
namespace Go.Proofs.YtfocooehnmpndaaGreat
open Go.RowKit
def PairAt (g : Nat) (lb : Array Value) (p : Tree → Sym → Bool) (w : World) : Prop :=
  ∀ (W : World) (k : Tree) (v : Value) (s : Sym), Below w.heap.size w W → Rd AnyB W (.sl (k.kids.map Tree.d)) [v] → Calls Tryz.prog g (#[.agg #[.int .i64 k.rule, .int .i64 k.term, v], .agg #[.bool s.term, .int .i64 s.n]] ++ lb) W fun e w' => e = .returned (.bool (p k s)) ∧ Below W.heap.size W w'
def eqAll (p : Tree → Sym → Bool) (ks : List Tree) (l : List Sym) : Bool := decide (ks.length = l.length) && (List.zip ks l).all fun x => p x.1 x.2
theorem eqAll_ne {p : Tree → Sym → Bool} {ks : List Tree} {l : List Sym} (h : ks.length ≠ l.length) : eqAll p ks l = false := by simp [eqAll, h]
theorem eqAll_bad {p : Tree → Sym → Bool} {ks : List Tree} {l : List Sym} {i : Nat} (h : i < ks.length) (h2 : i < l.length) (hp : p ks[i] l[i] = false) : eqAll p ks l = false := by
  unfold eqAll
  rw [Bool.and_eq_false_iff]
  right
  rw [List.all_eq_false]
  exact ⟨(ks[i], l[i]), List.mem_iff_getElem.2 ⟨i, by simp; omega, by simp⟩, by simp [hp]⟩
theorem eqAll_good {p : Tree → Sym → Bool} {ks : List Tree} {l : List Sym} (h : ks.length = l.length) (hp : ∀ i (h1 : i < ks.length) (h2 : i < l.length), p ks[i] l[i] = true) : eqAll p ks l = true := by
  unfold eqAll
  rw [Bool.and_eq_true]
  refine ⟨by simpa using h, List.all_eq_true.2 ?_⟩
  intro x hx
  obtain ⟨i, hi, rfl⟩ := List.mem_iff_getElem.1 hx
  simp at hi
  simpa using hp i (by omega) (by omega)
set_option maxHeartbeats 1000000 in
set_option maxRecDepth 100000 in
theorem equalFuncTS (g : Nat) (lb : Array Value) (p : Tree → Sym → Bool) (a a' : Option Addr) (c c' : Nat) (ks : List Tree) (l : List Sym) (w : World) (eg : ∀ args w, (callFunc g args).run Tryz.prog w = .ok (.enter g args) w) (hf : PairAt g lb p w)
    (hk : Rd AnyB w (.sl (ks.map Tree.d)) [.slice a ks.length c]) (hl : Rd AnyB w (.sl (l.map Sym.d)) [.slice a' l.length c']) :
    Calls Tryz.prog 136 #[.slice a ks.length c, .slice a' l.length c', .func (.func g) #[] lb] w fun e w' => e = .returned (.bool (eqAll p ks l)) ∧ Below w.heap.size w w' := by
  have HK := Lib.hid hk
  have HL := Lib.hid hl
  have HF := Lib.hid hf
  have hc := hk.bounds.2
  have hc' := hl.bounds.2
  unfold maxLen at hc hc'
  obtain ⟨hc1, hc2⟩ := hc
  obtain ⟨hc3, hc4⟩ := hc'
  clear hk hl hf
  by_cases hlen : ks.length = l.length
  · have hlb : ((ks.length : Int) != (l.length : Int)) = false := by simp [hlen]
    have HLEN := Lib.hid hlen
    have hle : ks.length ≤ l.length := by omega
    clear hlen
    go_enter Tryz.func136, Tryz.ntmps136
    go_wp2_with fail
    go_loopg [17] ks.length (fun gg v17 wr => ∃ i : Nat, i ≤ ks.length ∧ ks.length - i ≤ gg ∧ v17 = .int .i64 i ∧ Hid (Below w.heap.size w wr) ∧ Hid (∀ j (h1 : j < ks.length) (h2 : j < l.length), j < i → p ks[j] l[j] = true))
    case atStart => exact ⟨0, by omega, by omega, rfl, Below.refl _ _, fun j _ _ hj => by omega⟩
    case round =>
      obtain ⟨i, hi, hg, rfl, HB, HN⟩ := hrel
      by_cases hlt : i < ks.length
      · have hlt' : (i : Int) < (ks.length : Int) := by omega
        have hlt2 : i < l.length := by omega
        have hlt2' : (i : Int) < (l.length : Int) := by omega
        obtain ⟨b, off, v, hae, -, hbl, c0, c1, c2, hkid⟩ := (HK.out.below HB.out).kid hlt
        obtain ⟨av, cv, rfl, -, -⟩ := hkid.form
        obtain ⟨nv, HNV⟩ := nameIt (ks[i].kids.map Tree.d).length
        rw [HNV.out] at c2 hkid
        obtain ⟨b', off', hae', -, hbl', d0, d1⟩ := (HL.out.below HB.out).sym_at hlt2
        have hcall := fun W (hb : Below wr.heap.size wr W) => HF.out W ks[i] _ l[i] (HB.out.trans (hb.mono HB.out.size)) (hkid.below hb)
        obtain ⟨q0, HQ0⟩ := nameIt (ks[i]'hlt).rule
        obtain ⟨q1, HQ1⟩ := nameIt (ks[i]'hlt).term
        obtain ⟨s0, HS0⟩ := nameIt (l[i]'hlt2).term
        obtain ⟨s1, HS1⟩ := nameIt (l[i]'hlt2).n
        obtain ⟨B, HBn⟩ := nameIt (p (ks[i]'hlt) (l[i]'hlt2))
        rw [HQ0.out] at c0 hcall
        rw [HQ1.out] at c1 hcall
        rw [HS0.out] at d0 hcall
        rw [HS1.out] at d1 hcall
        rw [HBn.out] at hcall
        have hn1 : ¬ b' = wr.heap.size := by omega
        have HC := Lib.hid (hcall _ (((Below.refl wr.heap.size wr).alloc (Nat.le_refl _) (.cells #[.int .i64 q0, .int .i64 q1, .slice av nv cv] 31)).alloc (by simp) (.cells #[.bool s0, .int .i64 s1] 78)))
        have HBB := Lib.hid (HB.out.trans ((((Below.refl wr.heap.size wr).alloc (Nat.le_refl _) (.cells #[.int .i64 q0, .int .i64 q1, .slice av nv cv] 31)).alloc (by simp) (.cells #[.bool s0, .int .i64 s1] 78)).mono HB.out.size))
        subst hae hae'
        clear hkid hcall
        go_wp2_with fail
        refine HC.out.mono ?_
        rintro e w6 ⟨rfl, hb6⟩
        have HB6 := Lib.hid (HBB.out.trans (hb6.mono HBB.out.size))
        clear hb6 c0 c1 c2 d0 d1 HC
        cases B with
        | false =>
          have HE : Hid (eqAll p ks l = false) := eqAll_bad hlt hlt2 HBn.out
          go_wp2_with fail
          go_ret
          exact ⟨by rw [HE.out]; rfl, HB6.out⟩
        | true =>
          have HN2 : Hid (∀ j (h1 : j < ks.length) (h2 : j < l.length), j < i + 1 → p ks[j] l[j] = true) := by
            intro j h1 h2 hj
            by_cases e : j = i
            · subst e; exact HBn.out
            · exact HN.out j h1 h2 (by omega)
          go_wp2_with fail
          go_roundg (ks.length - (i + 1))
          case measure => omega
          case rel => exact ⟨i + 1, by omega, by omega, by go_num, HB6, HN2⟩
      · have hlt' : ¬ (i : Int) < (ks.length : Int) := by omega
        have HE : Hid (eqAll p ks l = true) := eqAll_good HLEN.out fun j h1 h2 => HN.out j h1 h2 (by omega)
        go_wp2_with fail
        go_ret
        exact ⟨by rw [HE.out]; rfl, HB.out⟩
  · have hlb : ((ks.length : Int) != (l.length : Int)) = true := by simp; omega
    have HE : Hid (eqAll p ks l = false) := eqAll_ne hlen
    clear hlen
    go_enter Tryz.func136, Tryz.ntmps136
    go_wp2_with fail
    go_ret
    exact ⟨by rw [HE.out]; rfl, Below.refl _ _⟩
def ValidI (w0 : World) (_ : List Tree) (S : Nat → Prop) (W : World) : Prop := Below w0.heap.size w0 W ∧ ∀ k, ¬ S k
theorem cells7 {W w' : World} (hb : Below W.heap.size W w') {b1 b2 : Nat} {T1 T2 : TypeId} {a0 a1 a2 a3 c0 c1 c2 : Value} (h1 : W.heap[b1]? = some (.cells #[a0, a1, a2, a3] T1 (0, 0))) (h2 : W.heap[b2]? = some (.cells #[c0, c1, c2] T2 (0, 0))) :
    w'.cell? ⟨b1, 0, none⟩ = some a0 ∧ w'.cell? ⟨b1, 0 + 1, none⟩ = some a1 ∧ w'.cell? ⟨b1, 0 + 2, none⟩ = some a2 ∧ w'.cell? ⟨b1, 0 + 3, none⟩ = some a3 ∧ w'.cell? ⟨b2, 0, none⟩ = some c0 ∧ w'.cell? ⟨b2, 0 + 1, none⟩ = some c1 ∧ w'.cell? ⟨b2, 0 + 2, none⟩ = some c2 := by
  obtain ⟨x1, x2, x3, x4⟩ := bx_cells4 (bx_keep h1 hb)
  obtain ⟨y1, y2, y3⟩ := bx_cells3 (bx_keep h2 hb)
  exact ⟨x1, x2, x3, x4, y1, y2, y3⟩
end Go.Proofs.YtfocooehnmpndaaGreat
namespace Go.Proofs.YtfocooehnmpndaaGreat
open Go.RowKit
theorem cells8 {W w' : World} (hb : Below W.heap.size W w') {b1 b2 b3 o3 : Nat} {T1 T2 : TypeId} {a0 a1 a2 a3 c0 c1 c2 d : Value} (h1 : W.heap[b1]? = some (.cells #[a0, a1, a2, a3] T1 (0, 0))) (h2 : W.heap[b2]? = some (.cells #[c0, c1, c2] T2 (0, 0))) (h3 : W.cell? ⟨b3, o3, none⟩ = some d) :
    w'.cell? ⟨b1, 0, none⟩ = some a0 ∧ w'.cell? ⟨b1, 0 + 1, none⟩ = some a1 ∧ w'.cell? ⟨b1, 0 + 2, none⟩ = some a2 ∧ w'.cell? ⟨b1, 0 + 3, none⟩ = some a3 ∧ w'.cell? ⟨b2, 0, none⟩ = some c0 ∧ w'.cell? ⟨b2, 0 + 1, none⟩ = some c1 ∧ w'.cell? ⟨b2, 0 + 2, none⟩ = some c2 ∧ w'.cell? ⟨b3, o3, none⟩ = some d := by
  obtain ⟨x1, x2, x3, x4, y1, y2, y3⟩ := cells7 hb h1 h2
  exact ⟨x1, x2, x3, x4, y1, y2, y3, (hb.cell (p := ⟨b3, o3, none⟩) (lt_of_cell h3)).trans h3⟩
set_option maxHeartbeats 4000000 in
set_option maxRecDepth 100000 in
theorem nodeOkE (g : Gram) (b : Nat) (ar : Option Addr) (cr : Nat) (t : Tree) (ak : Option Addr) (ck : Nat) (w : World) (hx : w.heap[b]? = some (.cells #[.int .i64 g.terms, .int .i64 g.nons, .int .i64 g.start, .slice ar g.rules.length cr] 24 (0, 0)))
    (hr : Rd AnyB w (.sl (g.rules.map Rule.d)) [.slice ar g.rules.length cr]) (hk : Rd AnyB w (.sl (t.kids.map Tree.d)) [.slice ak t.kids.length ck]) :
    Calls Tryz.prog 135 #[.agg #[.int .i64 t.rule, .int .i64 t.term, .slice ak t.kids.length ck], .pointer (some ⟨b, 0, none⟩)] w fun e w' => e = .returned (.bool (nodeOk g t)) ∧ Below w.heap.size w w' := by
  have hbs := hr.bounds.2
  have hbk := hk.bounds.2
  unfold maxLen at hbs hbk
  obtain ⟨hc1, hc2⟩ := hbs
  obtain ⟨hc3, hc4⟩ := hbk
  obtain ⟨w0, HW0⟩ := nameIt (w.alloc (.cells #[.int .i64 t.rule, .int .i64 t.term, .slice ak t.kids.length ck] 31))
  have hb0 : Below w.heap.size w w0 := by rw [← HW0.out]; exact (Below.refl _ _).alloc (Nat.le_refl _) _
  have X1 := Lib.hid (bx_keep hx hb0)
  have X2 : Hid (w0.heap[w.heap.size]? = some (.cells #[.int .i64 t.rule, .int .i64 t.term, .slice ak t.kids.length ck] 31 (0, 0))) := by
    rw [← HW0.out]; exact bx_new _ _ _ rfl
  have HX1 := X1
  have HR := Lib.hid (hr.below hb0)
  have HKD := Lib.hid (hk.below hb0)
  have HB0 := Lib.hid hb0
  have PA : Hid (∀ W, Below w0.heap.size w0 W → PairAt 137 #[.pointer (some ⟨b, 0, none⟩)] (kidOk g) W) := by
    intro W hb W' k v s hb' hv
    obtain ⟨a, n, c, rfl⟩ := treeBox hv
    have hbb := hb.trans (hb'.mono hb.size)
    exact kidOkE g b ar cr k a n c s W' (bx_keep HX1.out hbb) (HR.out.below hbb)
  obtain ⟨B, HBn⟩ := nameIt (nodeOk g t)
  have HBV : Hid (nodeOk g t = B) := HBn
  obtain ⟨gt, HGT⟩ := nameIt g.terms
  obtain ⟨gn, HGN⟩ := nameIt g.nons
  obtain ⟨gs, HGS⟩ := nameIt g.start
  obtain ⟨R, HRn⟩ := nameIt g.rules
  obtain ⟨r, HRr⟩ := nameIt t.rule
  obtain ⟨tm, HRt⟩ := nameIt t.term
  obtain ⟨K, HKn⟩ := nameIt t.kids
  rw [HGT.out, HGN.out, HGS.out, HRn.out] at X1
  rw [HRr.out, HRt.out, HKn.out] at X2 HW0
  rw [HKn.out] at HKD hc3
  rw [HRn.out] at HR hc1
  unfold nodeOk at HBV
  rw [HRr.out, HRt.out, HKn.out, HGT.out, HRn.out] at HBV
  rw [HRr.out, HRt.out, HKn.out, HBn.out]
  obtain ⟨x0, x1, x2, x3, y0, y1, y2⟩ := cells7 (Below.refl w0.heap.size w0) X1.out X2.out
  clear hx hr hk hb0
  go_enter Tryz.func135, Tryz.ntmps135
  go_upto_region 1 with fail
  rw [HW0.out]
  by_cases h0 : r = -1
  · have hv := HBV.out
    rw [if_pos h0] at hv
    have hrb : (r == -1) = true := by simpa using h0
    clear h0
    by_cases h1 : 0 ≤ tm
    · have b1 : decide (0 ≤ tm) = true := by simpa using h1
      by_cases h2 : tm < gt
      · have b2 : decide (tm < gt) = true := by simpa using h2
        have HE : Hid (B = ((K.length : Int) == 0)) := by show _ = _; rw [← hv, b1, b2, Bool.eq_iff_iff]; simp
        clear hv
        go_wp2_with fail
        go_ret
        exact ⟨by rw [HE.out]; rfl, HB0.out⟩
      · have b2 : decide (tm < gt) = false := by simpa using h2
        obtain rfl : B = false := by rw [← hv, b2]; simp
        clear hv
        go_wp2_with fail
        go_ret
        exact ⟨rfl, HB0.out⟩
    · have b1 : decide (0 ≤ tm) = false := by simpa using h1
      obtain rfl : B = false := by rw [← hv, b1]; simp
      clear hv
      go_wp2_with fail
      go_ret
      exact ⟨rfl, HB0.out⟩
  · have hv := HBV.out
    rw [if_neg h0] at hv
    have hrb : (r == -1) = false := by simpa using h0
    clear h0
    by_cases h1 : r < 0
    · have b1 : decide (r < 0) = true := by simpa using h1
      obtain rfl : B = false := by rw [← hv, if_pos h1]
      clear hv
      go_wp2_with fail
      go_ret
      exact ⟨rfl, HB0.out⟩
    · rw [if_neg h1] at hv
      obtain ⟨j, rfl⟩ := Int.eq_ofNat_of_zero_le (show 0 ≤ r by omega)
      have b1 : decide ((j : Int) < 0) = false := by simp
      by_cases h2 : j < R.length
      · have b2 : decide (R.length ≤ j) = false := by simp; omega
        have b2' : decide ((R.length : Int) ≤ (j : Int)) = false := by simp; omega
        have h2' : (j : Int) < (R.length : Int) := by omega
        have h2'' : (0 : Int) ≤ (j : Int) := by omega
        rw [show R[(j : Int).toNat]? = some R[j] by simp [h2]] at hv
        by_cases h3 : tm = 0
        · subst h3
          obtain ⟨br, orr, vr, hae, -, hbl, -, e1, hkr⟩ := HR.out.rule_at h2
          obtain ⟨av, cv, rfl, -, -⟩ := hkr.form
          rw [List.length_map] at e1 hkr
          obtain ⟨L, HLn⟩ := nameIt (R[j]'h2).right
          rw [HLn.out] at e1 hkr
          have hv' : (decide ((0 : Int) = 0) && kidsOk g K (R[j]'h2).right) = B := hv
          rw [HLn.out] at hv'
          have HE : Hid (eqAll (kidOk g) K L = B) := by show _ = _; rw [← hv']; simp [kidsOk, eqAll]
          clear hv'
          have CE := Lib.hid (fun W (hb : Below w0.heap.size w0 W) => equalFuncTS 137 #[.pointer (some ⟨b, 0, none⟩)] (kidOk g) ak av ck cv K L W (fun _ _ => by kernel_rfl) (PA.out W hb) (HKD.out.below hb) (hkr.below hb))
          rw [HE.out] at CE
          have E1 := Lib.hid e1
          subst hae
          clear hv hkr
          go_upto_region 5 with fail
          go_region_held3 (fun w' => w'.cell? ⟨b, 0, none⟩ = some (.int .i64 gt) ∧ w'.cell? ⟨b, 0 + 1, none⟩ = some (.int .i64 gn) ∧ w'.cell? ⟨b, 0 + 2, none⟩ = some (.int .i64 gs) ∧ w'.cell? ⟨b, 0 + 3, none⟩ = some (.slice (some ⟨br, orr, none⟩) R.length cr) ∧ w'.cell? ⟨w.heap.size, 0, none⟩ = some (.int .i64 j) ∧ w'.cell? ⟨w.heap.size, 0 + 1, none⟩ = some (.int .i64 0) ∧ w'.cell? ⟨w.heap.size, 0 + 2, none⟩ = some (.slice ak K.length ck) ∧ w'.cell? ⟨br, orr + j * 2 + 1, none⟩ = some (.slice av L.length cv))
            (first | exact cells8 (Below.refl _ _).drew X1.out X2.out E1.out | exact cells8 HB1.out X1.out X2.out E1.out | fail)
            (first
              | (go_at_call 136; (with_reducible refine (CE.out _ (Below.refl _ _).drew).mono ?_); rintro e w1 ⟨rfl, hb1⟩; have HB1 : Hid (Below w0.heap.size w0 w1) := (Below.refl _ _).drew.trans hb1; clear hb1)
              | fail)
          go_wp2_with fail
          go_ret
          exact ⟨rfl, HB0.out.trans (HB1.out.mono HB0.out.size)⟩
        · have b3 : (tm != 0) = true := by simpa using h3
          obtain rfl : B = false := by rw [← hv]; simp [h3]
          clear hv h3
          go_wp2_with fail
          go_ret
          exact ⟨rfl, HB0.out⟩
      · have b2 : decide (R.length ≤ j) = true := by simp; omega
        have b2' : decide ((R.length : Int) ≤ (j : Int)) = true := by simp; omega
        obtain rfl : B = false := by rw [← hv, show R[(j : Int).toNat]? = none by simp; omega]
        clear hv
        go_wp2_with fail
        go_ret
        exact ⟨rfl, HB0.out⟩
theorem validF (g : Gram) (b : Nat) (ar : Option Addr) (cr : Nat) (w0 : World) (N : Nat) (hx : w0.heap[b]? = some (.cells #[.int .i64 g.terms, .int .i64 g.nons, .int .i64 g.start, .slice ar g.rules.length cr] 24 (0, 0)))
    (hr : Rd AnyB w0 (.sl (g.rules.map Rule.d)) [.slice ar g.rules.length cr]) : NodeFn 135 #[.pointer (some ⟨b, 0, none⟩)] w0 (nodeOk g) N (ValidI w0) where
  below := fun h => h.1
  own := fun h k hk => absurd hk (h.2 k)
  keep := fun h hb => ⟨h.1.trans (hb.mono h.1.size), h.2⟩
  call := by
    intro s S W t v h hv _
    obtain ⟨a, c, rfl, -, -⟩ := hv.form
    rw [List.length_map] at hv ⊢
    refine (nodeOkE g b ar cr t a c W (bx_keep hx h.1) (hr.below h.1) (hv.below h.1)).mono ?_
    rintro e W' ⟨rfl, hb⟩
    exact ⟨S, rfl, ⟨h.1.trans (hb.mono h.1.size), h.2⟩, Below.keeps hb, fun k hk => .inl hk⟩
set_option maxHeartbeats 1000000 in
set_option maxRecDepth 100000 in
theorem validE (g : Gram) (ar : Option Addr) (cr : Nat) (t : Tree) (at' : Option Addr) (ct : Nat) (w : World) (hr : Rd AnyB w (.sl (g.rules.map Rule.d)) [.slice ar g.rules.length cr]) (hk : Rd AnyB w (.sl (t.kids.map Tree.d)) [.slice at' t.kids.length ct]) :
    Calls Tryz.prog 121 #[.agg #[.int .i64 g.terms, .int .i64 g.nons, .int .i64 g.start, .slice ar g.rules.length cr], .agg #[.int .i64 t.rule, .int .i64 t.term, .slice at' t.kids.length ct]] w fun e w' => e = .returned (.bool (validT g t)) ∧ Below w.heap.size w w' := by
  obtain ⟨w0, HW0⟩ := nameIt ((w.alloc (.cells #[.int .i64 g.terms, .int .i64 g.nons, .int .i64 g.start, .slice ar g.rules.length cr] 24)).alloc (.cells #[.int .i64 t.rule, .int .i64 t.term, .slice at' t.kids.length ct] 31))
  have hb0 : Below w.heap.size w w0 := by rw [← HW0.out]; exact ((Below.refl _ _).alloc (Nat.le_refl _) _).alloc (by simp) _
  have hx : w0.heap[w.heap.size]? = some (.cells #[.int .i64 g.terms, .int .i64 g.nons, .int .i64 g.start, .slice ar g.rules.length cr] 24 (0, 0)) := by
    rw [← HW0.out]; exact bx_keep (bx_new _ _ _ rfl) ((Below.refl _ _).alloc (Nat.le_refl _) _)
  have X2 : Hid (w0.heap[w.heap.size + 1]? = some (.cells #[.int .i64 t.rule, .int .i64 t.term, .slice at' t.kids.length ct] 31 (0, 0))) := by
    rw [← HW0.out]; exact bx_new _ _ _ (by simp)
  have HC := Lib.hid (walkE 135 #[.pointer (some ⟨w.heap.size, 0, none⟩)] w0 (nodeOk g) (nodes t).length (ValidI w0) (fun _ _ => by kernel_rfl) (validF g w.heap.size ar cr w0 _ hx (hr.below hb0)) (nodes t).length t _ [] (fun _ => False) w0 (Nat.le_refl _) ⟨Below.refl _ _, fun _ h => h⟩ (hk.below hb0) (by simp))
  have HB0 := Lib.hid hb0
  obtain ⟨y0, y1, y2⟩ := bx_cells3 X2.out
  obtain ⟨gt, HGT⟩ := nameIt g.terms
  obtain ⟨gn, HGN⟩ := nameIt g.nons
  obtain ⟨gs, HGS⟩ := nameIt g.start
  obtain ⟨n, HKn⟩ := nameIt g.rules.length
  obtain ⟨r, HRr⟩ := nameIt t.rule
  obtain ⟨tm, HRt⟩ := nameIt t.term
  obtain ⟨m, HMn⟩ := nameIt t.kids.length
  rw [HGT.out, HGN.out, HGS.out, HKn.out, HRr.out, HRt.out, HMn.out] at HW0
  rw [HRr.out] at y0
  rw [HRt.out] at y1
  rw [HMn.out] at y2
  rw [HRr.out, HRt.out, HMn.out] at HC
  rw [HGT.out, HGN.out, HGS.out, HKn.out, HRr.out, HRt.out, HMn.out]
  clear hr hk hx hb0
  go_enter Tryz.func121, Tryz.ntmps121
  go_upto_region 1 with fail
  rw [HW0.out]
  go_wp2_with fail
  refine HC.out.mono ?_
  rintro e w1 ⟨S', rfl, ⟨h1, h2⟩, h3, h4⟩
  have HB1 := Lib.hid h1
  obtain ⟨B, HBn⟩ := nameIt ((nodes t).all (nodeOk g))
  rw [HBn.out]
  clear h1 h2 h3 h4
  go_wp2_with fail
  go_ret
  exact ⟨by rw [← HBn.out]; rfl, HB0.out.trans (HB1.out.mono HB0.out.size)⟩
set_option maxHeartbeats 1000000 in
set_option maxRecDepth 100000 in
theorem treeCheckE (g : Gram) (ar : Option Addr) (cr : Nat) (t : Tree) (at' : Option Addr) (ct : Nat) (w : World) (hr : Rd AnyB w (.sl (g.rules.map Rule.d)) [.slice ar g.rules.length cr]) (hk : Rd AnyB w (.sl (t.kids.map Tree.d)) [.slice at' t.kids.length ct]) (hN : (nodes t).length ≤ 1099511627776) :
    Calls Tryz.prog 97 #[.agg #[.int .i64 g.terms, .int .i64 g.nons, .int .i64 g.start, .slice ar g.rules.length cr], .agg #[.int .i64 t.rule, .int .i64 t.term, .slice at' t.kids.length ct]] w fun e w' => e = .returned (.int .i64 (checkT g t)) ∧ Below w.heap.size w w' := by
  obtain ⟨w0, HW0⟩ := nameIt ((w.alloc (.cells #[.int .i64 g.terms, .int .i64 g.nons, .int .i64 g.start, .slice ar g.rules.length cr] 24)).alloc (.cells #[.int .i64 t.rule, .int .i64 t.term, .slice at' t.kids.length ct] 31))
  have hb0 : Below w.heap.size w w0 := by rw [← HW0.out]; exact ((Below.refl _ _).alloc (Nat.le_refl _) _).alloc (by simp) _
  have X1 : Hid (w0.heap[w.heap.size]? = some (.cells #[.int .i64 g.terms, .int .i64 g.nons, .int .i64 g.start, .slice ar g.rules.length cr] 24 (0, 0))) := by
    rw [← HW0.out]; exact bx_keep (bx_new _ _ _ rfl) ((Below.refl _ _).alloc (Nat.le_refl _) _)
  have X2 : Hid (w0.heap[w.heap.size + 1]? = some (.cells #[.int .i64 t.rule, .int .i64 t.term, .slice at' t.kids.length ct] 31 (0, 0))) := by
    rw [← HW0.out]; exact bx_new _ _ _ (by simp)
  have C1 := Lib.hid (checkE g ar cr w0 (hr.below hb0))
  have C2 := Lib.hid (fun W (hb : Below w0.heap.size w0 W) => sizeE t _ W ((hk.below hb0).below hb) (by omega))
  have C3 := Lib.hid (fun W (hb : Below w0.heap.size w0 W) => validE g ar cr t at' ct W ((hr.below hb0).below hb) ((hk.below hb0).below hb))
  have HB0 := Lib.hid hb0
  obtain ⟨E1, HE1⟩ := nameIt (checkG g)
  obtain ⟨M, HM⟩ := nameIt (nodes t).length
  obtain ⟨V, HV⟩ := nameIt (validT g t)
  obtain ⟨B, HBn⟩ := nameIt (checkT g t)
  have HBV : Hid (B = if E1 ≠ 0 then E1 else if 5000 < M then 2 else if V then 0 else 3) := by show _ = _; rw [← HBn.out]; unfold checkT; rw [HE1.out, HM.out, HV.out]
  obtain ⟨gt, HGT⟩ := nameIt g.terms
  obtain ⟨gn, HGN⟩ := nameIt g.nons
  obtain ⟨gs, HGS⟩ := nameIt g.start
  obtain ⟨n, HKn⟩ := nameIt g.rules.length
  obtain ⟨r, HRr⟩ := nameIt t.rule
  obtain ⟨tm, HRt⟩ := nameIt t.term
  obtain ⟨m, HMn⟩ := nameIt t.kids.length
  rw [HGT.out, HGN.out, HGS.out, HKn.out, HRr.out, HRt.out, HMn.out] at HW0
  rw [HGT.out, HGN.out, HGS.out, HKn.out] at X1
  rw [HRr.out, HRt.out, HMn.out] at X2
  rw [HGT.out, HGN.out, HGS.out, HKn.out, HE1.out] at C1
  rw [HRr.out, HRt.out, HMn.out, HM.out] at C2
  rw [HGT.out, HGN.out, HGS.out, HKn.out, HRr.out, HRt.out, HMn.out, HV.out] at C3
  rw [HGT.out, HGN.out, HGS.out, HKn.out, HRr.out, HRt.out, HMn.out, HBn.out]
  rw [HM.out] at hN
  obtain ⟨x0, x1, x2, x3, y0, y1, y2⟩ := cells7 (Below.refl w0.heap.size w0) X1.out X2.out
  clear hr hk hb0
  go_enter Tryz.func97, Tryz.ntmps97
  go_upto_region 1 with fail
  rw [HW0.out]
  go_wp2_with fail
  refine C1.out.mono ?_
  rintro e w1 ⟨rfl, hb1⟩
  have HB1 := Lib.hid hb1
  obtain ⟨x0, x1, x2, x3, y0, y1, y2⟩ := cells7 hb1 X1.out X2.out
  clear hb1
  by_cases h1 : E1 = 0
  · subst h1
    have hv := HBV.out
    rw [if_neg (by simp)] at hv
    have HV2 := Lib.hid hv
    clear hv
    go_wp2_with fail
    refine (C2.out _ HB1.out).mono ?_
    rintro e w2 ⟨rfl, hb2⟩
    have HB2 := Lib.hid (HB1.out.trans (hb2.mono HB1.out.size))
    clear hb2 x0 x1 x2 x3 y0 y1 y2
    obtain ⟨x0, x1, x2, x3, y0, y1, y2⟩ := cells7 HB2.out X1.out X2.out
    by_cases h2 : 5000 < M
    · have h2' : (5000 : Int) < (M : Int) := by omega
      obtain rfl : B = 2 := by rw [HV2.out, if_pos h2]
      go_wp2_with fail
      go_ret
      exact ⟨rfl, HB0.out.trans (HB2.out.mono HB0.out.size)⟩
    · have h2' : ¬ (5000 : Int) < (M : Int) := by omega
      have hv := HV2.out
      rw [if_neg h2] at hv
      have HV3 := Lib.hid hv
      clear hv
      go_wp2_with fail
      refine (C3.out _ HB2.out).mono ?_
      rintro e w3 ⟨rfl, hb3⟩
      have HB3 := Lib.hid (HB2.out.trans (hb3.mono HB2.out.size))
      clear hb3 x0 x1 x2 x3 y0 y1 y2
      cases V with
      | true =>
        obtain rfl : B = 0 := by rw [HV3.out]; rfl
        go_wp2_with fail
        go_ret
        exact ⟨rfl, HB0.out.trans (HB3.out.mono HB0.out.size)⟩
      | false =>
        obtain rfl : B = 3 := by rw [HV3.out]; rfl
        go_wp2_with fail
        go_ret
        exact ⟨rfl, HB0.out.trans (HB3.out.mono HB0.out.size)⟩
  · have hne : (E1 != 0) = true := by simpa using h1
    obtain rfl : B = E1 := by rw [HBV.out, if_pos h1]
    clear h1
    go_wp2_with fail
    go_ret
    exact ⟨rfl, HB0.out.trans (HB1.out.mono HB0.out.size)⟩
end Go.Proofs.YtfocooehnmpndaaGreat
