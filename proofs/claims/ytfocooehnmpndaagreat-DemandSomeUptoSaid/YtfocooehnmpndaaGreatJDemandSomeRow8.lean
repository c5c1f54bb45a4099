/- (*Table).Equation. (*Table).Needs. The maps of numbers of demand.Table: a number for each place, 0 where none was put. (*Table).Get$1: the value of an occurrence. Plain: what is known of each instance of a checked system over a valid tree. What Table.Get keeps: its two maps of numbers; values lie in range. The contracts of attr.Calc and slices.Max. -/
import Derived.Test.YtfocooehnmpndaaGreatJDemandSomeRow7
import Derived.Test.YtfocooehnmpndaaGreatJDemandSomeRow3
import Derived.Lib.RowBridge
import Derived.Test.YtfocooehnmpndaaGreatJDemandSomeRow1
import Derived.Deep.LoopGhost
import Derived.Deep.DeepCutAuto
import Derived.Lib.MinMax
import Derived.BigQuiet
import Derived.IntWalk
namespace Go.Proofs.YtfocooehnmpndaaGreat
open Go.RowKit
namespace Dm
open At (Ref)
theorem bx_cells4e {w : World} {b : Nat} {x0 x1 x2 x3 : Value} {T : TypeId} (h : w.heap[b]? = some (.cells #[x0, x1, x2, x3] T (0, 0))) : w.cell? ⟨b, 0, none⟩ = some x0 ∧ w.cell? ⟨b, 0 + 1, none⟩ = some x1 ∧ w.cell? ⟨b, 0 + 2, none⟩ = some x2 ∧ w.cell? ⟨b, 0 + 3, none⟩ = some x3 := by
  refine ⟨?_, ?_, ?_, ?_⟩ <;> simp [World.cell?, h]
theorem drew_at {w : World} {b : Nat} {x : Obj} (h : w.heap[b]? = some x) : w.drew.heap[b]? = some x := h
theorem inv_setc {md : Region.Mode} {ops : Array Oper} {n i : Nat} {listed : Array Bool} (inv : HeadInv md ops n listed) (hr : (Region.ready md ops listed).contains i = true) (hin : i < n) : HeadInv md ops n (listed.setIfInBounds i true) := inv.set (by simpa using hr) hin
structure EqOk (s : At.Sys) (L : List Nd) (n a o : Nat) (q : At.Eqn) : Prop where
  hn : n < L.length
  ho : o < L.length
  ha : a < s.attrs.length
  hq : q ∈ s.eqs
  ok : okQ q
  ca : (s.attrs[a].inh = true ∧ L[n].up = (o : Int) ∧ q.rule = L[o].rule ∧ q.to' = ⟨L[n].pos, (a : Int)⟩) ∨ (s.attrs[a].inh = false ∧ o = n ∧ q.rule = L[n].rule ∧ q.to' = ⟨0, (a : Int)⟩)
def EquPost (q : At.Eqn) (o : Nat) (vb sb : Nat) (W : World) (e : Ending) (w' : World) : Prop := ∃ v, e = .returned (.tuple #[.agg #[.int .i64 q.is'.kind, .int .i64 q.is'.n, .int .i64 q.is'.ref.at', .int .i64 q.is'.ref.attr, v], .int .i64 o]) ∧ Rd (PT vb sb) W (.sl (q.is'.args.map At.Expr.d)) [v] ∧ Below W.heap.size W w'
set_option maxHeartbeats 4000000 in
set_option maxRecDepth 100000 in
theorem equationE (g : Gram) (s : At.Sys) (L : List Nd) (tb eb vb sb : Nat) (n a o : Nat) (q : At.Eqn) (W : World) (h : TbS g s L tb eb vb sb W) (hk : EqOk s L n a o q) :
    Calls Tryz.prog 81 #[.pointer (some ⟨tb, 0, none⟩), .agg #[.int .i64 n, .int .i64 a]] W (EquPost q o vb sb W) := by
  obtain ⟨hn, ho, ha, hq, hok, hca⟩ := hk
  obtain ⟨⟨ar, cr, aa, ac, qa, qn, qc, na, nc, h1, h2, h3, h4⟩, h5, h6⟩ := h
  obtain ⟨PST, HP⟩ := nameIt (EquPost q o vb sb W)
  obtain ⟨ve, hlook, hve⟩ := h5.look hq hok
  obtain ⟨va, vl, vc, rfl⟩ : ∃ x y z, ve = .slice x y z := (by obtain ⟨x, y, e, -, -⟩ := hve.form; exact ⟨_, _, _, e⟩)
  have HFIN : Hid (∀ w', Below W.heap.size W w' → PST (.returned (.tuple #[.agg #[.int .i64 q.is'.kind, .int .i64 q.is'.n, .int .i64 q.is'.ref.at', .int .i64 q.is'.ref.attr, .slice va vl vc], .int .i64 o])) w') := fun w' h1 => by rw [← HP.out]; exact ⟨_, rfl, hve, h1⟩
  rw [HP.out]
  clear HP
  obtain ⟨hn1, hn2⟩ := h4.bounds.2
  obtain ⟨ha1, ha2⟩ := h3.bounds.2
  unfold maxLen at hn2 ha2
  obtain ⟨nb, no, vk, hne, -, hnl, d0, d1, d2, d3, hkr⟩ := Rd.nd_at h4 hn
  obtain ⟨ka, kc, rfl, -, -⟩ := hkr.form
  obtain ⟨kl, HKL⟩ := nameIt ((L[n]'hn).kids.map D.int).length
  rw [HKL.out] at d3
  clear hkr HKL
  obtain ⟨nb', no', vk', hne', -, hnl', d0', d1', d2', d3', -⟩ := Rd.nd_at h4 ho
  obtain ⟨ab, ao, hae, -, hal, b0, b1⟩ := At.Rd.attr_at h3 ha
  subst hne hae
  obtain ⟨rfl, rfl⟩ : nb = nb' ∧ no = no' := by simpa using hne'
  clear hne' d2' d1' d3' hnl hnl'
  obtain ⟨nr, HNR⟩ := nameIt (L[n]'hn).rule
  obtain ⟨nu, HNU⟩ := nameIt (L[n]'hn).up
  obtain ⟨np, HNP⟩ := nameIt (L[n]'hn).pos
  obtain ⟨orr, HOR⟩ := nameIt (L[o]'ho).rule
  obtain ⟨inh, HIN⟩ := nameIt (s.attrs[a]'ha).inh
  obtain ⟨LN, HLN⟩ := nameIt L.length
  obtain ⟨K, HKn⟩ := nameIt g.rules.length
  obtain ⟨AN, HAN⟩ := nameIt s.attrs.length
  obtain ⟨gt, HGT⟩ := nameIt g.terms
  obtain ⟨gn, HGN⟩ := nameIt g.nons
  obtain ⟨gs, HGS⟩ := nameIt g.start
  rw [HNR.out] at d0 hca
  rw [HNU.out] at d1 hca
  rw [HNP.out] at d2 hca
  rw [HOR.out] at d0' hca
  rw [HIN.out] at b1 hca
  rw [HGT.out, HGN.out, HGS.out, HKn.out, HAN.out, HLN.out] at h1
  rw [HLN.out] at hn ho hn1
  rw [HAN.out] at ha ha1
  obtain ⟨ek, HEK⟩ := nameIt q.is'.kind
  obtain ⟨en, HEN⟩ := nameIt q.is'.n
  obtain ⟨ea, HEA⟩ := nameIt q.is'.ref.at'
  obtain ⟨eb', HEB⟩ := nameIt q.is'.ref.attr
  obtain ⟨q0, HQ0⟩ := nameIt q.rule
  obtain ⟨q1, HQ1⟩ := nameIt q.to'.at'
  obtain ⟨q2, HQ2⟩ := nameIt q.to'.attr
  simp only [HEK.out, HEN.out, HEA.out, HEB.out, HQ0.out, HQ1.out, HQ2.out] at hlook HFIN
  replace hca : (inh = true ∧ nu = (o : Int) ∧ q0 = orr ∧ q1 = np ∧ q2 = (a : Int)) ∨ (inh = false ∧ o = n ∧ q0 = nr ∧ q1 = 0 ∧ q2 = (a : Int)) := by
    rw [HQ0.out] at hca
    rcases hca with ⟨c1, c2, c3, c4⟩ | ⟨c1, c2, c3, c4⟩
    · rw [c4] at HQ1 HQ2; exact .inl ⟨c1, c2, c3, HQ1.out.symm, HQ2.out.symm⟩
    · rw [c4] at HQ1 HQ2; exact .inr ⟨c1, c2, c3, HQ1.out.symm, HQ2.out.symm⟩
  have hlt := (Array.getElem?_eq_some_iff.1 h1).1
  obtain ⟨w0, HW0⟩ := nameIt ((W.alloc (.cells #[.int .i64 n, .int .i64 a] 104)).alloc (.cells #[.int .i64 0, .int .i64 0, .int .i64 0, .int .i64 0, .slice none 0 0] 86))
  have hb0 : Below W.heap.size W w0 := by rw [← HW0.out]; exact ((Below.refl _ _).alloc (Nat.le_refl _) _).alloc (by simp) _
  have X1 : Hid (w0.heap[W.heap.size]? = some (.cells #[.int .i64 n, .int .i64 a] 104 (0, 0))) := by rw [← HW0.out]; exact bx_keep (bx_new _ _ _ rfl) ((Below.refl _ _).alloc (Nat.le_refl _) _)
  have X2 : Hid (w0.heap[W.heap.size + 1]? = some (.cells #[.int .i64 0, .int .i64 0, .int .i64 0, .int .i64 0, .slice none 0 0] 86 (0, 0))) := by rw [← HW0.out]; exact bx_new _ _ _ (by simp)
  have HB0 := Lib.hid hb0
  have HSZ : Hid (w0.heap.size = W.heap.size + 2) := by show _ = _; rw [← HW0.out]; simp
  -- what is read
  have RT : ∀ w', Below W.heap.size W w' → w'.cell? ⟨tb, 0 + 6, none⟩ = some (.slice (some ⟨nb, no, none⟩) LN nc) ∧ w'.cell? ⟨tb, 0 + 4, none⟩ = some (.slice (some ⟨ab, ao, none⟩) AN ac) ∧ w'.cell? ⟨tb, 0 + 7, none⟩ = some (.map (some eb)) ∧ w'.cell? ⟨nb, no + n * 4, none⟩ = some (.int .i64 nr) ∧ w'.cell? ⟨nb, no + n * 4 + 1, none⟩ = some (.int .i64 nu) ∧ w'.cell? ⟨nb, no + n * 4 + 2, none⟩ = some (.int .i64 np) ∧ w'.cell? ⟨nb, no + n * 4 + 3, none⟩ = some (.slice ka kl kc) ∧ w'.cell? ⟨nb, no + o * 4, none⟩ = some (.int .i64 orr) ∧ w'.cell? ⟨ab, ao + a * 2 + 1, none⟩ = some (.bool inh) := fun w' hb => by
    obtain ⟨x0, x1, x2, x3, x4, x5, x6, x7, x8, x9⟩ := bx_cells10 (bx_keep h1 hb)
    have k : ∀ {p : Addr} {v : Value}, W.cell? p = some v → w'.cell? p = some v := fun e => (hb.cell (lt_of_cell e)).trans e
    exact ⟨x6, x4, x7, k d0, k d1, k d2, k d3, k d0', k b1⟩
  have HRT := Lib.hid RT
  have HLK := Lib.hid hlook
  clear hlook hve RT
  clear h1 h2 h3 h4 h5 h6 d0 d1 d2 d3 d0' b0 b1 HNR HNU HNP HOR HIN HLN HKn HAN HGT HGN HGS HEK HEN HEA HEB HQ0 HQ1 HQ2 hok hq hb0
  have hn' : (n : Int) < (LN : Int) := by omega
  have hnc : (n : Int) ≤ (nc : Int) := by omega
  have ho' : (o : Int) < (LN : Int) := by omega
  have hoc : (o : Int) ≤ (nc : Int) := by omega
  have ha' : (a : Int) < (AN : Int) := by omega
  have hac : (a : Int) ≤ (ac : Int) := by omega
  go_enter Tryz.func81, Tryz.ntmps81
  go_upto_region 1 with fail
  rw [HW0.out]
  clear HW0
  have HS1 : Hid (∀ w', Below w0.heap.size w0 w' → w'.cell? ⟨tb, 0 + 6, none⟩ = some (.slice (some ⟨nb, no, none⟩) LN nc) ∧ w'.cell? ⟨W.heap.size, 0, none⟩ = some (.int .i64 n) ∧ w'.cell? ⟨nb, no + n * 4, none⟩ = some (.int .i64 nr) ∧ w'.cell? ⟨nb, no + n * 4 + 1, none⟩ = some (.int .i64 nu) ∧ w'.cell? ⟨nb, no + n * 4 + 2, none⟩ = some (.int .i64 np) ∧ w'.cell? ⟨nb, no + n * 4 + 3, none⟩ = some (.slice ka kl kc)) := fun w' hb => by
    obtain ⟨r6, r4, r7, e0, e1, e2, e3, e4, e5⟩ := HRT.out w' (HB0.out.trans (hb.mono HB0.out.size))
    exact ⟨r6, (bx_cells2 (bx_keep X1.out hb)).1, e0, e1, e2, e3⟩
  refine wp_region_U (S := (fun w' => w'.cell? ⟨tb, 0 + 6, none⟩ = some (.slice (some ⟨nb, no, none⟩) LN nc) ∧ w'.cell? ⟨W.heap.size, 0, none⟩ = some (.int .i64 n) ∧ w'.cell? ⟨nb, no + n * 4, none⟩ = some (.int .i64 nr) ∧ w'.cell? ⟨nb, no + n * 4 + 1, none⟩ = some (.int .i64 nu) ∧ w'.cell? ⟨nb, no + n * 4 + 2, none⟩ = some (.int .i64 np) ∧ w'.cell? ⟨nb, no + n * 4 + 3, none⟩ = some (.slice ka kl kc))) 9 (by kernel_rfl) (fun inv => ?_)
  refine wpU_take (i := 0) (v := .pointer (some ⟨tb, 0, none⟩)) rfl inv (by kernel_rfl) (by kernel_rfl) (by decide) (by decide) (by kernel_rfl) (by kernel_rfl) (by kernel_rfl) (fun _ _ _ h => h) (Or.inl ⟨by rfl, fun w' hw' => ?_⟩) (HS1.out _ (Below.refl _ _).drew) (fun inv => ?_)
  · obtain ⟨h0, h1, h2, h3, h4, h5⟩ := hw'
    go_simp
  try simp only [Act.put, List.setIfInBounds_toArray, List.set_cons_zero, List.set_cons_succ]
  refine wpU_take (i := 1) (v := .pointer (some ⟨tb, 0, none⟩)) rfl inv (by kernel_rfl) (by kernel_rfl) (by decide) (by decide) (by kernel_rfl) (by kernel_rfl) (by kernel_rfl) (fun _ _ _ h => h) (Or.inl ⟨by rfl, fun w' hw' => ?_⟩) (HS1.out _ (Below.refl _ _).drew) (fun inv => ?_)
  · obtain ⟨h0, h1, h2, h3, h4, h5⟩ := hw'
    go_simp
  try simp only [Act.put, List.setIfInBounds_toArray, List.set_cons_zero, List.set_cons_succ]
  refine wpU_take (i := 2) (v := .pointer (some ⟨tb, 0 + 6, none⟩)) rfl inv (by kernel_rfl) (by kernel_rfl) (by decide) (by decide) (by kernel_rfl) (by kernel_rfl) (by kernel_rfl) (fun _ _ _ h => h) (Or.inl ⟨by rfl, fun w' hw' => ?_⟩) (HS1.out _ (Below.refl _ _).drew) (fun inv => ?_)
  · obtain ⟨h0, h1, h2, h3, h4, h5⟩ := hw'
    go_simp
  try simp only [Act.put, List.setIfInBounds_toArray, List.set_cons_zero, List.set_cons_succ]
  refine wpU_take (i := 3) (v := .slice (some ⟨nb, no, none⟩) LN nc) rfl inv (by kernel_rfl) (by kernel_rfl) (by decide) (by decide) (by kernel_rfl) (by kernel_rfl) (by kernel_rfl) (fun _ _ _ h => h) (Or.inl ⟨by rfl, fun w' hw' => ?_⟩) (HS1.out _ (Below.refl _ _).drew) (fun inv => ?_)
  · obtain ⟨h0, h1, h2, h3, h4, h5⟩ := hw'
    go_simp
  try simp only [Act.put, List.setIfInBounds_toArray, List.set_cons_zero, List.set_cons_succ]
  refine wpU_take (i := 4) (v := .pointer (some ⟨W.heap.size, 0, none⟩)) rfl inv (by kernel_rfl) (by kernel_rfl) (by decide) (by decide) (by kernel_rfl) (by kernel_rfl) (by kernel_rfl) (fun _ _ _ h => h) (Or.inl ⟨by rfl, fun w' hw' => ?_⟩) (HS1.out _ (Below.refl _ _).drew) (fun inv => ?_)
  · obtain ⟨h0, h1, h2, h3, h4, h5⟩ := hw'
    go_simp
  try simp only [Act.put, List.setIfInBounds_toArray, List.set_cons_zero, List.set_cons_succ]
  refine wpU_take (i := 5) (v := .int .i64 (n : Nat)) rfl inv (by kernel_rfl) (by kernel_rfl) (by decide) (by decide) (by kernel_rfl) (by kernel_rfl) (by kernel_rfl) (fun _ _ _ h => h) (Or.inl ⟨by rfl, fun w' hw' => ?_⟩) (HS1.out _ (Below.refl _ _).drew) (fun inv => ?_)
  · obtain ⟨h0, h1, h2, h3, h4, h5⟩ := hw'
    go_simp
  try simp only [Act.put, List.setIfInBounds_toArray, List.set_cons_zero, List.set_cons_succ]
  refine wpU_take (i := 6) (v := .pointer (some ⟨nb, no + n * 4, none⟩)) rfl inv (by kernel_rfl) (by kernel_rfl) (by decide) (by decide) (by kernel_rfl) (by kernel_rfl) (by kernel_rfl) (fun _ _ _ h => h) (Or.inl ⟨by rfl, fun w' hw' => ?_⟩) (HS1.out _ (Below.refl _ _).drew) (fun inv => ?_)
  · obtain ⟨h0, h1, h2, h3, h4, h5⟩ := hw'
    go_simp
  try simp only [Act.put, List.setIfInBounds_toArray, List.set_cons_zero, List.set_cons_succ]
  refine wpU_take (i := 7) (v := .agg #[.int .i64 nr, .int .i64 nu, .int .i64 np, .slice ka kl kc]) rfl inv (by kernel_rfl) (by kernel_rfl) (by decide) (by decide) (by kernel_rfl) (by kernel_rfl) (by kernel_rfl) (fun _ _ _ h => h) (Or.inl ⟨by rfl, fun w' hw' => ?_⟩) (HS1.out _ (Below.refl _ _).drew) (fun inv => ?_)
  · obtain ⟨h0, h1, h2, h3, h4, h5⟩ := hw'
    go_simp
  try simp only [Act.put, List.setIfInBounds_toArray, List.set_cons_zero, List.set_cons_succ]
  refine wpU_one (i := 8) (by kernel_rfl) rfl (fun K hK => ?_)
  replace inv := inv_setc (i := 8) inv (by kernel_rfl) (by decide)
  go_simp
  have HCQ := Lib.hid (HS1.out _ ((Below.refl _ w0).drew.alloc (Nat.le_refl _) (.cells #[.int .i64 0, .int .i64 0, .int .i64 0, .slice none 0 0] 137)))
  refine hK.out _ _ (fun _ => HCQ.out) ?_
  clear hK K
  try simp only [Act.put, List.setIfInBounds_toArray, List.set_cons_zero, List.set_cons_succ]
  refine wpU_one (i := 9) (by kernel_rfl) rfl (fun K hK => ?_)
  go_simp
  refine hK.out _ _ (fun h => absurd (show true = false from h) (by decide)) ?_
  clear hK K
  try simp only [Act.put, List.setIfInBounds_toArray, List.set_cons_zero, List.set_cons_succ]
  refine wpU_done (by kernel_rfl) ?_ _
  obtain ⟨w1, HW1⟩ := nameIt (w0.alloc (.cells #[.int .i64 nr, .int .i64 nu, .int .i64 np, .slice ka kl kc] 137)).drew
  have Hb1 : Hid (Below w0.heap.size w0 w1) := by show Below _ _ _; rw [← HW1.out]; exact ((Below.refl _ _).alloc (Nat.le_refl _) _).drew
  have X3 : Hid (w1.heap[w0.heap.size]? = some (.cells #[.int .i64 nr, .int .i64 nu, .int .i64 np, .slice ka kl kc] 137 (0, 0))) := by show _ = _; rw [← HW1.out]; exact bx_new _ _ _ rfl
  rw [HW1.out]
  clear HW1
  have HB1 : Hid (Below W.heap.size W w1) := HB0.out.trans (Hb1.out.mono HB0.out.size)
  have Y1 : Hid (w1.heap[W.heap.size]? = some (.cells #[.int .i64 n, .int .i64 a] 104 (0, 0))) := bx_keep X1.out Hb1.out
  have Y2 : Hid (w1.heap[W.heap.size + 1]? = some (.cells #[.int .i64 0, .int .i64 0, .int .i64 0, .int .i64 0, .slice none 0 0] 86 (0, 0))) := bx_keep X2.out Hb1.out
  have HEND : Hid (∀ w', Below w1.heap.size w1 w' → PST (.returned (.tuple #[.agg #[.int .i64 ek, .int .i64 en, .int .i64 ea, .int .i64 eb', .slice va vl vc], .int .i64 o])) (((((w'.setCell ⟨W.heap.size + 1, 0, none⟩ (.int .i64 ek)).setCell ⟨W.heap.size + 1, 0 + 1, none⟩ (.int .i64 en)).setCell ⟨W.heap.size + 1, 0 + 2, none⟩ (.int .i64 ea)).setCell ⟨W.heap.size + 1, 0 + 3, none⟩ (.int .i64 eb')).setCell ⟨W.heap.size + 1, 0 + 4, none⟩ (.slice va vl vc)).drew) := fun w' hb => HFIN.out _ ((((((HB1.out.trans (hb.mono HB1.out.size)).setCell (show W.heap.size ≤ W.heap.size + 1 by omega) _).setCell (show W.heap.size ≤ W.heap.size + 1 by omega) _).setCell (show W.heap.size ≤ W.heap.size + 1 by omega) _).setCell (show W.heap.size ≤ W.heap.size + 1 by omega) _).setCell (show W.heap.size ≤ W.heap.size + 1 by omega) _).drew
  clear HFIN
  obtain ⟨bn, HBN⟩ := nameIt w0.heap.size
  rw [HBN.out] at X3
  rw [HBN.out]
  have HLT : Hid (W.heap.size + 1 < w1.heap.size) := (Array.getElem?_eq_some_iff.1 Y2.out).1
  have HR1 : Hid (∀ w', Below w1.heap.size w1 w' → Below W.heap.size W w') := fun w' hb => HB1.out.trans (hb.mono HB1.out.size)
  have HNE : Hid (bn ≠ W.heap.size + 1) := by show _ ≠ _; rw [← HBN.out, HSZ.out]; omega
  clear HBN Hb1 HS1 X1 X2 HB0
  rcases hca with ⟨rfl, rfl, rfl, rfl, rfl⟩ | ⟨rfl, rfl, rfl, rfl, rfl⟩
  · have HLKC := Lib.hid (fun w' (hb : Below w1.heap.size w1 w') => HLK.out w' (HR1.out w' hb))
    obtain ⟨r6, r4, r7, e0, e1, e2, e3, e4, e5⟩ := HR1.out w1 (Below.refl _ _) |> HRT.out w1
    obtain ⟨y0, y1⟩ := bx_cells2 Y1.out
    have ar4 := aft_cell r4
    have ay1 := aft_cell y1
    have ae5 := aft_cell e5
    clear r6 r4 r7 e0 e1 e2 e3 e4 e5 y0 y1
    go_upto_region 2 with fail
    refine wp_region_after (w0 := w1) (by kernel_rfl) (by kernel_rfl) ?_
    repeat (go_big_quiet_step (fail))
    refine wpQuiet_nil ?_
    rintro w2 ⟨⟨_, hb2⟩, rfl⟩
    have HB2 : Hid (Below w1.heap.size w1 w2) := hb2
    clear hb2 ar4 ay1 ae5
    go_upto_region 3 with fail
    have HS : Hid (∀ w', Below w1.heap.size w1 w' → (fun w' => w'.cell? ⟨tb, 0 + 7, none⟩ = some (.map (some eb)) ∧ w'.cell? ⟨tb, 0 + 6, none⟩ = some (.slice (some ⟨nb, no, none⟩) LN nc) ∧ w'.cell? ⟨bn, 0 + 1, none⟩ = some (.int .i64 (o : Int)) ∧ w'.cell? ⟨nb, no + o * 4, none⟩ = some (.int .i64 q0) ∧ w'.cell? ⟨bn, 0 + 2, none⟩ = some (.int .i64 q1) ∧ w'.cell? ⟨W.heap.size, 0 + 1, none⟩ = some (.int .i64 (a : Int)) ∧ (Instr.lookup 128 (.map (some eb)) (.agg #[.int .i64 q0, .int .i64 q1, .int .i64 (a : Int)]) false).run Tryz.prog w' = .ok (.agg #[.int .i64 ek, .int .i64 en, .int .i64 ea, .int .i64 eb', .slice va vl vc]) w') w') := fun w' hb => by
      obtain ⟨r6, r4, r7, e0, e1, e2, e3, e4, e5⟩ := HRT.out w' (HR1.out w' hb)
      obtain ⟨y0, y1⟩ := bx_cells2 (bx_keep Y1.out hb)
      obtain ⟨u0, u1, u2, u3⟩ := bx_cells4e (bx_keep X3.out hb)
      exact ⟨r7, r6, u1, e4, u2, y1, HLKC.out w' hb⟩
    have HSW : Hid ((fun w' => w'.cell? ⟨tb, 0 + 7, none⟩ = some (.map (some eb)) ∧ w'.cell? ⟨tb, 0 + 6, none⟩ = some (.slice (some ⟨nb, no, none⟩) LN nc) ∧ w'.cell? ⟨bn, 0 + 1, none⟩ = some (.int .i64 (o : Int)) ∧ w'.cell? ⟨nb, no + o * 4, none⟩ = some (.int .i64 q0) ∧ w'.cell? ⟨bn, 0 + 2, none⟩ = some (.int .i64 q1) ∧ w'.cell? ⟨W.heap.size, 0 + 1, none⟩ = some (.int .i64 (a : Int)) ∧ (Instr.lookup 128 (.map (some eb)) (.agg #[.int .i64 q0, .int .i64 q1, .int .i64 (a : Int)]) false).run Tryz.prog w' = .ok (.agg #[.int .i64 ek, .int .i64 en, .int .i64 ea, .int .i64 eb', .slice va vl vc]) w') (((((w2.setCell ⟨W.heap.size + 1, 0, none⟩ (.int .i64 ek)).setCell ⟨W.heap.size + 1, 0 + 1, none⟩ (.int .i64 en)).setCell ⟨W.heap.size + 1, 0 + 2, none⟩ (.int .i64 ea)).setCell ⟨W.heap.size + 1, 0 + 3, none⟩ (.int .i64 eb')).setCell ⟨W.heap.size + 1, 0 + 4, none⟩ (.slice va vl vc)).drew) := by
      have hb : Below W.heap.size W (((((w2.setCell ⟨W.heap.size + 1, 0, none⟩ (.int .i64 ek)).setCell ⟨W.heap.size + 1, 0 + 1, none⟩ (.int .i64 en)).setCell ⟨W.heap.size + 1, 0 + 2, none⟩ (.int .i64 ea)).setCell ⟨W.heap.size + 1, 0 + 3, none⟩ (.int .i64 eb')).setCell ⟨W.heap.size + 1, 0 + 4, none⟩ (.slice va vl vc)) := ((((((HR1.out w2 HB2.out).setCell (show W.heap.size ≤ W.heap.size + 1 by omega) _).setCell (show W.heap.size ≤ W.heap.size + 1 by omega) _).setCell (show W.heap.size ≤ W.heap.size + 1 by omega) _).setCell (show W.heap.size ≤ W.heap.size + 1 by omega) _).setCell (show W.heap.size ≤ W.heap.size + 1 by omega) _)
      obtain ⟨r6, r4, r7, e0, e1, e2, e3, e4, e5⟩ := HRT.out _ hb.drew
      obtain ⟨y0, y1⟩ := bx_cells2 (drew_at (bx_other (bx_other (bx_other (bx_other (bx_other (bx_keep Y1.out HB2.out) (show W.heap.size ≠ W.heap.size + 1 by omega) _ _) (show W.heap.size ≠ W.heap.size + 1 by omega) _ _) (show W.heap.size ≠ W.heap.size + 1 by omega) _ _) (show W.heap.size ≠ W.heap.size + 1 by omega) _ _) (show W.heap.size ≠ W.heap.size + 1 by omega) _ _))
      obtain ⟨u0, u1, u2, u3⟩ := bx_cells4e (drew_at (bx_other (bx_other (bx_other (bx_other (bx_other (bx_keep X3.out HB2.out) HNE.out _ _) HNE.out _ _) HNE.out _ _) HNE.out _ _) HNE.out _ _))
      exact ⟨r7, r6, u1, e4, u2, y1, HLK.out _ hb.drew⟩
    obtain ⟨z0, z1, z2, z3, z4⟩ := At.bx_cells5 (bx_keep Y2.out HB2.out)
    obtain ⟨f0, f1, f2, f3, f4⟩ := At.bx_free5 (bx_keep Y2.out HB2.out)
    refine wp_region_U (S := (fun w' => w'.cell? ⟨tb, 0 + 7, none⟩ = some (.map (some eb)) ∧ w'.cell? ⟨tb, 0 + 6, none⟩ = some (.slice (some ⟨nb, no, none⟩) LN nc) ∧ w'.cell? ⟨bn, 0 + 1, none⟩ = some (.int .i64 (o : Int)) ∧ w'.cell? ⟨nb, no + o * 4, none⟩ = some (.int .i64 q0) ∧ w'.cell? ⟨bn, 0 + 2, none⟩ = some (.int .i64 q1) ∧ w'.cell? ⟨W.heap.size, 0 + 1, none⟩ = some (.int .i64 (a : Int)) ∧ (Instr.lookup 128 (.map (some eb)) (.agg #[.int .i64 q0, .int .i64 q1, .int .i64 (a : Int)]) false).run Tryz.prog w' = .ok (.agg #[.int .i64 ek, .int .i64 en, .int .i64 ea, .int .i64 eb', .slice va vl vc]) w')) 23 (by kernel_rfl) (fun inv => ?_)
    refine wpU_take (i := 0) (v := .pointer (some ⟨tb, 0, none⟩)) rfl inv (by kernel_rfl) (by kernel_rfl) (by decide) (by decide) (by kernel_rfl) (by kernel_rfl) (by kernel_rfl) (fun _ _ _ h => h) (Or.inl ⟨by rfl, fun w' hw' => ?_⟩) (HS.out _ HB2.out.drew) (fun inv => ?_)
    · obtain ⟨h0, h1, h2, h3, h4, h5, h6⟩ := hw'
      go_simp
    try simp only [Act.put, List.setIfInBounds_toArray, List.set_cons_zero, List.set_cons_succ]
    refine wpU_take (i := 1) (v := .pointer (some ⟨tb, 0, none⟩)) rfl inv (by kernel_rfl) (by kernel_rfl) (by decide) (by decide) (by kernel_rfl) (by kernel_rfl) (by kernel_rfl) (fun _ _ _ h => h) (Or.inl ⟨by rfl, fun w' hw' => ?_⟩) (HS.out _ HB2.out.drew) (fun inv => ?_)
    · obtain ⟨h0, h1, h2, h3, h4, h5, h6⟩ := hw'
      go_simp
    try simp only [Act.put, List.setIfInBounds_toArray, List.set_cons_zero, List.set_cons_succ]
    refine wpU_take (i := 2) (v := .pointer (some ⟨tb, 0 + 7, none⟩)) rfl inv (by kernel_rfl) (by kernel_rfl) (by decide) (by decide) (by kernel_rfl) (by kernel_rfl) (by kernel_rfl) (fun _ _ _ h => h) (Or.inl ⟨by rfl, fun w' hw' => ?_⟩) (HS.out _ HB2.out.drew) (fun inv => ?_)
    · obtain ⟨h0, h1, h2, h3, h4, h5, h6⟩ := hw'
      go_simp
    try simp only [Act.put, List.setIfInBounds_toArray, List.set_cons_zero, List.set_cons_succ]
    refine wpU_take (i := 3) (v := .map (some eb)) rfl inv (by kernel_rfl) (by kernel_rfl) (by decide) (by decide) (by kernel_rfl) (by kernel_rfl) (by kernel_rfl) (fun _ _ _ h => h) (Or.inl ⟨by rfl, fun w' hw' => ?_⟩) (HS.out _ HB2.out.drew) (fun inv => ?_)
    · obtain ⟨h0, h1, h2, h3, h4, h5, h6⟩ := hw'
      go_simp
    try simp only [Act.put, List.setIfInBounds_toArray, List.set_cons_zero, List.set_cons_succ]
    refine wpU_take (i := 4) (v := .pointer (some ⟨tb, 0, none⟩)) rfl inv (by kernel_rfl) (by kernel_rfl) (by decide) (by decide) (by kernel_rfl) (by kernel_rfl) (by kernel_rfl) (fun _ _ _ h => h) (Or.inl ⟨by rfl, fun w' hw' => ?_⟩) (HS.out _ HB2.out.drew) (fun inv => ?_)
    · obtain ⟨h0, h1, h2, h3, h4, h5, h6⟩ := hw'
      go_simp
    try simp only [Act.put, List.setIfInBounds_toArray, List.set_cons_zero, List.set_cons_succ]
    refine wpU_take (i := 5) (v := .pointer (some ⟨tb, 0, none⟩)) rfl inv (by kernel_rfl) (by kernel_rfl) (by decide) (by decide) (by kernel_rfl) (by kernel_rfl) (by kernel_rfl) (fun _ _ _ h => h) (Or.inl ⟨by rfl, fun w' hw' => ?_⟩) (HS.out _ HB2.out.drew) (fun inv => ?_)
    · obtain ⟨h0, h1, h2, h3, h4, h5, h6⟩ := hw'
      go_simp
    try simp only [Act.put, List.setIfInBounds_toArray, List.set_cons_zero, List.set_cons_succ]
    refine wpU_take (i := 6) (v := .pointer (some ⟨tb, 0 + 6, none⟩)) rfl inv (by kernel_rfl) (by kernel_rfl) (by decide) (by decide) (by kernel_rfl) (by kernel_rfl) (by kernel_rfl) (fun _ _ _ h => h) (Or.inl ⟨by rfl, fun w' hw' => ?_⟩) (HS.out _ HB2.out.drew) (fun inv => ?_)
    · obtain ⟨h0, h1, h2, h3, h4, h5, h6⟩ := hw'
      go_simp
    try simp only [Act.put, List.setIfInBounds_toArray, List.set_cons_zero, List.set_cons_succ]
    refine wpU_take (i := 7) (v := .slice (some ⟨nb, no, none⟩) LN nc) rfl inv (by kernel_rfl) (by kernel_rfl) (by decide) (by decide) (by kernel_rfl) (by kernel_rfl) (by kernel_rfl) (fun _ _ _ h => h) (Or.inl ⟨by rfl, fun w' hw' => ?_⟩) (HS.out _ HB2.out.drew) (fun inv => ?_)
    · obtain ⟨h0, h1, h2, h3, h4, h5, h6⟩ := hw'
      go_simp
    try simp only [Act.put, List.setIfInBounds_toArray, List.set_cons_zero, List.set_cons_succ]
    refine wpU_take (i := 8) (v := .pointer (some ⟨bn, 0 + 1, none⟩)) rfl inv (by kernel_rfl) (by kernel_rfl) (by decide) (by decide) (by kernel_rfl) (by kernel_rfl) (by kernel_rfl) (fun _ _ _ h => h) (Or.inl ⟨by rfl, fun w' hw' => ?_⟩) (HS.out _ HB2.out.drew) (fun inv => ?_)
    · obtain ⟨h0, h1, h2, h3, h4, h5, h6⟩ := hw'
      go_simp
    try simp only [Act.put, List.setIfInBounds_toArray, List.set_cons_zero, List.set_cons_succ]
    refine wpU_take (i := 9) (v := .int .i64 (o : Int)) rfl inv (by kernel_rfl) (by kernel_rfl) (by decide) (by decide) (by kernel_rfl) (by kernel_rfl) (by kernel_rfl) (fun _ _ _ h => h) (Or.inl ⟨by rfl, fun w' hw' => ?_⟩) (HS.out _ HB2.out.drew) (fun inv => ?_)
    · obtain ⟨h0, h1, h2, h3, h4, h5, h6⟩ := hw'
      go_simp
    try simp only [Act.put, List.setIfInBounds_toArray, List.set_cons_zero, List.set_cons_succ]
    refine wpU_take (i := 10) (v := .pointer (some ⟨nb, no + o * 4, none⟩)) rfl inv (by kernel_rfl) (by kernel_rfl) (by decide) (by decide) (by kernel_rfl) (by kernel_rfl) (by kernel_rfl) (fun _ _ _ h => h) (Or.inl ⟨by rfl, fun w' hw' => ?_⟩) (HS.out _ HB2.out.drew) (fun inv => ?_)
    · obtain ⟨h0, h1, h2, h3, h4, h5, h6⟩ := hw'
      go_simp
    try simp only [Act.put, List.setIfInBounds_toArray, List.set_cons_zero, List.set_cons_succ]
    refine wpU_take (i := 11) (v := .pointer (some ⟨nb, no + o * 4, none⟩)) rfl inv (by kernel_rfl) (by kernel_rfl) (by decide) (by decide) (by kernel_rfl) (by kernel_rfl) (by kernel_rfl) (fun _ _ _ h => h) (Or.inl ⟨by rfl, fun w' hw' => ?_⟩) (HS.out _ HB2.out.drew) (fun inv => ?_)
    · obtain ⟨h0, h1, h2, h3, h4, h5, h6⟩ := hw'
      go_simp
    try simp only [Act.put, List.setIfInBounds_toArray, List.set_cons_zero, List.set_cons_succ]
    refine wpU_take (i := 12) (v := .int .i64 q0) rfl inv (by kernel_rfl) (by kernel_rfl) (by decide) (by decide) (by kernel_rfl) (by kernel_rfl) (by kernel_rfl) (fun _ _ _ h => h) (Or.inl ⟨by rfl, fun w' hw' => ?_⟩) (HS.out _ HB2.out.drew) (fun inv => ?_)
    · obtain ⟨h0, h1, h2, h3, h4, h5, h6⟩ := hw'
      go_simp
    try simp only [Act.put, List.setIfInBounds_toArray, List.set_cons_zero, List.set_cons_succ]
    refine wpU_take (i := 13) (v := .pointer (some ⟨bn, 0 + 2, none⟩)) rfl inv (by kernel_rfl) (by kernel_rfl) (by decide) (by decide) (by kernel_rfl) (by kernel_rfl) (by kernel_rfl) (fun _ _ _ h => h) (Or.inl ⟨by rfl, fun w' hw' => ?_⟩) (HS.out _ HB2.out.drew) (fun inv => ?_)
    · obtain ⟨h0, h1, h2, h3, h4, h5, h6⟩ := hw'
      go_simp
    try simp only [Act.put, List.setIfInBounds_toArray, List.set_cons_zero, List.set_cons_succ]
    refine wpU_take (i := 14) (v := .int .i64 q1) rfl inv (by kernel_rfl) (by kernel_rfl) (by decide) (by decide) (by kernel_rfl) (by kernel_rfl) (by kernel_rfl) (fun _ _ _ h => h) (Or.inl ⟨by rfl, fun w' hw' => ?_⟩) (HS.out _ HB2.out.drew) (fun inv => ?_)
    · obtain ⟨h0, h1, h2, h3, h4, h5, h6⟩ := hw'
      go_simp
    try simp only [Act.put, List.setIfInBounds_toArray, List.set_cons_zero, List.set_cons_succ]
    refine wpU_take (i := 15) (v := .pointer (some ⟨W.heap.size, 0 + 1, none⟩)) rfl inv (by kernel_rfl) (by kernel_rfl) (by decide) (by decide) (by kernel_rfl) (by kernel_rfl) (by kernel_rfl) (fun _ _ _ h => h) (Or.inl ⟨by rfl, fun w' hw' => ?_⟩) (HS.out _ HB2.out.drew) (fun inv => ?_)
    · obtain ⟨h0, h1, h2, h3, h4, h5, h6⟩ := hw'
      go_simp
    try simp only [Act.put, List.setIfInBounds_toArray, List.set_cons_zero, List.set_cons_succ]
    refine wpU_take (i := 16) (v := .int .i64 (a : Int)) rfl inv (by kernel_rfl) (by kernel_rfl) (by decide) (by decide) (by kernel_rfl) (by kernel_rfl) (by kernel_rfl) (fun _ _ _ h => h) (Or.inl ⟨by rfl, fun w' hw' => ?_⟩) (HS.out _ HB2.out.drew) (fun inv => ?_)
    · obtain ⟨h0, h1, h2, h3, h4, h5, h6⟩ := hw'
      go_simp
    try simp only [Act.put, List.setIfInBounds_toArray, List.set_cons_zero, List.set_cons_succ]
    refine wpU_take (i := 17) (v := .agg #[.int .i64 q1, .int .i64 (a : Int)]) rfl inv (by kernel_rfl) (by kernel_rfl) (by decide) (by decide) (by kernel_rfl) (by kernel_rfl) (by kernel_rfl) (fun _ _ _ h => h) (Or.inl ⟨by rfl, fun w' hw' => ?_⟩) (HS.out _ HB2.out.drew) (fun inv => ?_)
    · obtain ⟨h0, h1, h2, h3, h4, h5, h6⟩ := hw'
      go_simp
    try simp only [Act.put, List.setIfInBounds_toArray, List.set_cons_zero, List.set_cons_succ]
    refine wpU_take (i := 18) (v := .agg #[.int .i64 q0, .int .i64 q1, .int .i64 (a : Int)]) rfl inv (by kernel_rfl) (by kernel_rfl) (by decide) (by decide) (by kernel_rfl) (by kernel_rfl) (by kernel_rfl) (fun _ _ _ h => h) (Or.inl ⟨by rfl, fun w' hw' => ?_⟩) (HS.out _ HB2.out.drew) (fun inv => ?_)
    · obtain ⟨h0, h1, h2, h3, h4, h5, h6⟩ := hw'
      go_simp
    try simp only [Act.put, List.setIfInBounds_toArray, List.set_cons_zero, List.set_cons_succ]
    refine wpU_take (i := 19) (v := .agg #[.int .i64 ek, .int .i64 en, .int .i64 ea, .int .i64 eb', .slice va vl vc]) rfl inv (by kernel_rfl) (by kernel_rfl) (by decide) (by decide) (by kernel_rfl) (by kernel_rfl) (by kernel_rfl) (fun _ _ _ h => h) (Or.inl ⟨by rfl, fun w' hw' => ?_⟩) (HS.out _ HB2.out.drew) (fun inv => ?_)
    · obtain ⟨h0, h1, h2, h3, h4, h5, h6⟩ := hw'
      go_simp
    try simp only [Act.put, List.setIfInBounds_toArray, List.set_cons_zero, List.set_cons_succ]
    refine wpU_take (i := 20) (v := .pointer (some ⟨bn, 0 + 1, none⟩)) rfl inv (by kernel_rfl) (by kernel_rfl) (by decide) (by decide) (by kernel_rfl) (by kernel_rfl) (by kernel_rfl) (fun _ _ _ h => h) (Or.inl ⟨by rfl, fun w' hw' => ?_⟩) (HS.out _ HB2.out.drew) (fun inv => ?_)
    · obtain ⟨h0, h1, h2, h3, h4, h5, h6⟩ := hw'
      go_simp
    try simp only [Act.put, List.setIfInBounds_toArray, List.set_cons_zero, List.set_cons_succ]
    refine wpU_take (i := 21) (v := .int .i64 (o : Int)) rfl inv (by kernel_rfl) (by kernel_rfl) (by decide) (by decide) (by kernel_rfl) (by kernel_rfl) (by kernel_rfl) (fun _ _ _ h => h) (Or.inl ⟨by rfl, fun w' hw' => ?_⟩) (HS.out _ HB2.out.drew) (fun inv => ?_)
    · obtain ⟨h0, h1, h2, h3, h4, h5, h6⟩ := hw'
      go_simp
    try simp only [Act.put, List.setIfInBounds_toArray, List.set_cons_zero, List.set_cons_succ]
    refine wpU_one (i := 22) (by kernel_rfl) rfl (fun K hK => ?_)
    replace inv := inv_setc (i := 22) inv (by kernel_rfl) (by decide)
    go_simp
    refine hK.out _ _ (fun _ => HSW.out) ?_
    clear hK K
    try simp only [Act.put, List.setIfInBounds_toArray, List.set_cons_zero, List.set_cons_succ]
    refine wpU_one (i := 23) (by kernel_rfl) rfl (fun K hK => ?_)
    go_simp
    refine hK.out _ _ (fun h => absurd (show true = false from h) (by decide)) ?_
    clear hK K
    try simp only [Act.put, List.setIfInBounds_toArray, List.set_cons_zero, List.set_cons_succ]
    refine wpU_done (by kernel_rfl) ?_ _
    go_wp2_with fail
    refine bodyPost_ret (v := .tuple #[.agg #[.int .i64 ek, .int .i64 en, .int .i64 ea, .int .i64 eb', .slice va vl vc], .int .i64 (o : Int)]) (by simp [results, Tryz.results81, go_sem, z0, z1, z2, z3, z4]) rfl ?_
    exact HEND.out w2 HB2.out
  · have HLKC := Lib.hid (fun w' (hb : Below w1.heap.size w1 w') => HLK.out w' (HR1.out w' hb))
    obtain ⟨r6, r4, r7, e0, e1, e2, e3, e4, e5⟩ := HR1.out w1 (Below.refl _ _) |> HRT.out w1
    obtain ⟨y0, y1⟩ := bx_cells2 Y1.out
    have ar4 := aft_cell r4
    have ay1 := aft_cell y1
    have ae5 := aft_cell e5
    clear r6 r4 r7 e0 e1 e2 e3 e4 e5 y0 y1
    go_upto_region 2 with fail
    refine wp_region_after (w0 := w1) (by kernel_rfl) (by kernel_rfl) ?_
    repeat (go_big_quiet_step (fail))
    refine wpQuiet_nil ?_
    rintro w2 ⟨⟨_, hb2⟩, rfl⟩
    have HB2 : Hid (Below w1.heap.size w1 w2) := hb2
    clear hb2 ar4 ay1 ae5
    go_upto_region 4 with fail
    have HS : Hid (∀ w', Below w1.heap.size w1 w' → (fun w' => w'.cell? ⟨tb, 0 + 7, none⟩ = some (.map (some eb)) ∧ w'.cell? ⟨bn, 0, none⟩ = some (.int .i64 q0) ∧ w'.cell? ⟨W.heap.size, 0 + 1, none⟩ = some (.int .i64 (a : Int)) ∧ w'.cell? ⟨W.heap.size, 0, none⟩ = some (.int .i64 (o : Int)) ∧ (Instr.lookup 128 (.map (some eb)) (.agg #[.int .i64 q0, .int .i64 0, .int .i64 (a : Int)]) false).run Tryz.prog w' = .ok (.agg #[.int .i64 ek, .int .i64 en, .int .i64 ea, .int .i64 eb', .slice va vl vc]) w') w') := fun w' hb => by
      obtain ⟨r6, r4, r7, e0, e1, e2, e3, e4, e5⟩ := HRT.out w' (HR1.out w' hb)
      obtain ⟨y0, y1⟩ := bx_cells2 (bx_keep Y1.out hb)
      obtain ⟨u0, u1, u2, u3⟩ := bx_cells4e (bx_keep X3.out hb)
      exact ⟨r7, u0, y1, y0, HLKC.out w' hb⟩
    have HSW : Hid ((fun w' => w'.cell? ⟨tb, 0 + 7, none⟩ = some (.map (some eb)) ∧ w'.cell? ⟨bn, 0, none⟩ = some (.int .i64 q0) ∧ w'.cell? ⟨W.heap.size, 0 + 1, none⟩ = some (.int .i64 (a : Int)) ∧ w'.cell? ⟨W.heap.size, 0, none⟩ = some (.int .i64 (o : Int)) ∧ (Instr.lookup 128 (.map (some eb)) (.agg #[.int .i64 q0, .int .i64 0, .int .i64 (a : Int)]) false).run Tryz.prog w' = .ok (.agg #[.int .i64 ek, .int .i64 en, .int .i64 ea, .int .i64 eb', .slice va vl vc]) w') (((((w2.setCell ⟨W.heap.size + 1, 0, none⟩ (.int .i64 ek)).setCell ⟨W.heap.size + 1, 0 + 1, none⟩ (.int .i64 en)).setCell ⟨W.heap.size + 1, 0 + 2, none⟩ (.int .i64 ea)).setCell ⟨W.heap.size + 1, 0 + 3, none⟩ (.int .i64 eb')).setCell ⟨W.heap.size + 1, 0 + 4, none⟩ (.slice va vl vc)).drew) := by
      have hb : Below W.heap.size W (((((w2.setCell ⟨W.heap.size + 1, 0, none⟩ (.int .i64 ek)).setCell ⟨W.heap.size + 1, 0 + 1, none⟩ (.int .i64 en)).setCell ⟨W.heap.size + 1, 0 + 2, none⟩ (.int .i64 ea)).setCell ⟨W.heap.size + 1, 0 + 3, none⟩ (.int .i64 eb')).setCell ⟨W.heap.size + 1, 0 + 4, none⟩ (.slice va vl vc)) := ((((((HR1.out w2 HB2.out).setCell (show W.heap.size ≤ W.heap.size + 1 by omega) _).setCell (show W.heap.size ≤ W.heap.size + 1 by omega) _).setCell (show W.heap.size ≤ W.heap.size + 1 by omega) _).setCell (show W.heap.size ≤ W.heap.size + 1 by omega) _).setCell (show W.heap.size ≤ W.heap.size + 1 by omega) _)
      obtain ⟨r6, r4, r7, e0, e1, e2, e3, e4, e5⟩ := HRT.out _ hb.drew
      obtain ⟨y0, y1⟩ := bx_cells2 (drew_at (bx_other (bx_other (bx_other (bx_other (bx_other (bx_keep Y1.out HB2.out) (show W.heap.size ≠ W.heap.size + 1 by omega) _ _) (show W.heap.size ≠ W.heap.size + 1 by omega) _ _) (show W.heap.size ≠ W.heap.size + 1 by omega) _ _) (show W.heap.size ≠ W.heap.size + 1 by omega) _ _) (show W.heap.size ≠ W.heap.size + 1 by omega) _ _))
      obtain ⟨u0, u1, u2, u3⟩ := bx_cells4e (drew_at (bx_other (bx_other (bx_other (bx_other (bx_other (bx_keep X3.out HB2.out) HNE.out _ _) HNE.out _ _) HNE.out _ _) HNE.out _ _) HNE.out _ _))
      exact ⟨r7, u0, y1, y0, HLK.out _ hb.drew⟩
    obtain ⟨z0, z1, z2, z3, z4⟩ := At.bx_cells5 (bx_keep Y2.out HB2.out)
    obtain ⟨f0, f1, f2, f3, f4⟩ := At.bx_free5 (bx_keep Y2.out HB2.out)
    refine wp_region_U (S := (fun w' => w'.cell? ⟨tb, 0 + 7, none⟩ = some (.map (some eb)) ∧ w'.cell? ⟨bn, 0, none⟩ = some (.int .i64 q0) ∧ w'.cell? ⟨W.heap.size, 0 + 1, none⟩ = some (.int .i64 (a : Int)) ∧ w'.cell? ⟨W.heap.size, 0, none⟩ = some (.int .i64 (o : Int)) ∧ (Instr.lookup 128 (.map (some eb)) (.agg #[.int .i64 q0, .int .i64 0, .int .i64 (a : Int)]) false).run Tryz.prog w' = .ok (.agg #[.int .i64 ek, .int .i64 en, .int .i64 ea, .int .i64 eb', .slice va vl vc]) w')) 14 (by kernel_rfl) (fun inv => ?_)
    refine wpU_take (i := 0) (v := .pointer (some ⟨tb, 0, none⟩)) rfl inv (by kernel_rfl) (by kernel_rfl) (by decide) (by decide) (by kernel_rfl) (by kernel_rfl) (by kernel_rfl) (fun _ _ _ h => h) (Or.inl ⟨by rfl, fun w' hw' => ?_⟩) (HS.out _ HB2.out.drew) (fun inv => ?_)
    · obtain ⟨h0, h1, h2, h3, h4⟩ := hw'
      go_simp
    try simp only [Act.put, List.setIfInBounds_toArray, List.set_cons_zero, List.set_cons_succ]
    refine wpU_take (i := 1) (v := .pointer (some ⟨tb, 0, none⟩)) rfl inv (by kernel_rfl) (by kernel_rfl) (by decide) (by decide) (by kernel_rfl) (by kernel_rfl) (by kernel_rfl) (fun _ _ _ h => h) (Or.inl ⟨by rfl, fun w' hw' => ?_⟩) (HS.out _ HB2.out.drew) (fun inv => ?_)
    · obtain ⟨h0, h1, h2, h3, h4⟩ := hw'
      go_simp
    try simp only [Act.put, List.setIfInBounds_toArray, List.set_cons_zero, List.set_cons_succ]
    refine wpU_take (i := 2) (v := .pointer (some ⟨tb, 0 + 7, none⟩)) rfl inv (by kernel_rfl) (by kernel_rfl) (by decide) (by decide) (by kernel_rfl) (by kernel_rfl) (by kernel_rfl) (fun _ _ _ h => h) (Or.inl ⟨by rfl, fun w' hw' => ?_⟩) (HS.out _ HB2.out.drew) (fun inv => ?_)
    · obtain ⟨h0, h1, h2, h3, h4⟩ := hw'
      go_simp
    try simp only [Act.put, List.setIfInBounds_toArray, List.set_cons_zero, List.set_cons_succ]
    refine wpU_take (i := 3) (v := .map (some eb)) rfl inv (by kernel_rfl) (by kernel_rfl) (by decide) (by decide) (by kernel_rfl) (by kernel_rfl) (by kernel_rfl) (fun _ _ _ h => h) (Or.inl ⟨by rfl, fun w' hw' => ?_⟩) (HS.out _ HB2.out.drew) (fun inv => ?_)
    · obtain ⟨h0, h1, h2, h3, h4⟩ := hw'
      go_simp
    try simp only [Act.put, List.setIfInBounds_toArray, List.set_cons_zero, List.set_cons_succ]
    refine wpU_take (i := 4) (v := .pointer (some ⟨bn, 0, none⟩)) rfl inv (by kernel_rfl) (by kernel_rfl) (by decide) (by decide) (by kernel_rfl) (by kernel_rfl) (by kernel_rfl) (fun _ _ _ h => h) (Or.inl ⟨by rfl, fun w' hw' => ?_⟩) (HS.out _ HB2.out.drew) (fun inv => ?_)
    · obtain ⟨h0, h1, h2, h3, h4⟩ := hw'
      go_simp
    try simp only [Act.put, List.setIfInBounds_toArray, List.set_cons_zero, List.set_cons_succ]
    refine wpU_take (i := 5) (v := .int .i64 q0) rfl inv (by kernel_rfl) (by kernel_rfl) (by decide) (by decide) (by kernel_rfl) (by kernel_rfl) (by kernel_rfl) (fun _ _ _ h => h) (Or.inl ⟨by rfl, fun w' hw' => ?_⟩) (HS.out _ HB2.out.drew) (fun inv => ?_)
    · obtain ⟨h0, h1, h2, h3, h4⟩ := hw'
      go_simp
    try simp only [Act.put, List.setIfInBounds_toArray, List.set_cons_zero, List.set_cons_succ]
    refine wpU_take (i := 6) (v := .pointer (some ⟨W.heap.size, 0 + 1, none⟩)) rfl inv (by kernel_rfl) (by kernel_rfl) (by decide) (by decide) (by kernel_rfl) (by kernel_rfl) (by kernel_rfl) (fun _ _ _ h => h) (Or.inl ⟨by rfl, fun w' hw' => ?_⟩) (HS.out _ HB2.out.drew) (fun inv => ?_)
    · obtain ⟨h0, h1, h2, h3, h4⟩ := hw'
      go_simp
    try simp only [Act.put, List.setIfInBounds_toArray, List.set_cons_zero, List.set_cons_succ]
    refine wpU_take (i := 7) (v := .int .i64 (a : Int)) rfl inv (by kernel_rfl) (by kernel_rfl) (by decide) (by decide) (by kernel_rfl) (by kernel_rfl) (by kernel_rfl) (fun _ _ _ h => h) (Or.inl ⟨by rfl, fun w' hw' => ?_⟩) (HS.out _ HB2.out.drew) (fun inv => ?_)
    · obtain ⟨h0, h1, h2, h3, h4⟩ := hw'
      go_simp
    try simp only [Act.put, List.setIfInBounds_toArray, List.set_cons_zero, List.set_cons_succ]
    refine wpU_take (i := 8) (v := .agg #[.int .i64 0, .int .i64 (a : Int)]) rfl inv (by kernel_rfl) (by kernel_rfl) (by decide) (by decide) (by kernel_rfl) (by kernel_rfl) (by kernel_rfl) (fun _ _ _ h => h) (Or.inl ⟨by rfl, fun w' hw' => ?_⟩) (HS.out _ HB2.out.drew) (fun inv => ?_)
    · obtain ⟨h0, h1, h2, h3, h4⟩ := hw'
      go_simp
    try simp only [Act.put, List.setIfInBounds_toArray, List.set_cons_zero, List.set_cons_succ]
    refine wpU_take (i := 9) (v := .agg #[.int .i64 q0, .int .i64 0, .int .i64 (a : Int)]) rfl inv (by kernel_rfl) (by kernel_rfl) (by decide) (by decide) (by kernel_rfl) (by kernel_rfl) (by kernel_rfl) (fun _ _ _ h => h) (Or.inl ⟨by rfl, fun w' hw' => ?_⟩) (HS.out _ HB2.out.drew) (fun inv => ?_)
    · obtain ⟨h0, h1, h2, h3, h4⟩ := hw'
      go_simp
    try simp only [Act.put, List.setIfInBounds_toArray, List.set_cons_zero, List.set_cons_succ]
    refine wpU_take (i := 10) (v := .agg #[.int .i64 ek, .int .i64 en, .int .i64 ea, .int .i64 eb', .slice va vl vc]) rfl inv (by kernel_rfl) (by kernel_rfl) (by decide) (by decide) (by kernel_rfl) (by kernel_rfl) (by kernel_rfl) (fun _ _ _ h => h) (Or.inl ⟨by rfl, fun w' hw' => ?_⟩) (HS.out _ HB2.out.drew) (fun inv => ?_)
    · obtain ⟨h0, h1, h2, h3, h4⟩ := hw'
      go_simp
    try simp only [Act.put, List.setIfInBounds_toArray, List.set_cons_zero, List.set_cons_succ]
    refine wpU_take (i := 11) (v := .pointer (some ⟨W.heap.size, 0, none⟩)) rfl inv (by kernel_rfl) (by kernel_rfl) (by decide) (by decide) (by kernel_rfl) (by kernel_rfl) (by kernel_rfl) (fun _ _ _ h => h) (Or.inl ⟨by rfl, fun w' hw' => ?_⟩) (HS.out _ HB2.out.drew) (fun inv => ?_)
    · obtain ⟨h0, h1, h2, h3, h4⟩ := hw'
      go_simp
    try simp only [Act.put, List.setIfInBounds_toArray, List.set_cons_zero, List.set_cons_succ]
    refine wpU_take (i := 12) (v := .int .i64 (o : Int)) rfl inv (by kernel_rfl) (by kernel_rfl) (by decide) (by decide) (by kernel_rfl) (by kernel_rfl) (by kernel_rfl) (fun _ _ _ h => h) (Or.inl ⟨by rfl, fun w' hw' => ?_⟩) (HS.out _ HB2.out.drew) (fun inv => ?_)
    · obtain ⟨h0, h1, h2, h3, h4⟩ := hw'
      go_simp
    try simp only [Act.put, List.setIfInBounds_toArray, List.set_cons_zero, List.set_cons_succ]
    refine wpU_one (i := 13) (by kernel_rfl) rfl (fun K hK => ?_)
    replace inv := inv_setc (i := 13) inv (by kernel_rfl) (by decide)
    go_simp
    refine hK.out _ _ (fun _ => HSW.out) ?_
    clear hK K
    try simp only [Act.put, List.setIfInBounds_toArray, List.set_cons_zero, List.set_cons_succ]
    refine wpU_one (i := 14) (by kernel_rfl) rfl (fun K hK => ?_)
    go_simp
    refine hK.out _ _ (fun h => absurd (show true = false from h) (by decide)) ?_
    clear hK K
    try simp only [Act.put, List.setIfInBounds_toArray, List.set_cons_zero, List.set_cons_succ]
    refine wpU_done (by kernel_rfl) ?_ _
    go_wp2_with fail
    refine bodyPost_ret (v := .tuple #[.agg #[.int .i64 ek, .int .i64 en, .int .i64 ea, .int .i64 eb', .slice va vl vc], .int .i64 (o : Int)]) (by simp [results, Tryz.results81, go_sem, z0, z1, z2, z3, z4]) rfl ?_
    exact HEND.out w2 HB2.out
end Dm
end Go.Proofs.YtfocooehnmpndaaGreat
namespace Go.Proofs.YtfocooehnmpndaaGreat
open Go.RowKit
namespace Dm
open At (Ref refsS)
def plC (l : List Inst) : List Value := l.flatMap fun i => [.int .i64 i.1, .int .i64 i.2]
theorem plC_snoc (l : List Inst) (i : Inst) : plC (l ++ [i]) = plC l ++ [.int .i64 i.1, .int .i64 i.2] := by simp [plC]
theorem elDPl : ElemT Tryz.prog 155 104 2 16 := ElemT.mk' (z := .agg #[.int .i64 0, .int .i64 0]) Tryz.underlying155 (by kernel_rfl) rfl (by decide)
theorem refsS_len (x : At.Expr) : (refsS x).length ≤ x.size := by
  unfold refsS
  refine Nat.le_trans (Lib.compact_length_le _) ?_
  rw [At.sortR_len]
  exact At.refsOf_len x
structure NeI (w2 : World) (B : Nat) (l : List Inst) (v : Value) (wr : World) : Prop where
  own : wr.ownsRow B 104 2 v l.length (plC l)
  bel : Below w2.heap.size w2 wr
def NePost (l : List Inst) (W : World) (e : Ending) (w' : World) : Prop := ∃ v, e = .returned v ∧ w'.ownsRow W.heap.size 104 2 v l.length (plC l) ∧ Below W.heap.size W w'
set_option maxHeartbeats 4000000 in
set_option maxRecDepth 100000 in
theorem needsE (g : Gram) (s : At.Sys) (L : List Nd) (tb eb vb sb : Nat) (n a o : Nat) (q : At.Eqn) (pl : Ref → Inst) (W : World) (h : TbS g s L tb eb vb sb W) (hk : EqOk s L n a o q) (hbig : q.is'.size ≤ 100000) (hpl : ∀ r ∈ refsS q.is', atP L o r (pl r).1 (pl r).2) :
    Calls Tryz.prog 80 #[.pointer (some ⟨tb, 0, none⟩), .agg #[.int .i64 n, .int .i64 a]] W (NePost ((refsS q.is').map pl) W) := by
  obtain ⟨w0, HW0⟩ := nameIt (W.alloc (.cells #[.int .i64 n, .int .i64 a] 104))
  have HB0 : Hid (Below W.heap.size W w0) := by rw [← HW0.out]; exact (Below.refl _ _).alloc (Nat.le_refl _) _
  have X1 : Hid (w0.heap[W.heap.size]? = some (.cells #[.int .i64 n, .int .i64 a] 104 (0, 0))) := by rw [← HW0.out]; exact bx_new _ _ _ rfl
  have HT := Lib.hid h
  have HT0 := Lib.hid (h.below HB0.out)
  have HPLE := Lib.hid (fun (W' : World) (hb : Below W.heap.size W W') (r : Ref) (hr : r ∈ refsS q.is') => placeE g s L tb eb vb sb o r _ _ W' (h.below hb) hk.ho (hpl r hr))
  have HEQ := Lib.hid (equationE g s L tb eb vb sb n a o q w0 HT0.out hk)
  have HREF : Hid (∀ (v : Value) (W' : World), Rd AnyB W' (.sl (q.is'.args.map At.Expr.d)) [v] → Calls Tryz.prog 107 #[.agg #[.int .i64 q.is'.kind, .int .i64 q.is'.n, .int .i64 q.is'.ref.at', .int .i64 q.is'.ref.attr, v]] W' (fun e w' => ∃ v, e = .returned v ∧ Rd AnyB w' (.sl ((refsS q.is').map Ref.d)) [v] ∧ Below W'.heap.size W' w')) := fun v W' hv => At.refsE q.is' v W' hbig hv
  have HRL : Hid ((refsS q.is').length ≤ 100000) := Nat.le_trans (refsS_len _) hbig
  obtain ⟨PST, HP⟩ := nameIt (NePost ((refsS q.is').map pl) W)
  have HFIN : Hid (∀ v w', w'.ownsRow W.heap.size 104 2 v ((refsS q.is').map pl).length (plC ((refsS q.is').map pl)) → Below W.heap.size W w' → PST (.returned v) w') := fun v w' h1 h2 => by rw [← HP.out]; exact ⟨v, rfl, h1, h2⟩
  rw [HP.out]
  obtain ⟨RL, HRLn⟩ := nameIt (refsS q.is')
  rw [HRLn.out] at HPLE HRL HFIN
  simp only [HRLn.out] at HREF
  clear h hk hpl hbig HP
  obtain ⟨x0, x1⟩ := bx_cells2 X1.out
  have hl1 : W.heap.size < w0.heap.size := (Array.getElem?_eq_some_iff.1 X1.out).1
  go_enter Tryz.func80, Tryz.ntmps80
  go_upto_region 1 with fail
  rw [HW0.out]
  clear HW0
  go_wp2_with (refine HEQ.out.mono ?_)
  rintro e1 w1 ⟨ve, rfl, hve, hb1⟩
  obtain ⟨va, vl, vc, rfl⟩ : ∃ x y z, ve = .slice x y z := (by obtain ⟨x, y, e, -, -⟩ := hve.form; exact ⟨_, _, _, e⟩)
  have HB1 : Hid (Below W.heap.size W w1) := HB0.out.trans (hb1.mono HB0.out.size)
  have HRD : Hid (Rd AnyB w1 (.sl (q.is'.args.map At.Expr.d)) [.slice va vl vc]) := hve.any.below hb1
  clear x0 x1 hve hb1
  obtain ⟨ek, HEK⟩ := nameIt q.is'.kind
  obtain ⟨en, HEN⟩ := nameIt q.is'.n
  obtain ⟨ea, HEA⟩ := nameIt q.is'.ref.at'
  obtain ⟨eb', HEB⟩ := nameIt q.is'.ref.attr
  rw [HEK.out, HEN.out, HEA.out, HEB.out]
  simp only [HEK.out, HEN.out, HEA.out, HEB.out] at HREF
  obtain ⟨w2, HW2⟩ := nameIt (w1.alloc (.cells #[.int .i64 ek, .int .i64 en, .int .i64 ea, .int .i64 eb', .slice va vl vc] 86))
  have hb2 : Below w1.heap.size w1 w2 := by rw [← HW2.out]; exact (Below.refl _ _).alloc (Nat.le_refl _) _
  have X2 : Hid (w2.heap[w1.heap.size]? = some (.cells #[.int .i64 ek, .int .i64 en, .int .i64 ea, .int .i64 eb', .slice va vl vc] 86 (0, 0))) := by rw [← HW2.out]; exact bx_new _ _ _ rfl
  have HB2 : Hid (Below W.heap.size W w2) := HB1.out.trans (hb2.mono HB1.out.size)
  have HRF := Lib.hid (HREF.out (.slice va vl vc) w2 (HRD.out.below hb2))
  obtain ⟨x0, x1, x2, x3, x4⟩ := At.bx_cells5 X2.out
  have hl2 : w1.heap.size < w2.heap.size := (Array.getElem?_eq_some_iff.1 X2.out).1
  clear HEQ hb2
  go_upto_region 2 with fail
  rw [HW2.out]
  clear HW2
  go_wp2_with (refine HRF.out.mono ?_)
  rintro e3 w3 ⟨vr, rfl, hvr, hb3⟩
  obtain ⟨ra, rl, rc, rfl⟩ : ∃ x y z, vr = .slice x y z := (by obtain ⟨x, y, e, -, -⟩ := hvr.form; exact ⟨_, _, _, e⟩)
  have hrl : rl = RL.length := by obtain ⟨x, y, e, -, -⟩ := hvr.form; simp at e; exact e.2.1
  have hrc := hvr.bounds.2
  subst hrl
  have HB3 : Hid (Below W.heap.size W w3) := HB2.out.trans (hb3.mono HB2.out.size)
  have HRR := Lib.hid hvr
  unfold maxLen at hrc
  obtain ⟨hrc1, hrc2⟩ := hrc
  have HI0 : Hid (NeI w3 w3.heap.size ((RL.take 0).map pl) (.slice none 0 0) w3) := ⟨World.ownsRow_nil _ _ _ _, Below.refl _ _⟩
  clear x0 x1 x2 x3 x4 hvr hb3 HRF HREF
  obtain ⟨ln, HLN⟩ := nameIt RL.length
  rw [HLN.out] at HRL HRR hrc1
  rw [HLN.out]
  go_wp2_with fail
  go_loopg [7, 19] ln (fun gg v7 v19 wr => ∃ i : Nat, i ≤ ln ∧ ln - i ≤ gg ∧ v19 = .int .i64 i ∧ Hid (NeI w3 w3.heap.size ((RL.take i).map pl) v7 wr))
  case atStart => exact ⟨0, by omega, by omega, rfl, HI0.out⟩
  case round =>
    clear HI0
    obtain ⟨i, hi, hg, rfl, HI⟩ := hrel
    obtain ⟨LA, HLA⟩ := nameIt ((RL.take i).map pl)
    have HLAl : Hid (LA.length = i) := by rw [← HLA.out, List.length_map, List.length_take, HLN.out]; exact Nat.min_eq_left hi
    rw [HLA.out] at HI
    have HI2 := HI.out
    obtain ⟨av, cv, rfl, hcv1, hcv2⟩ := own_len HI2.own
    unfold maxLen at hcv2
    by_cases hlt : i < ln
    · have hlt' : (i : Int) < (ln : Int) := by omega
      have hic : (i : Int) ≤ (rc : Int) := by omega
      have hil : i < RL.length := by rw [HLN.out]; exact hlt
      have HRX : Hid (Rd AnyB wr (.sl (RL.map Ref.d)) [.slice ra RL.length rc]) := by rw [HLN.out]; exact HRR.out.below HI2.bel
      obtain ⟨bb, bo, hae, -, hbl, c0, c1⟩ := At.Rd.ref_at HRX.out hil
      have HNX : Hid ((RL.take (i + 1)).map pl = LA ++ [pl RL[i]]) := by
        show _ = _
        rw [List.take_succ_eq_append_getElem hil, List.map_append, HLA.out]; rfl
      have HPC := Lib.hid (fun (W' : World) (hb : Below W.heap.size W W') => HPLE.out W' hb RL[i] (List.getElem_mem hil))
      obtain ⟨p0, HP0⟩ := nameIt (pl RL[i])
      obtain ⟨ra0, HA0⟩ := nameIt (RL[i]'hil).at'
      obtain ⟨ra1, HA1⟩ := nameIt (RL[i]'hil).attr
      rw [HP0.out] at HNX
      simp only [HP0.out, HA0.out, HA1.out] at HPC
      rw [HA0.out] at c0
      rw [HA1.out] at c1
      obtain ⟨pm, pa⟩ := p0
      simp only at HPC
      obtain ⟨w4, HW4⟩ := nameIt (wr.alloc (.cells #[.int .i64 ra0, .int .i64 ra1] 83))
      have hb4 : Below wr.heap.size wr w4 := by rw [← HW4.out]; exact (Below.refl _ _).alloc (Nat.le_refl _) _
      have X7 : Hid (w4.heap[wr.heap.size]? = some (.cells #[.int .i64 ra0, .int .i64 ra1] 83 (0, 0))) := by rw [← HW4.out]; exact bx_new _ _ _ rfl
      have HB4 : Hid (Below w3.heap.size w3 w4) := HI2.bel.trans (hb4.mono HI2.bel.size)
      have HO4 := Lib.hid (own_keep HI2.own hb4)
      have HBW4 : Hid (Below W.heap.size W w4) := HB3.out.trans (HB4.out.mono HB3.out.size)
      have HPC4 := Lib.hid (HPC.out w4 HBW4.out)
      obtain ⟨z0, z1⟩ := bx_cells2 X7.out
      have hl7 : wr.heap.size < w4.heap.size := (Array.getElem?_eq_some_iff.1 X7.out).1
      rw [HLAl.out] at HO4
      rw [HLAl.out]
      subst hae
      go_upto_region 6 with fail
      rw [HW4.out]
      clear HW4 c0 c1 hbl hb4 HI HI2 HPC
      go_wp2_with (refine HPC4.out.mono ?_)
      rintro e5 w5 ⟨rfl, hb5⟩
      have HB5 : Hid (Below w3.heap.size w3 w5) := HB4.out.trans (hb5.mono HB4.out.size)
      have HO5 := Lib.hid (own_keep HO4.out hb5)
      have hz5 : w3.heap.size ≤ w5.heap.size := HB5.out.size
      have hbd : (i + 1) * 16 ≤ 140737488355328 := by have := HRL.out; omega
      clear HPC4 hb5 z0 z1
      go_wp2_with (at_builtin; refine wp_app1 elDPl rfl _ _ rfl HO5.out rfl rfl rfl rfl hbd (by unfold maxLen; omega) hz5 ?_)
      intro v7 w7 ho7 hg7
      obtain ⟨a7, c7, rfl, -, -⟩ := own_len ho7
      have HI5 : Hid (NeI w3 w3.heap.size ((RL.take (i + 1)).map pl) (.slice a7 (i + 1) c7) w7) := by
        rw [HNX.out]
        refine ⟨?_, HB5.out.grown hg7 hz5 (fun k e => (HO5.out.lt k e).1)⟩
        rw [plC_snoc, List.length_append, HLAl.out]
        exact ho7
      clear ho7 hg7
      go_wp2_with fail
      go_roundg (ln - (i + 1))
      case measure => omega
      case rel => exact ⟨i + 1, by omega, by omega, by go_num, HI5.out⟩
    · have hend : i = ln := by omega
      have hlt' : ¬ (i : Int) < (ln : Int) := by omega
      have HE : Hid (PST (.returned (.slice av i cv)) wr) := by
        have h := World.ownsRow.mono HI2.own HB3.out.size
        have e : LA = RL.map pl := by rw [← HLA.out, hend, ← HLN.out, List.take_length]
        rw [HLAl.out] at h
        refine HFIN.out _ _ ?_ (HB3.out.trans (HI2.bel.mono HB3.out.size))
        have el : (RL.map pl).length = i := by rw [← e]; exact HLAl.out
        rw [el, ← e]
        exact h
      rw [HLAl.out]
      clear HI HI2
      subst hend
      go_wp2_with fail
      exact HE.out
end Dm
end Go.Proofs.YtfocooehnmpndaaGreat
namespace Go.Proofs.YtfocooehnmpndaaGreat
open Go.RowKit
namespace Dm
theorem ownsMap_sameU {H : Type} {k : TypeId} {el : Value → Option (DataW H × List MemPlace)} {b c : Nat} {D : DataW H} {w w' : World} (h : w.ownsMap Tryz.prog k el b c D) (e : w'.heap[b]? = w.heap[b]?) : w'.ownsMap Tryz.prog k el b c D := by
  obtain ⟨es, ck, a1, a2⟩ := h
  exact ⟨es, ck, by rw [e]; exact a1, a2⟩
def okI (i : Inst) : Prop := okS (i.1 : Int) ∧ okS (i.2 : Int)
theorem inst_eq {i j : Inst} (h1 : (i.1 : Int) = j.1) (h2 : (i.2 : Int) = j.2) : i = j := Prod.ext (by omega) (by omega)
def NumM (b : Nat) (f : Inst → Int) (m : Nat) (w : World) : Prop := ∃ D : DataW Unit, w.ownsMap Tryz.prog 104 (plainElem Tryz.prog 3) b m D ∧ ∀ i, okI i → D.atKey (piL i.1 i.2) (.lit (.int .i64 0)) = .lit (.int .i64 (f i))
section
variable {b m : Nat} {f : Inst → Int} {w w' : World}
theorem NumM.start (w : World) {b : Nat} (hb : b = w.heap.size) : NumM b (fun _ => 0) 0 (w.alloc (.map #[] 0)) := by
  subst hb
  exact ⟨.map [], World.ownsMap_made w _ _ _, fun i _ => Maps.atKey_of_not_has rfl _⟩
theorem NumM.keeps {S : Nat → Prop} (h : NumM b f m w) (hk : Keeps S w w') (hb : ¬ S b) : NumM b f m w' := by
  obtain ⟨D, h1, h2⟩ := h
  exact ⟨D, ownsMap_sameU h1 (hk.block b h1.lt hb), h2⟩
theorem NumM.keep (h : NumM b f m w) (hb : Below w.heap.size w w') : NumM b f m w' := by
  obtain ⟨D, h1, h2⟩ := h
  exact ⟨D, ownsMap_sameU h1 (hb.block b h1.lt), h2⟩
theorem NumM.lt (h : NumM b f m w) : b < w.heap.size := by obtain ⟨D, h1, _⟩ := h; exact h1.lt
theorem NumM.look (h : NumM b f m w) {n a : Nat} (hi : okI (n, a)) : (Instr.lookup 129 (.map (some b)) (.agg #[.int .i64 n, .int .i64 a]) false).run Tryz.prog w = .ok (.int .i64 (f (n, a))) w := by
  obtain ⟨D, h1, h2⟩ := h
  obtain ⟨v, ps, hrun, hv⟩ := h1.lookup piK Tryz.underlying129 (Km.zInt w) (plainElem_int Tryz.underlying3 (by decide)) (piKey hi.1 hi.2)
  obtain ⟨x, rfl, hx, _⟩ := plainElem_int_inv Tryz.underlying3 hv
  have := h2 _ hi
  simp only at this
  rw [this] at hx
  simp at hx
  rw [hrun, hx.1]
theorem NumM.store (h : NumM b f m w) (hm : m ≤ 1000000000000) {n a : Nat} (hi : okI (n, a)) {x : Int} (hx : (Lit.int .i64 x).wf = true) : ∃ w', (Instr.mapUpdate 129 (.map (some b)) (.agg #[.int .i64 n, .int .i64 a]) (.int .i64 x)).run Tryz.prog w = .ok () w' ∧ NumM b (fun j => if j = (n, a) then x else f j) (m + 1) w' ∧ w.grownBy w' (some b) := by
  obtain ⟨D, h1, h2⟩ := h
  obtain ⟨w', hrun, ho, ht⟩ := h1.store piK Tryz.underlying129 (by unfold maxLen; omega) (piKey hi.1 hi.2) (plainElem_int Tryz.underlying3 hx)
  have hM := h1.isMap
  have hkk := piK.key (piKey hi.1 hi.2)
  refine ⟨w', hrun, ⟨_, ho, fun j hj => ?_⟩, ht.grown⟩
  dsimp only
  by_cases e : j = (n, a)
  · subst e
    rw [if_pos rfl]
    exact Maps.atKey_put_same hM hkk _ _
  · rw [if_neg e]
    have hne : piL (j.1 : Int) (j.2 : Int) ≠ piL (n : Int) (a : Int) := fun e' => by
      obtain ⟨e1, e2⟩ := piL_inj hj.1 hj.2 hi.1 hi.2 e'
      exact e (inst_eq e1 e2)
    rw [Maps.atKey_put_other hne]
    exact h2 j hj
end
structure GetM (l : List Inst) (Bd : Nat) (vb sb : Nat) (X : GetS) (w : World) : Prop where
  st : ∃ m, NumM sb (fun i => (X.st i : Int)) m w ∧ m + 3 * cnt0 l X ≤ Bd
  va : ∃ m, NumM vb X.va m w ∧ m + 3 * cnt0 l X ≤ Bd
end Dm
end Go.Proofs.YtfocooehnmpndaaGreat
namespace Go.Proofs.YtfocooehnmpndaaGreat
open Go.RowKit
namespace Dm
open At (Ref refsS)
set_option maxHeartbeats 2000000 in
set_option maxRecDepth 100000 in
theorem getcE (g : Gram) (s : At.Sys) (L : List Nd) (tb eb vb sb xb nb : Nat) (f : Inst → Int) (mm : Nat) (o : Nat) (r : Ref) (m a : Nat) (W : World) (h : TbS g s L tb eb vb sb W) (hV : NumM vb f mm W) (ho : o < L.length) (hr : atP L o r m a) (hok : okI (m, a)) (hx : W.cell? ⟨xb, 0, none⟩ = some (.pointer (some ⟨tb, 0, none⟩))) (hn : W.cell? ⟨nb, 0, none⟩ = some (.int .i64 o)) :
    Calls Tryz.prog 83 #[.agg #[.int .i64 r.at', .int .i64 r.attr], .pointer (some ⟨xb, 0, none⟩), .pointer (some ⟨nb, 0, none⟩)] W fun e w' => e = .returned (.int .i64 (f (m, a))) ∧ Below W.heap.size W w' := by
  obtain ⟨w0, HW0⟩ := nameIt (W.alloc (.cells #[.int .i64 r.at', .int .i64 r.attr] 83))
  have hb0 : Below W.heap.size W w0 := by rw [← HW0.out]; exact (Below.refl _ _).alloc (Nat.le_refl _) _
  have X1 : Hid (w0.heap[W.heap.size]? = some (.cells #[.int .i64 r.at', .int .i64 r.attr] 83 (0, 0))) := by rw [← HW0.out]; exact bx_new _ _ _ rfl
  have HB0 := Lib.hid hb0
  have HPL : Hid (∀ x : Aft w0, Calls Tryz.prog 84 #[.pointer (some ⟨tb, 0, none⟩), .int .i64 o, .agg #[.int .i64 r.at', .int .i64 r.attr]] x.w fun e w' => e = .returned (.agg #[.int .i64 m, .int .i64 a]) ∧ Below x.w.heap.size x.w w') := fun x => placeE g s L tb eb vb sb o r m a x.w (h.below (hb0.trans (x.bel.mono hb0.size))) ho hr
  have hlk : ∀ x : Aft w0, (Instr.lookup 129 (.map (some vb)) (.agg #[.int .i64 m, .int .i64 a]) false).run Tryz.prog x.w = .ok (.int .i64 (f (m, a))) x.w := fun x => (hV.keep (hb0.trans (x.bel.mono hb0.size))).look hok
  obtain ⟨v, HV⟩ := nameIt (f (m, a))
  simp only [HV.out] at hlk
  rw [HV.out]
  obtain ⟨⟨ar, cr, aa, ac, qa, qn, qc, na, nc, h1, h2, h3, h4⟩, h5, h6⟩ := h
  obtain ⟨x0, x1, x2, x3, x4, x5, x6, x7, x8, x9⟩ := bx_cells10 (bx_keep h1 hb0)
  obtain ⟨y0, y1⟩ := bx_cells2 X1.out
  obtain ⟨ra, HRA⟩ := nameIt r.at'
  obtain ⟨rb, HRB⟩ := nameIt r.attr
  rw [HRA.out, HRB.out] at X1
  simp only [HRA.out, HRB.out] at HPL HW0
  rw [HRA.out] at y0
  rw [HRB.out] at y1
  rw [HRA.out, HRB.out]
  have ax8 := aft_cell x8
  have ay0 := aft_cell y0
  have ay1 := aft_cell y1
  have axx := aft_cell ((hb0.cell (lt_of_cell hx)).trans hx)
  have axn := aft_cell ((hb0.cell (lt_of_cell hn)).trans hn)
  clear h1 h2 h3 h4 h5 h6 x0 x1 x2 x3 x4 x5 x6 x7 x8 x9 y0 y1 hx hn hV hr hok hb0
  go_enter Tryz.func83, Tryz.ntmps83
  go_upto_region 1 with fail
  rw [HW0.out]
  clear HW0
  refine wp_region_after (w0 := w0) (by kernel_rfl) (by kernel_rfl) ?_
  repeat (go_big_quiet_step (exact Calls.after (HPL.out _)))
  refine wpQuiet_nil ?_
  rintro w2 ⟨⟨_, hb2⟩, rfl⟩
  have HE : Hid (Below W.heap.size W w2) := HB0.out.trans (hb2.mono HB0.out.size)
  clear hb2 ax8 ay0 ay1 axx axn hlk
  go_wp2_with fail
  go_ret
  exact ⟨rfl, HE.out⟩
end Dm
end Go.Proofs.YtfocooehnmpndaaGreat
namespace Go.Proofs.YtfocooehnmpndaaGreat
open Go.RowKit
namespace Dm
open At (Ref worth worthL enodes refsS inM)
structure Env (g : Gram) (s : At.Sys) (L : List Nd) (i : Inst) (q : At.Eqn) : Prop where
  eq : EqOk s L i.1 i.2 (ownerI s L i) q
  ex : exprI s L i = q.is'
  size : q.is'.size ≤ 30
  okx : At.okX (fun r => r ∈ refsS q.is') q.is'
  at_ : ∀ r ∈ refsS q.is', atP L (ownerI s L i) r (placeI L (ownerI s L i) r).1 (placeI L (ownerI s L i) r).2
theorem okx_of {al : List At.Attr} {r : Rule} {x : At.Expr} (h : At.valid al r x = true) : At.okX (fun r => r ∈ refsS x) x := by
  intro y hy
  unfold At.valid at h
  have h2 := List.all_eq_true.1 h y hy
  unfold At.okNode at h2
  simp only [Bool.and_eq_true] at h2
  refine ⟨h2.1.1, fun hk => ?_, fun hk => mem_refsS.2 ⟨y, hy, hk, rfl⟩⟩
  have h3 := h2.1.2
  rw [if_pos hk] at h3
  simpa [inM] using h3
theorem nd_get {L : List Nd} {n : Nat} (h : n < L.length) : ndAt L n = L[n] := by unfold ndAt; rw [List.getElem?_eq_getElem h]; rfl
theorem env {g : Gram} {s : At.Sys} {T : Tree} (hs : At.checkS g s = 0) (hv : validT g T = true) (hroot : rootS g T = ⟨false, g.start⟩) (hal : s.attrs.length ≤ 2000000) (hsz : tsz T ≤ 1000000) {i : Inst} (hi : i ∈ allI g s (tabT T)) : ∃ q, Env g s (tabT T) i q := by
  obtain ⟨n, a⟩ := i
  obtain ⟨hn, ha⟩ := mem_all.1 hi
  obtain ⟨o, y, u, p, ri, k, hK, hr, ho, hc, hri, hkr, q, hq, hq1, hq2, hx, hup⟩ := (inst_ok hs hv hroot hi).ex
  obtain ⟨rr, e1, _, hq30, hdef, hval⟩ := eq_facts hs hq
  rw [hq1, Int.toNat_natCast, List.getElem?_eq_getElem hri] at e1
  cases e1
  have hnL : n < (tabT T).length := by rw [tab_len]; exact hn
  have hoL : o < (tabT T).length := by rw [tab_len]; exact known_lt hK
  have hal2 : a < s.attrs.length := by
    unfold attrsAt at ha
    by_cases h : (ndAt (tabT T) n).rule < 0
    · rw [if_pos h] at ha; cases ha
    · rw [if_neg h, mem_attrsOf] at ha; exact ha.1
  have hinh : inhA s.attrs a = s.attrs[a].inh := by unfold inhA; rw [List.getElem?_eq_getElem hal2]; rfl
  have hor : (tabT T)[o].rule = (ri : Int) := by rw [← nd_get hoL, ndAt_known hK]; exact hr
  have hkp : (k : Int) ≤ 1000000 := by
    have := ((checkG_zero (sys_parts hs).1).2.2 _ (List.getElem_mem hri)).2.2.1
    omega
  refine ⟨q, ⟨hnL, by rw [ho]; exact hoL, hal2, hq, ?_, ?_⟩, hx, hq30, okx_of hval, fun r hr2 => ?_⟩
  · rw [okQ, hq1, hq2]
    refine ⟨⟨by omega, ?_⟩, ⟨by simp, ?_⟩, ⟨by simp, ?_⟩⟩
    · have := (checkG_zero (sys_parts hs).1).2.1; omega
    · show (k : Int) ≤ _; omega
    · show (a : Int) ≤ _; omega
  · by_cases hin : s.attrs[a].inh = true
    · left
      have h1 := hup (by rw [hinh]; exact hin)
      refine ⟨hin, ?_, ?_, ?_⟩
      · rw [ho, ← nd_get hnL]; exact h1
      · rw [hq1]; simp only [ho]; exact hor.symm
      · rw [hq2, ← hc]
        unfold occI
        rw [hinh, hin, if_pos rfl, nd_get hnL]
    · right
      have hin' : s.attrs[a].inh = false := by simpa using hin
      have hon : o = n := by rw [← ho]; unfold ownerI; rw [hinh, hin']; rfl
      subst hon
      refine ⟨hin', ho, ?_, ?_⟩
      · rw [hq1]; exact hor.symm
      · rw [hq2, ← hc]
        unfold occI
        rw [hinh, hin']; rfl
  · obtain ⟨z, hz, hzk, rfl⟩ := mem_refsS.1 hr2
    rw [ho]
    obtain ⟨_, b, hb, hbl, hcase⟩ := place_there (g := g) (s := s) hv hK hr hri (ref_there hval hz hzk)
    rcases hcase with ⟨h0, h1⟩ | ⟨j, m, h0, h1, h2, h3, _⟩
    · rw [h1]
      exact ⟨hb, .inl ⟨h0, rfl⟩⟩
    · rw [h3]
      refine ⟨hb, .inr ⟨j, h0, ?_, ?_⟩⟩
      · rw [ndAt_known hK]; simp only; rw [starts_len]; exact h1
      · rw [ndAt_known hK]; exact h2
end Dm
end Go.Proofs.YtfocooehnmpndaaGreat
namespace Go.Proofs.YtfocooehnmpndaaGreat
open Go.RowKit
namespace Dm
open At (Ref worth worthL enodes refsS inM)
theorem vl_inM {g : Gram} {s : At.Sys} {T : Tree} (hs : At.checkS g s = 0) (hv : validT g T = true) (hroot : rootS g T = ⟨false, g.start⟩) (hal : s.attrs.length ≤ 2000000) (hsz : tsz T ≤ 1000000) {i : Inst} {v : Int} (h : Vl s (tabT T) i v) : i ∈ allI g s (tabT T) → inM v := by
  induction h with
  | mk i f h ih =>
    intro hi
    obtain ⟨q, E⟩ := env hs hv hroot hal hsz hi
    rw [E.ex]
    refine At.worth_inM (fun r hr => ?_) q.is'.size q.is' (Nat.le_refl _) E.okx
    have hj : placeI (tabT T) (ownerI s (tabT T) i) r ∈ needsI s (tabT T) i := by
      unfold needsI
      rw [E.ex]
      exact List.mem_map.2 ⟨r, hr, rfl⟩
    exact ih _ hj (needs_all hs hv hroot hi hj)
theorem wfM {v : Int} (h : inM v) : (Lit.int .i64 v).wf = true := by
  unfold inM at h
  simp [Lit.wf, IntKind.min, IntKind.max, IntKind.signed, IntKind.bits]; omega
section
variable {l : List Inst} {Bd vb sb : Nat} {X : GetS} {w w' : World}
theorem GetM.keep (h : GetM l Bd vb sb X w) (hb : Below w.heap.size w w') : GetM l Bd vb sb X w' := by
  obtain ⟨⟨m, h1, h2⟩, ⟨k, h3, h4⟩⟩ := h
  exact ⟨⟨m, h1.keep hb, h2⟩, ⟨k, h3.keep hb, h4⟩⟩
theorem GetM.up (h : GetM l Bd vb sb X w) {B2 : Nat} (hB : Bd ≤ B2) : GetM l B2 vb sb X w := by
  obtain ⟨⟨m, h1, h2⟩, ⟨k, h3, h4⟩⟩ := h
  exact ⟨⟨m, h1, by omega⟩, ⟨k, h3, by omega⟩⟩
theorem num_grown {b : Nat} {f : Inst → Int} {m : Nat} {c : Nat} (h : NumM b f m w) (hg : w.grownBy w' (some c)) (hne : b ≠ c) : NumM b f m w' := by
  obtain ⟨D, h1, h2⟩ := h
  exact ⟨D, ownsMap_sameU h1 (hg.block b h1.lt (fun e => hne (Option.some.inj e))), h2⟩
theorem GetM.first (h : GetM l Bd vb sb X w) (hBd : Bd ≤ 1000000000000) (hne : vb ≠ sb) {n a : Nat} (hi : (n, a) ∈ l) (h0 : X.st (n, a) = 0) (hok : okI (n, a)) {c : Nat} (hc : c ≠ 0) (hc3 : c ≤ 3) :
    ∃ w', (Instr.mapUpdate 129 (.map (some sb)) (.agg #[.int .i64 n, .int .i64 a]) (.int .i64 (c : Int))).run Tryz.prog w = .ok () w' ∧ GetM l (Bd - 2) vb sb (X.mark (n, a) c) w' ∧ 3 ≤ Bd ∧ w.grownBy w' (some sb) := by
  obtain ⟨⟨m, h1, h2⟩, ⟨k, h3, h4⟩⟩ := h
  have hlt := cnt0_mark (c := c) hc h0 hi
  obtain ⟨w', hrun, hN, hg⟩ := h1.store (by omega) hok (x := (c : Int)) (by simp [Lit.wf, IntKind.min, IntKind.max, IntKind.signed, IntKind.bits]; omega)
  refine ⟨w', hrun, ⟨⟨m + 1, ?_, by omega⟩, ⟨k, num_grown h3 hg hne, by omega⟩⟩, by omega, hg⟩
  have e : (fun i => ((X.mark (n, a) c).st i : Int)) = fun j => if j = (n, a) then (c : Int) else (X.st j : Int) := funext fun j => by unfold GetS.mark; dsimp only; split <;> rfl
  rw [e]
  exact hN
theorem GetM.again (h : GetM l Bd vb sb X w) (hBd : Bd ≤ 1000000000000) (hne : vb ≠ sb) {n a : Nat} (h0 : X.st (n, a) ≠ 0) (hok : okI (n, a)) {c : Nat} (hc : c ≠ 0) (hc3 : c ≤ 3) :
    ∃ w', (Instr.mapUpdate 129 (.map (some sb)) (.agg #[.int .i64 n, .int .i64 a]) (.int .i64 (c : Int))).run Tryz.prog w = .ok () w' ∧ GetM l (Bd + 1) vb sb (X.mark (n, a) c) w' ∧ w.grownBy w' (some sb) := by
  obtain ⟨⟨m, h1, h2⟩, ⟨k, h3, h4⟩⟩ := h
  have heq : cnt0 l (X.mark (n, a) c) = cnt0 l X := by
    unfold cnt0
    refine List.countP_congr fun j _ => ?_
    unfold GetS.mark
    by_cases e : j = (n, a)
    · subst e; simp [hc, h0]
    · simp [e]
  obtain ⟨w', hrun, hN, hg⟩ := h1.store (by omega) hok (x := (c : Int)) (by simp [Lit.wf, IntKind.min, IntKind.max, IntKind.signed, IntKind.bits]; omega)
  refine ⟨w', hrun, ⟨⟨m + 1, ?_, by omega⟩, ⟨k, num_grown h3 hg hne, by omega⟩⟩, hg⟩
  have e : (fun i => ((X.mark (n, a) c).st i : Int)) = fun j => if j = (n, a) then (c : Int) else (X.st j : Int) := funext fun j => by unfold GetS.mark; dsimp only; split <;> rfl
  rw [e]
  exact hN
theorem GetM.put (h : GetM l Bd vb sb X w) (hBd : Bd ≤ 1000000000000) (hne : vb ≠ sb) {n a : Nat} (hok : okI (n, a)) {v : Int} (hv : inM v) :
    ∃ w', (Instr.mapUpdate 129 (.map (some vb)) (.agg #[.int .i64 n, .int .i64 a]) (.int .i64 v)).run Tryz.prog w = .ok () w' ∧ GetM l (Bd + 1) vb sb (X.val (n, a) v) w' ∧ w.grownBy w' (some vb) := by
  obtain ⟨⟨m, h1, h2⟩, ⟨k, h3, h4⟩⟩ := h
  obtain ⟨w', hrun, hN, hg⟩ := h3.store (by omega) hok (wfM hv)
  exact ⟨w', hrun, ⟨⟨m, num_grown h1 hg (Ne.symm hne), by show m + 3 * cnt0 l X ≤ _; omega⟩, ⟨k + 1, hN, by show k + 1 + 3 * cnt0 l X ≤ _; omega⟩⟩, hg⟩
end
end Dm
end Go.Proofs.YtfocooehnmpndaaGreat
namespace Go.Proofs.YtfocooehnmpndaaGreat
open Go.RowKit
namespace At
set_option maxHeartbeats 1000000 in
theorem maxE (a : Option Addr) (cap : Nat) (l : List Int) (w : World) (h0 : 0 < l.length) (hl : Sl w (.slice a l.length cap) (ints l)) :
    Calls Tryz.prog 108 #[.slice a l.length cap] w fun e w' => e = .returned (.int .i64 (maxF l)) ∧ w' = w := by
  have HL := Lib.hid hl
  have hc := hl.len.2
  unfold maxLen at hc
  obtain ⟨hc1, hc2⟩ := hc
  have HM0 : Hid ((l.take 1).foldl max (l.headD 0) = l.headD 0) := by
    show _ = _
    cases l with
    | nil => simp at h0
    | cons a l => simp
  have HME : Hid (maxF l = (l.take l.length).foldl max (l.headD 0)) := by show _ = _; rw [List.take_length]; rfl
  have HHD : Hid (l[0]'h0 = l.headD 0) := by
    show _ = _
    cases l with
    | nil => simp at h0
    | cons a l => rfl
  obtain ⟨b, off, rfl, hcell⟩ := hl.at h0
  have c0 := hcell 0 (by rw [ints_len]; exact h0)
  rw [ints_get, HHD.out, Nat.add_zero] at c0
  obtain ⟨hd, HDD⟩ := nameIt (l.headD 0)
  rw [HDD.out] at HM0 c0
  rw [HDD.out] at HME
  have hn1 : ¬ (l.length : Int) < 1 := by omega
  clear hl hcell
  go_enter Tryz.func108, Tryz.ntmps108
  go_wp2_with fail
  go_loopg [3, 4] l.length (fun gg v3 v4 wr => ∃ (i : Nat) (z : Int), i ≤ l.length ∧ 1 ≤ i ∧ l.length - i ≤ gg ∧ v4 = .int .i64 i ∧ v3 = .int .i64 z ∧ wr = w ∧ Hid ((l.take i).foldl max hd = z))
  case atStart => exact ⟨1, hd, by omega, by omega, by omega, rfl, rfl, rfl, HM0⟩
  case round =>
    obtain ⟨i, z, hi, hi1, hg, rfl, rfl, rfl, HZ⟩ := hrel
    by_cases hlt : i < l.length
    · have hlt' : (i : Int) < (l.length : Int) := by omega
      obtain ⟨b', off', hae, hca⟩ := HL.out.at hlt
      cases hae
      have c1 := hca i (by rw [ints_len]; exact hlt)
      rw [ints_get] at c1
      have HST : Hid ((l.take (i + 1)).foldl max hd = max z (l[i]'hlt)) := by show _ = _; rw [fold_take hlt, HZ.out]
      obtain ⟨x, HX⟩ := nameIt (l[i]'hlt)
      rw [HX.out] at c1 HST
      obtain ⟨z2, HZ2⟩ := nameIt (max z x)
      rw [HZ2.out] at HST
      have hmx : max z x = z2 := HZ2.out
      clear hca
      go_wp2_with fail
      go_roundg (l.length - (i + 1))
      case measure => omega
      case rel => exact ⟨i + 1, z2, by omega, by omega, by omega, by go_num, rfl, rfl, HST⟩
    · have hlt' : ¬ (i : Int) < (l.length : Int) := by omega
      have HE : Hid (maxF l = z) := by show _ = _; rw [HME.out, List.take_length, ← HZ.out, List.take_of_length_le (show l.length ≤ i by omega)]
      go_wp2_with fail
      go_ret
      exact ⟨by rw [HE.out]; rfl, rfl⟩
-- calcE below
set_option maxHeartbeats 8000000 in
set_option maxRecDepth 100000 in
theorem calcE (RP : Ref → Prop) (g : Nat) (lb : Array Value) (get : Ref → Int) (hget : ∀ r, RP r → inM (get r)) (eg : ∀ args w, (callFunc g args).run Tryz.prog w = .ok (.enter g args) w) : ∀ (m : Nat) (x : Expr) (v : Value) (w : World), x.size ≤ m → okX RP x → GetAt RP g lb get w → Rd AnyB w (.sl (x.args.map Expr.d)) [v] → x.size ≤ 100000 →
    Calls Tryz.prog 82 #[.agg #[.int .i64 x.kind, .int .i64 x.n, .int .i64 x.ref.at', .int .i64 x.ref.attr, v], .func (.func g) #[] lb] w (fun e w' => e = .returned (.int .i64 (worth get x)) ∧ Below w.heap.size w w') := by
  intro m
  induction m with
  | zero => intro x v w hm; have := x.size_pos; omega
  | succ m ih =>
  intro x v w hm hx hgf hv hbig
  obtain ⟨a, cap, rfl, hc1, hc2⟩ := hv.form
  rw [List.length_map] at hc1 hv ⊢
  unfold maxLen at hc2
  have HV := Lib.hid hv
  have HM := Lib.hid hm
  have HSZ := Lib.hid x.size_eq
  have HXS := Lib.hid hx.self
  have hkn : x.args.length ≤ 100000 := by have := sizeL_len x.args; rw [Expr.size_eq] at hbig; omega
  have IH := Lib.hid (fun y u W h1 h2 h3 h4 => ih y u W h1 h2 h3 h4)
  have HOK := Lib.hid (fun y (hy : y ∈ x.args) => hx.kid hy)
  have HWE := Lib.hid (worth_eq get x)
  have HVM := Lib.hid (worthL_inM hget hx)
  have HVI := Lib.hid (fun (i : Nat) (h : i < x.args.length) => show ∀ h2, (worthL get x.args)[i]'h2 = worth get x.args[i] from fun h2 => by simp [worthL_map])
  have HVL : Hid ((worthL get x.args).length = x.args.length) := by show _ = _; rw [worthL_map, List.length_map]
  have HGR := Lib.hid (hget x.ref)
  have HKBIG := Lib.hid (fun y (hy : y ∈ x.args) => show y.size ≤ 100000 by
    obtain ⟨i, hi, rfl⟩ := List.getElem_of_mem hy
    have := sizeL_kid hi
    rw [Expr.size_eq] at hbig
    omega)
  obtain ⟨w0, HW0⟩ := nameIt (w.alloc (.cells #[.int .i64 x.kind, .int .i64 x.n, .int .i64 x.ref.at', .int .i64 x.ref.attr, .slice a x.args.length cap] 86))
  have HB0 : Hid (Below w.heap.size w w0) := by rw [← HW0.out]; exact (Below.refl _ _).alloc (Nat.le_refl _) _
  have X0 : Hid (w0.heap[w.heap.size]? = some (.cells #[.int .i64 x.kind, .int .i64 x.n, .int .i64 x.ref.at', .int .i64 x.ref.attr, .slice a x.args.length cap] 86 (0, 0))) := by rw [← HW0.out]; exact bx_new _ _ _ rfl
  have HS0 : Hid (w0.heap.size = w.heap.size + 1) := by show _ = _; rw [← HW0.out]; simp
  have HGF := Lib.hid (fun (W : World) (hb : Below w0.heap.size w0 W) => (hgf.below HB0.out).below hb)
  obtain ⟨V, HVV⟩ := nameIt (worthL get x.args)
  obtain ⟨K, HKN⟩ := nameIt x.args
  simp only [HVV.out] at HWE HVM HVI HVL
  simp only [HKN.out] at HVI HVL HKBIG HOK HV HSZ
  obtain ⟨kn, HKL⟩ := nameIt K.length
  obtain ⟨q0, HQ0⟩ := nameIt x.kind
  obtain ⟨q1, HQ1⟩ := nameIt x.n
  obtain ⟨q2, HQ2⟩ := nameIt x.ref.at'
  obtain ⟨q3, HQ3⟩ := nameIt x.ref.attr
  obtain ⟨gr, HGRR⟩ := nameIt (get x.ref)
  obtain ⟨rs, HRS⟩ := nameIt (worth get x)
  rw [HKN.out, HKL.out] at hc1 X0 HW0 hkn ⊢
  rw [HKL.out] at HV HVL
  rw [HQ0.out, HQ1.out, HQ2.out, HQ3.out] at X0 HW0 ⊢
  rw [HRS.out, HQ0.out, HQ1.out, HGRR.out] at HWE
  rw [HGRR.out] at HGR
  rw [HRS.out]
  have HOA : Hid (okArgs q0 kn = true) := by have h := HXS.out.1; rw [HQ0.out, HKN.out, HKL.out] at h; exact h
  have HO1R : Hid (q0 = 1 → RP x.ref) := fun h => HXS.out.2.2 (by rw [HQ0.out]; exact h)
  have HO0 : Hid (w0.ownsRow (w.heap.size + 1) 3 1 (.slice none 0 0) 0 (ints (V.take 0))) := World.ownsRow_nil _ _ _ _
  have HB00 := Lib.hid (Below.refl w0.heap.size w0)
  have HGC := Lib.hid (fun (W : World) (hb : Below w0.heap.size w0 W) (h : q0 = 1) => HGF.out W hb W x.ref (HO1R.out h) (Below.refl _ _))
  rw [HQ2.out, HQ3.out, HGRR.out] at HGC
  obtain ⟨x0, x1, x2, x3, x4⟩ := bx_cells5 X0.out
  have HEG := Lib.hid eg
  have HHG := Lib.hid hget
  clear hm hx hgf hv ih hbig hget
  go_enter Tryz.func82, Tryz.ntmps82
  go_upto_region 1 with fail
  rw [HW0.out]
  by_cases e0 : q0 = 0
  · subst e0
    have HE : Hid (rs = q1) := by show _ = _; rw [HWE.out, comb_0]
    go_wp2_with fail
    go_ret
    exact ⟨by rw [HE.out]; rfl, HB0.out⟩
  by_cases e1 : q0 = 1
  · subst e1
    have HE : Hid (rs = gr) := by show _ = _; rw [HWE.out, comb_1]
    have HC := Lib.hid (HGC.out w0 HB00.out rfl)
    go_wp2_with fail
    refine HC.out.mono ?_
    rintro e w7 ⟨rfl, hb7⟩
    have HB7 := Lib.hid hb7
    clear hb7
    go_wp2_with fail
    go_ret
    exact ⟨by rw [HE.out]; rfl, HB0.out.trans (HB7.out.mono HB0.out.size)⟩
  have f0 : (q0 == 0) = false := by simpa using e0
  have f1 : (q0 == 1) = false := by simpa using e1
  have HE01 : Hid (q0 ≠ 0 ∧ q0 ≠ 1) := ⟨e0, e1⟩
  clear e0 e1
  go_wp2_with fail
  clear x0 x1 x2 x3 x4
  go_loopg [5, 28] kn (fun gg vl vc wr => ∃ i : Nat, i ≤ kn ∧ kn - i ≤ gg ∧ vc = .int .i64 i ∧ Hid (wr.ownsRow (w.heap.size + 1) 3 1 vl i (ints (V.take i))) ∧ Hid (Below w0.heap.size w0 wr))
  case atStart => exact ⟨0, by omega, by omega, rfl, HO0, HB00⟩
  case round =>
    clear HO0 HB00
    obtain ⟨i, hi, hg, rfl, HO, HB⟩ := hrel
    by_cases hlt : i < kn
    · have hlt' : (i : Int) < (kn : Int) := by omega
      have hltK : i < K.length := by rw [HKL.out]; exact hlt
      have hbw : Below w.heap.size w wr := HB0.out.trans (HB.out.mono HB0.out.size)
      obtain ⟨b, off, v, hae, -, hbl, e0, e1, e2, e3, e4, hkid⟩ := Rd.arg (HV.out.below hbw) hltK
      obtain ⟨av, cv, rfl, -, -⟩ := hkid.form
      rw [List.length_map] at e4 hkid
      have hms : K[i].size ≤ m := by
        have h1 := HM.out
        rw [HSZ.out] at h1
        have := sizeL_kid hltK
        omega
      have hvi : i < V.length := by rw [HVL.out]; exact hlt
      have HVT : Hid (V.take (i + 1) = V.take i ++ [worth get (K[i]'hltK)]) := by
        show _ = _
        rw [List.take_succ_eq_append_getElem hvi]
        congr 2
        rw [HVI.out i hltK hvi]
      obtain ⟨w1, HW1⟩ := nameIt (wr.alloc (.cells #[.int .i64 K[i].kind, .int .i64 K[i].n, .int .i64 K[i].ref.at', .int .i64 K[i].ref.attr, .slice av K[i].args.length cv] 86))
      have hb1 : Below wr.heap.size wr w1 := by rw [← HW1.out]; exact (Below.refl _ _).alloc (Nat.le_refl _) _
      have X1 : Hid (w1.heap[wr.heap.size]? = some (.cells #[.int .i64 K[i].kind, .int .i64 K[i].n, .int .i64 K[i].ref.at', .int .i64 K[i].ref.attr, .slice av K[i].args.length cv] 86 (0, 0))) := by rw [← HW1.out]; exact bx_new _ _ _ rfl
      have HB1 : Hid (Below w0.heap.size w0 w1) := HB.out.trans (hb1.mono HB.out.size)
      have hih := IH.out K[i] _ w1 hms (HOK.out _ (List.getElem_mem hltK)) (HGF.out w1 HB1.out) (hkid.below hb1) (HKBIG.out _ (List.getElem_mem hltK))
      obtain ⟨kid, HKI⟩ := nameIt (K[i]'hltK)
      rw [HKI.out] at e0 e1 e2 e3 e4 hih HVT X1 HW1
      obtain ⟨q0, HQ0⟩ := nameIt kid.kind
      obtain ⟨q1, HQ1⟩ := nameIt kid.n
      obtain ⟨q2, HQ2⟩ := nameIt kid.ref.at'
      obtain ⟨q3, HQ3⟩ := nameIt kid.ref.attr
      obtain ⟨qn, HQN⟩ := nameIt kid.args.length
      obtain ⟨val, HVAL⟩ := nameIt (worth get kid)
      rw [HVAL.out] at hih HVT
      rw [HQ0.out, HQ1.out, HQ2.out, HQ3.out, HQN.out] at hih X1 HW1
      rw [HQ0.out] at e0
      rw [HQ1.out] at e1
      rw [HQ2.out] at e2
      rw [HQ3.out] at e3
      rw [HQN.out] at e4
      have HC := Lib.hid hih
      have HO1 := Lib.hid (own_keep HO.out hb1)
      obtain ⟨ar, cr, hvr, hr1, hr2⟩ := own_len HO1.out
      obtain ⟨y0, y1, y2, y3, y4⟩ := bx_cells5 X1.out
      subst hae hvr
      clear hih hkid hms hb1 hbw hvi
      go_upto_region 10 with fail
      rw [HW1.out]
      clear e0 e1 e2 e3 e4
      go_wp2_with fail
      refine HC.out.mono ?_
      rintro e w2 ⟨rfl, hb2⟩
      have HB2 : Hid (Below w0.heap.size w0 w2) := HB1.out.trans (hb2.mono HB1.out.size)
      have HO2 := Lib.hid (own_keep HO1.out hb2)
      have hle2 : w.heap.size + 1 ≤ w2.heap.size := by have := HB2.out.size; have := HS0.out; omega
      clear hb2 y0 y1 y2 y3 y4
      go_wp2_with (at_builtin; refine wp_app1at elInt rfl _ _ rfl HO2.out rfl rfl (by simp) rfl rfl (by omega) (by unfold maxLen; omega) (by omega) ?_)
      intro v3 w3 ho3 hg3 hat3
      have HO3 : Hid (w3.ownsRow (w.heap.size + 1) 3 1 v3 (i + 1) (ints (V.take (i + 1)))) := by
        show w3.ownsRow _ _ _ _ _ _
        rw [HVT.out]
        simpa [ints] using ho3
      have HB3 : Hid (Below w0.heap.size w0 w3) := HB2.out.grown hg3 HB2.out.size (fun k e => by have := (HO2.out.lt k e).1; have := HS0.out; omega)
      obtain ⟨a3, c3, rfl, -, -⟩ := own_len ho3
      clear ho3 hg3 hat3
      go_wp2_with fail
      go_roundg (kn - (i + 1))
      case measure => omega
      case rel => exact ⟨i + 1, by omega, by omega, by go_num, HO3, HB3⟩
    · have hlt' : ¬ (i : Int) < (kn : Int) := by omega
      have HO5 : Hid (wr.ownsRow (w.heap.size + 1) 3 1 u5 kn (ints V)) := by
        have h := HO.out
        rw [List.take_of_length_le (by rw [HVL.out]; omega)] at h
        have e : i = kn := by omega
        rw [e] at h
        exact h
      obtain ⟨ar, cr, hvr, hr1, hr2⟩ := own_len HO5.out
      subst hvr
      have HSL : Hid (Sl wr (.slice ar V.length cr) (ints V)) := by rw [HVL.out]; exact sl_of_own HO5.out
      have HBW : Hid (Below w.heap.size w wr) := HB0.out.trans (HB.out.mono HB0.out.size)
      have XK := Lib.hid (bx_keep X0.out HB.out)
      obtain ⟨x0, x1, x2, x3, x4⟩ := bx_cells5 XK.out
      clear f0 f1
      by_cases e2 : q0 = 2
      · subst e2
        have HZ0 : Hid ((V.take 0).sum % 1000003 = (0 : Int)) := by show _ = _; simp
        go_wp2_with fail
        go_loopg [8, 45] kn (fun gg vs vc wq => ∃ (i : Nat) (z : Int), i ≤ kn ∧ kn - i ≤ gg ∧ vc = .int .i64 i ∧ vs = .int .i64 z ∧ wq = wr ∧ Hid ((V.take i).sum % 1000003 = z))
        case atStart => exact ⟨0, _, by omega, by omega, rfl, rfl, rfl, HZ0⟩
        case round =>
          clear HZ0
          obtain ⟨j, z, hj, hgj, rfl, rfl, rfl, HZ⟩ := hrel
          by_cases hjn : j < kn
          · have hjn' : (j : Int) < (kn : Int) := by omega
            have hjV : j < V.length := by rw [HVL.out]; exact hjn
            obtain ⟨bl, ol, hal, hcl⟩ := HSL.out.at hjV
            have c1 := hcl j (by rw [ints_len]; exact hjV)
            rw [ints_get] at c1
            have hv := HVM.out _ (List.getElem_mem hjV)
            have hzr : inM z := by rw [← HZ.out]; exact emod_inM _
            have HST : Hid ((V.take (j + 1)).sum % 1000003 = (z + V[j]) % 1000003) := by show _ = _; rw [sum_take hjV, ← HZ.out, Int.emod_add_emod]
            obtain ⟨u, HU⟩ := nameIt (V[j]'hjV)
            rw [HU.out] at c1 hv HST
            obtain ⟨hv0, hv1⟩ := hv
            obtain ⟨hz0, hz1⟩ := hzr
            obtain ⟨z2, HZ2⟩ := nameIt ((z + u) % 1000003)
            have HST2 : Hid ((V.take (j + 1)).sum % 1000003 = z2) := by show _ = _; rw [HST.out, HZ2.out]
            have m1 : u.tmod 1000003 = u := by rw [tmod_nn hv0]; exact Int.emod_eq_of_lt hv0 hv1
            have m2 : u % 1000003 = u := Int.emod_eq_of_lt hv0 hv1
            have m3 : (z + u) % 1000003 = z2 := HZ2.out
            have m4 : (z + u + 1000003) % 1000003 = z2 := by rw [Int.add_emod_right]; exact HZ2.out
            have m5 : (z + u + 1000003).tmod 1000003 = z2 := by rw [tmod_nn (by omega)]; exact m4
            subst hal
            clear hcl
            go_wp2_with fail
            go_roundg (kn - (j + 1))
            case measure => omega
            case rel => exact ⟨j + 1, z2, by omega, by omega, by go_num, rfl, rfl, HST2⟩
          · have hjn' : ¬ (j : Int) < (kn : Int) := by omega
            have HE : Hid (rs = z) := by show _ = _; rw [HWE.out, ← HZ.out, comb_2]; rw [List.take_of_length_le (show V.length ≤ j by rw [HVL.out]; omega)]
            go_wp2_with fail
            go_ret
            exact ⟨by rw [HE.out]; rfl, HBW.out⟩
      by_cases e3 : q0 = 3
      · subst e3
        have HZ0 : Hid ((V.take 0).foldl (fun a v => a * v % 1000003) 1 = (1 : Int)) := by show _ = _; rfl
        go_wp2_with fail
        go_loopg [8, 60] kn (fun gg vs vc wq => ∃ (i : Nat) (z : Int), i ≤ kn ∧ kn - i ≤ gg ∧ vc = .int .i64 i ∧ vs = .int .i64 z ∧ wq = wr ∧ Hid ((V.take i).foldl (fun a v => a * v % 1000003) 1 = z))
        case atStart => exact ⟨0, _, by omega, by omega, rfl, rfl, rfl, HZ0⟩
        case round =>
          clear HZ0
          obtain ⟨j, z, hj, hgj, rfl, rfl, rfl, HZ⟩ := hrel
          by_cases hjn : j < kn
          · have hjn' : (j : Int) < (kn : Int) := by omega
            have hjV : j < V.length := by rw [HVL.out]; exact hjn
            obtain ⟨bl, ol, hal, hcl⟩ := HSL.out.at hjV
            have c1 := hcl j (by rw [ints_len]; exact hjV)
            rw [ints_get] at c1
            have hv := HVM.out _ (List.getElem_mem hjV)
            have hzr : inM z := by rw [← HZ.out]; exact fold_mul_inM _ _ ⟨by decide, by decide⟩ (fun q hq => HVM.out q (List.mem_of_mem_take hq))
            have HST : Hid ((V.take (j + 1)).foldl (fun a v => a * v % 1000003) 1 = z * V[j] % 1000003) := by show _ = _; rw [fold_take hjV, HZ.out]
            obtain ⟨u, HU⟩ := nameIt (V[j]'hjV)
            rw [HU.out] at c1 hv HST
            obtain ⟨hv0, hv1⟩ := hv
            obtain ⟨hz0, hz1⟩ := hzr
            obtain ⟨z2, HZ2⟩ := nameIt (z * u % 1000003)
            have HST2 : Hid ((V.take (j + 1)).foldl (fun a v => a * v % 1000003) 1 = z2) := by show _ = _; rw [HST.out, HZ2.out]
            have hp0 : 0 ≤ z * u := Int.mul_nonneg hz0 hv0
            have hp1 : z * u ≤ 1000003 * 1000003 := Int.mul_le_mul (by omega) (by omega) hv0 (by omega)
            have hz2 := emod_inM (z * u)
            rw [HZ2.out] at hz2
            obtain ⟨hz20, hz21⟩ := hz2
            have m1 : u.tmod 1000003 = u := by rw [tmod_nn hv0]; exact Int.emod_eq_of_lt hv0 hv1
            have m2 : u % 1000003 = u := Int.emod_eq_of_lt hv0 hv1
            have m3 : z * u % 1000003 = z2 := HZ2.out
            have m4 : (z * u).tmod 1000003 = z2 := by rw [tmod_nn hp0]; exact m3
            have m5 : (z2 + 1000003) % 1000003 = z2 := by rw [Int.add_emod_right]; exact Int.emod_eq_of_lt hz20 hz21
            have m6 : (z2 + 1000003).tmod 1000003 = z2 := by rw [tmod_nn (by omega)]; exact m5
            have m7 : z2 % 1000003 = z2 := Int.emod_eq_of_lt hz20 hz21
            have mw : IntKind.i64.wrap (z * u) = z * u := IntWalk.i64_in _ (by omega)
            subst hal
            clear hcl
            go_wp2_with fail
            go_roundg (kn - (j + 1))
            case measure => omega
            case rel => exact ⟨j + 1, z2, by omega, by omega, by go_num, rfl, rfl, HST2⟩
          · have hjn' : ¬ (j : Int) < (kn : Int) := by omega
            have HE : Hid (rs = z) := by show _ = _; rw [HWE.out, ← HZ.out, comb_3]; rw [List.take_of_length_le (show V.length ≤ j by rw [HVL.out]; omega)]
            go_wp2_with fail
            go_ret
            exact ⟨by rw [HE.out]; rfl, HBW.out⟩
      by_cases e4 : q0 = 4
      · subst e4
        have hk1 : 0 < V.length := by have h : 1 ≤ kn := (by simpa [okArgs] using HOA.out); rw [HVL.out]; omega
        have hmx := maxE ar cr V wr hk1 HSL.out
        rw [HVL.out] at hmx
        have HMX := Lib.hid hmx
        have HE : Hid (rs = maxF V) := by show _ = _; rw [HWE.out, comb_4]
        clear hmx
        go_wp2_with fail
        refine HMX.out.mono ?_
        rintro e w7 ⟨rfl, rfl⟩
        go_wp2_with fail
        go_ret
        exact ⟨by rw [HE.out]; rfl, HBW.out⟩
      by_cases e5 : q0 = 5
      · subst e5
        have hk2 : kn = 2 := by have h := HOA.out; simpa [okArgs] using h
        obtain ⟨bl, ol, hal, hcl⟩ := HSL.out.at (k := 0) (by rw [HVL.out]; omega)
        have c0 := hcl 0 (by rw [ints_len, HVL.out]; omega)
        rw [ints_get] at c0
        have HG0 : Hid (V[0]?.getD 0 = V[0]'(by rw [HVL.out]; omega)) := by show _ = _; rw [List.getElem?_eq_getElem (by rw [HVL.out]; omega)]; rfl
        have c1 := hcl 1 (by rw [ints_len, HVL.out]; omega)
        rw [ints_get] at c1
        have HG1 : Hid (V[1]?.getD 0 = V[1]'(by rw [HVL.out]; omega)) := by show _ = _; rw [List.getElem?_eq_getElem (by rw [HVL.out]; omega)]; rfl
        obtain ⟨u0, HU0⟩ := nameIt (V[0]'(by rw [HVL.out]; omega))
        rw [HU0.out] at c0 HG0
        obtain ⟨u1, HU1⟩ := nameIt (V[1]'(by rw [HVL.out]; omega))
        rw [HU1.out] at c1 HG1
        rw [Nat.add_zero] at c0
        subst hal
        clear hcl
        have HE : Hid (rs = if u0 < u1 then 1 else 0) := by show _ = _; rw [HWE.out, comb_5, HG0.out, HG1.out]
        subst hk2
        by_cases hlt2 : u0 < u1
        · have hd2 : decide (u0 < u1) = true := by simpa using hlt2
          have HE2 : Hid (rs = 1) := by show _ = _; rw [HE.out, if_pos hlt2]
          clear hlt2
          go_upto_region 30 with fail
          go_quiet (fail)
          go_wp2_with fail
          go_ret
          exact ⟨by rw [HE2.out]; rfl, HBW.out.trans ((below_drewN _ _).mono HBW.out.size)⟩
        · have hd2 : decide (u0 < u1) = false := by simpa using hlt2
          have HE2 : Hid (rs = 0) := by show _ = _; rw [HE.out, if_neg hlt2]
          clear hlt2
          go_upto_region 30 with fail
          go_quiet (fail)
          go_wp2_with fail
          go_ret
          exact ⟨by rw [HE2.out]; rfl, HBW.out.trans ((below_drewN _ _).mono HBW.out.size)⟩
      by_cases e6 : q0 = 6
      · subst e6
        have hk3 : kn = 3 := by have h := HOA.out; simpa [okArgs] using h
        obtain ⟨bl, ol, hal, hcl⟩ := HSL.out.at (k := 0) (by rw [HVL.out]; omega)
        have c0 := hcl 0 (by rw [ints_len, HVL.out]; omega)
        rw [ints_get] at c0
        have HG0 : Hid (V[0]?.getD 0 = V[0]'(by rw [HVL.out]; omega)) := by show _ = _; rw [List.getElem?_eq_getElem (by rw [HVL.out]; omega)]; rfl
        have c1 := hcl 1 (by rw [ints_len, HVL.out]; omega)
        rw [ints_get] at c1
        have HG1 : Hid (V[1]?.getD 0 = V[1]'(by rw [HVL.out]; omega)) := by show _ = _; rw [List.getElem?_eq_getElem (by rw [HVL.out]; omega)]; rfl
        have c2 := hcl 2 (by rw [ints_len, HVL.out]; omega)
        rw [ints_get] at c2
        have HG2 : Hid (V[2]?.getD 0 = V[2]'(by rw [HVL.out]; omega)) := by show _ = _; rw [List.getElem?_eq_getElem (by rw [HVL.out]; omega)]; rfl
        obtain ⟨u0, HU0⟩ := nameIt (V[0]'(by rw [HVL.out]; omega))
        rw [HU0.out] at c0 HG0
        obtain ⟨u1, HU1⟩ := nameIt (V[1]'(by rw [HVL.out]; omega))
        rw [HU1.out] at c1 HG1
        obtain ⟨u2, HU2⟩ := nameIt (V[2]'(by rw [HVL.out]; omega))
        rw [HU2.out] at c2 HG2
        rw [Nat.add_zero] at c0
        subst hal
        clear hcl
        have HE : Hid (rs = if u0 ≠ 0 then u1 else u2) := by show _ = _; rw [HWE.out, comb_6, HG0.out, HG1.out, HG2.out]
        subst hk3
        by_cases hz3 : u0 = 0
        · subst hz3
          have HE2 : Hid (rs = u2) := by show _ = _; rw [HE.out, if_neg (by simp)]
          go_wp2_with fail
          go_ret
          exact ⟨by rw [HE2.out]; rfl, HBW.out⟩
        · have hb3 : (u0 == 0) = false := by simpa using hz3
          have hb4 : (u0 != 0) = true := by simpa using hz3
          have HE2 : Hid (rs = u1) := by show _ = _; rw [HE.out, if_pos hz3]
          clear hz3
          go_wp2_with fail
          go_ret
          exact ⟨by rw [HE2.out]; rfl, HBW.out⟩
      exfalso
      have h := HOA.out
      have h1 := HE01.out
      unfold okArgs at h
      rw [if_neg (by omega), if_neg (by omega), if_neg e4, if_neg e5, if_neg e6] at h
      cases h
end At
end Go.Proofs.YtfocooehnmpndaaGreat
