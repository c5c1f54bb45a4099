/- demand.New. A row of the call's own that is also cut at its front: append to it. parlref4.World.Below. The reference's world beside maps that are changed; a range over a set of instances. slices.Contains of instances (they read as occurrences). -/
import Derived.Test.YtfocooehnmpndaaGreatJDemandSomeRow17
import Derived.Test.YtfocooehnmpndaaGreatJDemandSomeRow12
import Derived.Test.YtfocooehnmpndaaGreatJDemandSomeRow2
import Derived.Test.YtfocooehnmpndaaGreatJDemandSomeRow15
import Derived.Test.YtfocooehnmpndaaGreatJDemandSomeRow16
import Derived.Test.YtfocooehnmpndaaGreatJDemandSomeRow9
import Derived.Deep.Upon
import Derived.Lib.AppendZeros
import Derived.Carry
import Derived.Maps.RangeWalk
import Derived.Test.YtfocooehnmpndaaGreatJDemandSomeRow3
namespace Go.Proofs.YtfocooehnmpndaaGreat
open Go.RowKit
theorem noCell {w : World} {b ck : Nat} {es : Array MapEntry} (hb : w.heap[b]? = some (.map es ck)) {p : Addr} (hp : p.block = b) : w.cell? p = none := by
  simp [World.cell?, hp, hb]
mutual
theorem Rd.strict {S : Nat → Prop} {w : World} {b ck : Nat} {es : Array MapEntry} (hb : w.heap[b]? = some (.map es ck)) : ∀ (d : D) (cs : List Value), Rd S w d cs → Rd (fun k => S k ∧ k ≠ b) w d cs
  | .int n, cs, h => h
  | .bool n, cs, h => h
  | .str n, cs, h => h
  | .sl ds, cs, h => by
    obtain ⟨a, cap, L, rfl, h1, h2, h3, h4, h5⟩ := h
    refine ⟨a, cap, L, rfl, h1, h2, h3, fun i hi => ?_, RdAll.strict hb ds L h5⟩
    obtain ⟨x, hx, hS, hc⟩ := h4 i hi
    refine ⟨x, hx, ⟨hS, fun e => ?_⟩, hc⟩
    rw [noCell hb (show (x.add i).block = b by rw [add_block]; exact e)] at hc
    cases hc
  | .agg ds, cs, h => RdAll.strict hb ds cs h
theorem RdAll.strict {S : Nat → Prop} {w : World} {b ck : Nat} {es : Array MapEntry} (hb : w.heap[b]? = some (.map es ck)) : ∀ (ds : List D) (cs : List Value), RdAll S w ds cs → RdAll (fun k => S k ∧ k ≠ b) w ds cs
  | [], cs, h => h
  | d :: ds, cs, h => by
    obtain ⟨c1, c2, rfl, h1, h2⟩ := h
    exact ⟨c1, c2, rfl, Rd.strict hb d c1 h1, RdAll.strict hb ds c2 h2⟩
end
namespace Dm
open At (Ref okEqK checkS)
theorem TbS.stable {g : Gram} {s : At.Sys} {L : List Nd} {tb eb vb sb cb ck : Nat} {es : Array MapEntry} {w w' : World} (h : TbS g s L tb eb vb sb w) (hc : w.heap[cb]? = some (.map es ck)) (hne : cb ≠ eb) (hk : Keeps (CT3 vb sb cb) w w') : TbS g s L tb eb vb sb w' := by
  obtain ⟨⟨ar, cr, aa, ac, qa, qn, qc, na, nc, h1, h2, h3, h4⟩, h5, h6⟩ := h
  obtain ⟨n1, n2, n3, n4, n5⟩ := h6
  have htc : tb ≠ cb := fun e => by rw [e, hc] at h1; cases h1
  have hr : ∀ {d : D} {cs : List Value}, Rd (PT vb sb) w d cs → Rd (PT vb sb) w' d cs := fun h =>
    Rd.keep (fun k hk' hl => ⟨hk'.1, hk.block k hl (fun e => by
      rcases e with (e | e) | e
      · exact hk'.1.1 e
      · exact hk'.1.2 e
      · exact hk'.2 e)⟩) _ _ (Rd.strict hc _ _ h)
  refine ⟨⟨ar, cr, aa, ac, qa, qn, qc, na, nc, hk.cells h1 (fun e => ?_), hr h2, hr h3, hr h4⟩, ?_, n1, n2, n3, n4, n5⟩
  · rcases e with (e | e) | e
    · exact n1 e
    · exact n2 e
    · exact htc e
  · obtain ⟨D, e1, e2⟩ := h5
    refine ⟨D, ownsMap_same e1 (hk.block eb e1.lt (fun e => ?_)), fun q hq => ?_⟩
    · rcases e with (e | e) | e
      · exact n3 e
      · exact n4 e
      · exact hne e.symm
    · obtain ⟨v, a1, a2⟩ := e2 q hq
      exact ⟨v, a1, hr a2⟩
def NewDPost (g : Gram) (s : At.Sys) (T : Tree) (W : World) (e : Ending) (w' : World) : Prop := ∃ v er, e = .returned (.tuple #[v, .int .i64 er]) ∧ Below W.heap.size W w' ∧ (chkD g s T ≠ 0 → er = chkD g s T ∧ v = .pointer none) ∧
  (chkD g s T = 0 → er = 0 ∧ ∃ ev tb eb vb sb cb, v = .pointer (some ⟨ev, 0, none⟩) ∧ EvB g s (tabT T) ev tb eb vb sb cb w' ∧ EvS g s (tabT T) ev tb eb vb sb cb w' (fun _ => false) 0 ⟨fun _ => 0, fun _ => 0⟩ w' ∧ W.heap.size ≤ vb ∧ W.heap.size ≤ sb ∧ W.heap.size ≤ cb ∧ W.heap.size ≤ ev)
structure NewQ (g : Gram) (s : At.Sys) (T : Tree) (W : World) (tb eb vb sb : Nat) (w : World) : Prop where
  tab : TbS g s (tabT T) tb eb vb sb w
  nv : NumM vb (fun _ => 0) 0 w
  ns : NumM sb (fun _ => 0) 0 w
  hv : W.heap.size ≤ vb
  hs : W.heap.size ≤ sb
theorem NewQ.below {g : Gram} {s : At.Sys} {T : Tree} {W : World} {tb eb vb sb : Nat} {w w' : World} (h : NewQ g s T W tb eb vb sb w) (hb : Below w.heap.size w w') : NewQ g s T W tb eb vb sb w' :=
  ⟨h.tab.below hb, h.nv.keep hb, h.ns.keep hb, h.hv, h.hs⟩
def EmpP (cb : Nat) (w : World) : Prop := SetP cb (fun _ => false) 0 w ∧ w.heap[cb]? = some (.map #[] 0)
theorem EmpP.below {cb : Nat} {w w' : World} (h : EmpP cb w) (hb : Below w.heap.size w w') : EmpP cb w' := ⟨h.1.keep hb, bx_keep h.2 hb⟩
theorem EmpP.start (w : World) {b : Nat} (hb : b = w.heap.size) : EmpP b (w.alloc (.map #[] 0)) := ⟨SetP.start w hb, bx_new _ _ _ hb⟩
theorem NewQ.fin {g : Gram} {s : At.Sys} {T : Tree} {W : World} {tb eb vb sb cb : Nat} {w w' : World} (hl : (allI g s (tabT T)).length ≤ 5000 * 2000000) (h : NewQ g s T W tb eb vb sb w) (he : EmpP cb w) (hc : W.heap.size ≤ cb) (n1 : cb ≠ eb) (n2 : cb ≠ vb) (n3 : cb ≠ sb) (hb : Below W.heap.size W w)
    (hw : w.alloc (.cells #[.pointer (some ⟨tb, 0, none⟩), .map (some cb)] 101) = w') (hz : chkD g s T = 0) : NewDPost g s T W (.returned (.tuple #[.pointer (some ⟨w.heap.size, 0, none⟩), .int .i64 0])) w' := by
  have hb2 : Below w.heap.size w w' := by rw [← hw]; exact (Below.refl _ _).alloc (Nat.le_refl _) _
  have hbx : w'.heap[w.heap.size]? = some (.cells #[.pointer (some ⟨tb, 0, none⟩), .map (some cb)] 101 (0, 0)) := by rw [← hw]; exact bx_new _ _ _ rfl
  have h2 := h.below hb2
  have he2 := he.below hb2
  have k1 : vb < w.heap.size := h.nv.lt
  have k2 : sb < w.heap.size := h.ns.lt
  have k3 : cb < w.heap.size := he.1.lt
  have k0 := hb2.size
  have hlt := (Array.getElem?_eq_some_iff.1 hbx).1
  have hcn : cnt0 (allI g s (tabT T)) ⟨fun _ => 0, fun _ => 0⟩ ≤ 5000 * 2000000 := Nat.le_trans List.countP_le_length hl
  refine ⟨_, _, rfl, hb.trans (hb2.mono hb.size), fun h => absurd hz h, fun _ => ⟨rfl, w.heap.size, tb, eb, vb, sb, cb, rfl, ?_, ?_, h.hv, h.hs, hc, hb.size⟩⟩
  · exact ⟨fun w hk => h2.tab.stable he2.2 n1 hk, n2, n3, by omega, by omega, by omega, by omega, by omega⟩
  · exact ⟨Below.keeps (Below.refl _ _), start_inv _ _ _, ⟨⟨0, h2.ns, by omega⟩, ⟨0, h2.nv, by omega⟩⟩, he2.1, CnS.start _, fun j h => (by cases h), hbx⟩
theorem wpV_two {P : Program} {md : Region.Mode} {ops : Array Oper} {Q : Exit → Act → World → Prop} {S : Array Bool → World → Prop} {i j : Nat} {o o' : Oper} {f : Nat} {listed : Array Bool} {a : Act} {w : World} (hr : Region.ready md ops listed = [i, j]) (ho : ops[i]? = some o) (ho' : ops[j]? = some o')
    (h : ∀ K : Act → World → Prop, OnV P md ops Q S f (listed.setIfInBounds i true) K → if Region.wanted o (yielded ops a.tmps) = true then Oper.wp P o a w K Q else K (a.put o.dst undef) w)
    (h' : ∀ K : Act → World → Prop, OnV P md ops Q S f (listed.setIfInBounds j true) K → if Region.wanted o' (yielded ops a.tmps) = true then Oper.wp P o' a w K Q else K (a.put o'.dst undef) w) : wpV P md ops Q S (f + 1) listed a w := by
  refine ⟨fun h0 => (by rw [hr] at h0; cases h0), fun k hk => ?_⟩
  rw [hr] at hk
  have hk : k = i ∨ k = j := by simpa using hk
  rcases hk with rfl | rfl
  · exact wpOp_step ho (fun K hK => h K (fun a w hS hW => hK a w ⟨hS, hW⟩))
  · exact wpOp_step ho' (fun K hK => h' K (fun a w hS hW => hK a w ⟨hS, hW⟩))
set_option maxHeartbeats 8000000 in
set_option maxRecDepth 100000 in
theorem newDE (g : Gram) (s : At.Sys) (T : Tree) (hok : ∀ q ∈ s.eqs, okEqK q) (hal : s.attrs.length ≤ 2000000) (hN : (nodes T).length ≤ 1099511627776) (ra aa qa ta : Option Addr) (rc ac qc tc : Nat) (W : World)
    (hr : Rd AnyB W (.sl (g.rules.map Rule.d)) [.slice ra g.rules.length rc]) (ha : Rd AnyB W (.sl (s.attrs.map At.Attr.d)) [.slice aa s.attrs.length ac]) (hq : Rd AnyB W (.sl (s.eqs.map At.Eqn.d)) [.slice qa s.eqs.length qc]) (ht : Rd AnyB W (.sl (T.kids.map Tree.d)) [.slice ta T.kids.length tc]) :
    Calls Tryz.prog 15 #[.agg #[.int .i64 g.terms, .int .i64 g.nons, .int .i64 g.start, .slice ra g.rules.length rc], .agg #[.slice aa s.attrs.length ac, .slice qa s.eqs.length qc], .agg #[.int .i64 T.rule, .int .i64 T.term, .slice ta T.kids.length tc]] W (NewDPost g s T W) := by
  obtain ⟨w0, HW0⟩ := nameIt (((W.alloc (.cells #[.int .i64 g.terms, .int .i64 g.nons, .int .i64 g.start, .slice ra g.rules.length rc] 24)).alloc (.cells #[.slice aa s.attrs.length ac, .slice qa s.eqs.length qc] 28)).alloc (.cells #[.int .i64 T.rule, .int .i64 T.term, .slice ta T.kids.length tc] 31))
  have b1 : Below W.heap.size W (W.alloc (.cells #[.int .i64 g.terms, .int .i64 g.nons, .int .i64 g.start, .slice ra g.rules.length rc] 24)) := (Below.refl _ _).alloc (Nat.le_refl _) _
  have b2 := b1.alloc (by simp) (.cells #[.slice aa s.attrs.length ac, .slice qa s.eqs.length qc] 28)
  have hb0 : Below W.heap.size W w0 := by rw [← HW0.out]; exact b2.alloc (by simp; omega) _
  have X0 : Hid (w0.heap[W.heap.size]? = some (.cells #[.int .i64 g.terms, .int .i64 g.nons, .int .i64 g.start, .slice ra g.rules.length rc] 24 (0, 0))) := by
    rw [← HW0.out]; exact bx_keep (bx_keep (bx_new _ _ _ rfl) ((Below.refl _ _).alloc (Nat.le_refl _) _)) ((Below.refl _ _).alloc (Nat.le_refl _) _)
  have X1 : Hid (w0.heap[W.heap.size + 1]? = some (.cells #[.slice aa s.attrs.length ac, .slice qa s.eqs.length qc] 28 (0, 0))) := by
    rw [← HW0.out]; exact bx_keep (bx_new _ _ _ (by simp)) ((Below.refl _ _).alloc (Nat.le_refl _) _)
  have X2 : Hid (w0.heap[W.heap.size + 1 + 1]? = some (.cells #[.int .i64 T.rule, .int .i64 T.term, .slice ta T.kids.length tc] 31 (0, 0))) := by
    rw [← HW0.out]; exact bx_new _ _ _ (by simp)
  have HB0 := Lib.hid hb0
  have CC := Lib.hid (fun (w' : World) (hb : Below W.heap.size W w') => checkDE g s T hok hN ra aa qa ta rc ac qc tc w' (hr.below hb) (ha.below hb) (hq.below hb) (ht.below hb))
  have CG : Hid (∀ (w' : World), Below W.heap.size W w' → chkD g s T = 0 → Calls Tryz.prog 36 #[.agg #[.int .i64 g.terms, .int .i64 g.nons, .int .i64 g.start, .slice ra g.rules.length rc]] w' (CopyG g w')) := fun w' hb h => by
    have hz := checkG_zero (sys_parts (chk_ok h).1).1
    exact copyG g (fun r hr => (hz.2.2 r hr).2.2.1) (by have := hz.2.1; omega) ra rc w' (hr.below hb)
  have CS : Hid (∀ (w' : World), Below W.heap.size W w' → chkD g s T = 0 → Calls Tryz.prog 37 #[.agg #[.slice aa s.attrs.length ac, .slice qa s.eqs.length qc]] w' (CopySPost s w')) := fun w' hb h => by
    have c1 := (sys_parts (chk_ok h).1).2.2.1
    exact copySysE s aa qa ac qc w' hal c1 (fun q hq => by obtain ⟨r, -, -, c2, -⟩ := eq_facts (chk_ok h).1 hq; exact c2) (ha.below hb) (hq.below hb)
  have CN : Hid (∀ (w' : World) (rb ab qb : Option Addr) (rd ad qd : Nat), Below W.heap.size W w' → chkD g s T = 0 → Rd AnyB w' (.sl (g.rules.map Rule.d)) [.slice rb g.rules.length rd] → Rd AnyB w' (.sl (s.attrs.map At.Attr.d)) [.slice ab s.attrs.length ad] → Rd AnyB w' (.sl (s.eqs.map At.Eqn.d)) [.slice qb s.eqs.length qd] → Calls Tryz.prog 26 #[.agg #[.int .i64 g.terms, .int .i64 g.nons, .int .i64 g.start, .slice rb g.rules.length rd], .agg #[.slice ab s.attrs.length ad, .slice qb s.eqs.length qd], .agg #[.int .i64 T.rule, .int .i64 T.term, .slice ta T.kids.length tc]] w' (NewPost g s T w')) := fun w' rb ab qb rd ad qd hb h h1 h2 h3 => newTableE g s T (chk_ok h).1 hal (chk_size h) rb ab qb rd ad qd _ w' h1 h2 h3 (ht.below hb)
  have HLE : Hid (chkD g s T = 0 → (allI g s (tabT T)).length ≤ 5000 * 2000000) := fun h => by
    refine Nat.le_trans (allI_leA g s (tabT T)) (Nat.mul_le_mul ?_ hal)
    rw [tab_len, tsz_nodes T (chk_ok h).2.1]
    exact (chk_ok h).2.2.2
  obtain ⟨PST, HP⟩ := nameIt (NewDPost g s T W)
  have HBAD : Hid (chkD g s T ≠ 0 → ∀ w', Below W.heap.size W w' → PST (.returned (.tuple #[.pointer none, .int .i64 (chkD g s T)])) w') := fun h w' hb => by rw [← HP.out]; exact ⟨_, _, rfl, hb, fun _ => ⟨rfl, rfl⟩, fun h2 => absurd h2 h⟩
  have HFIN : Hid (chkD g s T = 0 → ∀ tb eb vb sb cb w w', NewQ g s T W tb eb vb sb w → EmpP cb w → W.heap.size ≤ cb → cb ≠ eb → cb ≠ vb → cb ≠ sb → Below W.heap.size W w → w.alloc (.cells #[.pointer (some ⟨tb, 0, none⟩), .map (some cb)] 101) = w' → PST (.returned (.tuple #[.pointer (some ⟨w.heap.size, 0, none⟩), .int .i64 0])) w') := fun h tb eb vb sb cb w w' h1 h2 h3 h4 h5 h6 h7 h8 => by
    rw [← HP.out]
    exact NewQ.fin (HLE.out h) h1 h2 h3 h4 h5 h6 h7 h8 h
  rw [HP.out]
  clear HP
  obtain ⟨Z, HZ⟩ := nameIt (chkD g s T)
  obtain ⟨rl, HRL⟩ := nameIt g.rules.length
  obtain ⟨al, HAL⟩ := nameIt s.attrs.length
  obtain ⟨ql, HQLn⟩ := nameIt s.eqs.length
  obtain ⟨gt, HGT⟩ := nameIt g.terms
  obtain ⟨gn, HGN⟩ := nameIt g.nons
  obtain ⟨gs, HGS⟩ := nameIt g.start
  obtain ⟨tr, HTR⟩ := nameIt T.rule
  obtain ⟨tm, HTM⟩ := nameIt T.term
  obtain ⟨nk, HNK⟩ := nameIt T.kids.length
  rw [HRL.out, HAL.out, HQLn.out, HGT.out, HGN.out, HGS.out, HTR.out, HTM.out, HNK.out]
  rw [HRL.out, HAL.out, HQLn.out, HGT.out, HGN.out, HGS.out, HTR.out, HTM.out, HNK.out] at HW0
  rw [HRL.out, HGT.out, HGN.out, HGS.out] at X0
  rw [HAL.out, HQLn.out] at X1
  rw [HTR.out, HTM.out, HNK.out] at X2
  simp only [HRL.out, HAL.out, HQLn.out, HGT.out, HGN.out, HGS.out, HTR.out, HTM.out, HNK.out, HZ.out] at CC CN CG CS
  simp only [HZ.out] at HBAD HFIN
  clear b1 b2 hb0 hr ha hq ht hok hN hal
  have C0 := Lib.hid (CC.out w0 HB0.out)
  obtain ⟨x0, x1, x2, x3⟩ := bx_cells4 X0.out
  obtain ⟨y0, y1⟩ := bx_cells2 X1.out
  obtain ⟨z0, z1, z2⟩ := bx_cells3 X2.out
  go_enter Tryz.func15, Tryz.ntmps15
  go_upto_region 1 with fail
  rw [HW0.out]
  clear HW0
  go_wp2_with (refine C0.out.mono ?_)
  rintro e1 w1 ⟨rfl, hb1⟩
  have HB1 : Hid (Below W.heap.size W w1) := HB0.out.trans (hb1.mono HB0.out.size)
  have HB01 : Hid (Below w0.heap.size w0 w1) := hb1
  clear hb1 x0 x1 x2 x3 y0 y1 z0 z1 z2 C0
  by_cases hE : Z = 0
  · have hE1 : (Z != 0) = false := by simpa using hE
    have HZ0 : Hid (Z = 0) := hE
    have HX0 := Lib.hid (bx_keep X0.out HB01.out)
    have HX1 := Lib.hid (bx_keep X1.out HB01.out)
    have HX2 := Lib.hid (bx_keep X2.out HB01.out)
    clear hE
    go_upto_region 4 with fail
    obtain ⟨x0, x1, x2, x3⟩ := bx_cells4 HX0.out
    obtain ⟨y0, y1⟩ := bx_cells2 HX1.out
    obtain ⟨z0, z1, z2⟩ := bx_cells3 HX2.out
    have HCS : Hid (∀ w', Below w1.heap.size w1 w' → (w'.cell? ⟨W.heap.size, 0, none⟩ = some (.int .i64 gt) ∧ w'.cell? ⟨W.heap.size, 0 + 1, none⟩ = some (.int .i64 gn) ∧ w'.cell? ⟨W.heap.size, 0 + 2, none⟩ = some (.int .i64 gs) ∧ w'.cell? ⟨W.heap.size, 0 + 3, none⟩ = some (.slice ra rl rc)) ∧ (w'.cell? ⟨W.heap.size + 1, 0, none⟩ = some (.slice aa al ac) ∧ w'.cell? ⟨W.heap.size + 1, 0 + 1, none⟩ = some (.slice qa ql qc)) ∧ (w'.cell? ⟨W.heap.size + 1 + 1, 0, none⟩ = some (.int .i64 tr) ∧ w'.cell? ⟨W.heap.size + 1 + 1, 0 + 1, none⟩ = some (.int .i64 tm) ∧ w'.cell? ⟨W.heap.size + 1 + 1, 0 + 2, none⟩ = some (.slice ta nk tc))) := fun w' hb => ⟨⟨(hb.cell (lt_of_cell x0)).trans x0, (hb.cell (lt_of_cell x1)).trans x1, (hb.cell (lt_of_cell x2)).trans x2, (hb.cell (lt_of_cell x3)).trans x3⟩, ⟨(hb.cell (lt_of_cell y0)).trans y0, (hb.cell (lt_of_cell y1)).trans y1⟩, (hb.cell (lt_of_cell z0)).trans z0, (hb.cell (lt_of_cell z1)).trans z1, (hb.cell (lt_of_cell z2)).trans z2⟩
    have HBR : Hid (Below w1.heap.size w1 w1.drew) := (Below.refl _ _).drew
    have HBD : Hid (Below W.heap.size W w1.drew) := HB1.out.trans (HBR.out.mono HB1.out.size)
    clear x0 x1 x2 x3 y0 y1 z0 z1 z2
    refine wp_region_V (S := (fun (_ : Array Bool) (w' : World) => (w'.cell? ⟨W.heap.size, 0, none⟩ = some (.int .i64 gt) ∧ w'.cell? ⟨W.heap.size, 0 + 1, none⟩ = some (.int .i64 gn) ∧ w'.cell? ⟨W.heap.size, 0 + 2, none⟩ = some (.int .i64 gs) ∧ w'.cell? ⟨W.heap.size, 0 + 3, none⟩ = some (.slice ra rl rc)) ∧ (w'.cell? ⟨W.heap.size + 1, 0, none⟩ = some (.slice aa al ac) ∧ w'.cell? ⟨W.heap.size + 1, 0 + 1, none⟩ = some (.slice qa ql qc)) ∧ (w'.cell? ⟨W.heap.size + 1 + 1, 0, none⟩ = some (.int .i64 tr) ∧ w'.cell? ⟨W.heap.size + 1 + 1, 0 + 1, none⟩ = some (.int .i64 tm) ∧ w'.cell? ⟨W.heap.size + 1 + 1, 0 + 2, none⟩ = some (.slice ta nk tc)))) (by kernel_rfl) (fun hcl => ?_)
    refine wpV_take (i := 0) (v := .agg #[.int .i64 gt, .int .i64 gn, .int .i64 gs, .slice ra rl rc]) (T := (fun w' : World => (w'.cell? ⟨W.heap.size, 0, none⟩ = some (.int .i64 gt) ∧ w'.cell? ⟨W.heap.size, 0 + 1, none⟩ = some (.int .i64 gn) ∧ w'.cell? ⟨W.heap.size, 0 + 2, none⟩ = some (.int .i64 gs) ∧ w'.cell? ⟨W.heap.size, 0 + 3, none⟩ = some (.slice ra rl rc)) ∧ (w'.cell? ⟨W.heap.size + 1, 0, none⟩ = some (.slice aa al ac) ∧ w'.cell? ⟨W.heap.size + 1, 0 + 1, none⟩ = some (.slice qa ql qc)) ∧ (w'.cell? ⟨W.heap.size + 1 + 1, 0, none⟩ = some (.int .i64 tr) ∧ w'.cell? ⟨W.heap.size + 1 + 1, 0 + 1, none⟩ = some (.int .i64 tm) ∧ w'.cell? ⟨W.heap.size + 1 + 1, 0 + 2, none⟩ = some (.slice ta nk tc)))) rfl hcl (by kernel_rfl) (by kernel_rfl) (by kernel_rfl) (fun _ _ _ h => h) (fun l w h => h) (fun l w _ _ h => h) (Or.inl ⟨by rfl, fun w' hw' => ?_⟩) (HCS.out _ HBR.out) (fun hcl => ?_)
    · obtain ⟨⟨h0, h1, h2, h3⟩, ⟨k0, k1⟩, j0, j1, j2⟩ := hw'
      go_simp
    try simp only [Act.put, List.setIfInBounds_toArray, List.set_cons_zero, List.set_cons_succ]
    refine wpV_take (i := 2) (v := .agg #[.slice aa al ac, .slice qa ql qc]) (T := (fun w' : World => (w'.cell? ⟨W.heap.size, 0, none⟩ = some (.int .i64 gt) ∧ w'.cell? ⟨W.heap.size, 0 + 1, none⟩ = some (.int .i64 gn) ∧ w'.cell? ⟨W.heap.size, 0 + 2, none⟩ = some (.int .i64 gs) ∧ w'.cell? ⟨W.heap.size, 0 + 3, none⟩ = some (.slice ra rl rc)) ∧ (w'.cell? ⟨W.heap.size + 1, 0, none⟩ = some (.slice aa al ac) ∧ w'.cell? ⟨W.heap.size + 1, 0 + 1, none⟩ = some (.slice qa ql qc)) ∧ (w'.cell? ⟨W.heap.size + 1 + 1, 0, none⟩ = some (.int .i64 tr) ∧ w'.cell? ⟨W.heap.size + 1 + 1, 0 + 1, none⟩ = some (.int .i64 tm) ∧ w'.cell? ⟨W.heap.size + 1 + 1, 0 + 2, none⟩ = some (.slice ta nk tc)))) rfl hcl (by kernel_rfl) (by kernel_rfl) (by kernel_rfl) (fun _ _ _ h => h) (fun l w h => h) (fun l w _ _ h => h) (Or.inl ⟨by rfl, fun w' hw' => ?_⟩) (HCS.out _ HBR.out) (fun hcl => ?_)
    · obtain ⟨⟨h0, h1, h2, h3⟩, ⟨k0, k1⟩, j0, j1, j2⟩ := hw'
      go_simp
    try simp only [Act.put, List.setIfInBounds_toArray, List.set_cons_zero, List.set_cons_succ]
    refine wpV_take (i := 4) (v := .agg #[.int .i64 tr, .int .i64 tm, .slice ta nk tc]) (T := (fun w' : World => (w'.cell? ⟨W.heap.size, 0, none⟩ = some (.int .i64 gt) ∧ w'.cell? ⟨W.heap.size, 0 + 1, none⟩ = some (.int .i64 gn) ∧ w'.cell? ⟨W.heap.size, 0 + 2, none⟩ = some (.int .i64 gs) ∧ w'.cell? ⟨W.heap.size, 0 + 3, none⟩ = some (.slice ra rl rc)) ∧ (w'.cell? ⟨W.heap.size + 1, 0, none⟩ = some (.slice aa al ac) ∧ w'.cell? ⟨W.heap.size + 1, 0 + 1, none⟩ = some (.slice qa ql qc)) ∧ (w'.cell? ⟨W.heap.size + 1 + 1, 0, none⟩ = some (.int .i64 tr) ∧ w'.cell? ⟨W.heap.size + 1 + 1, 0 + 1, none⟩ = some (.int .i64 tm) ∧ w'.cell? ⟨W.heap.size + 1 + 1, 0 + 2, none⟩ = some (.slice ta nk tc)))) rfl hcl (by kernel_rfl) (by kernel_rfl) (by kernel_rfl) (fun _ _ _ h => h) (fun l w h => h) (fun l w _ _ h => h) (Or.inl ⟨by rfl, fun w' hw' => ?_⟩) (HCS.out _ HBR.out) (fun hcl => ?_)
    · obtain ⟨⟨h0, h1, h2, h3⟩, ⟨k0, k1⟩, j0, j1, j2⟩ := hw'
      go_simp
    try simp only [Act.put, List.setIfInBounds_toArray, List.set_cons_zero, List.set_cons_succ]
    clear hcl
    obtain ⟨wd, HWD⟩ := nameIt w1.drew
    rw [HWD.out] at HBR HBD
    try rw [HWD.out]
    refine wpV_two (i := 1) (j := 6) (by kernel_rfl) rfl rfl (fun K hK => ?_) (fun K hK => ?_)
    · go_simp
      try go_at_call 36
      refine (CG.out wd HBD.out HZ0.out).mono ?_
      rintro e1 w3 ⟨rb, rd, rfl, hrow, hbx⟩
      have hrg := hrow.rd.any
      rw [HRL.out] at hrg
      rw [HGT.out, HGN.out, HGS.out, HRL.out]
      have HBx : Hid (Below wd.heap.size wd w3) := hbx
      have HRG : Hid (Rd AnyB w3 (.sl (g.rules.map Rule.d)) [.slice rb rl rd]) := hrg
      clear hrow hrg hbx
      replace HBR := Lib.hid (HBR.out.trans (HBx.out.mono HBR.out.size))
      replace HBD := Lib.hid (HBD.out.trans (HBx.out.mono HBD.out.size))
      clear HBx
      refine hK.out _ _ (HCS.out _ HBR.out) ?_
      clear hK K
      try simp only [Act.put, List.setIfInBounds_toArray, List.set_cons_zero, List.set_cons_succ]
      refine wpV_two (i := 3) (j := 6) (by kernel_rfl) rfl rfl (fun K hK => ?_) (fun K hK => ?_)
      · go_simp
        try go_at_call 37
        refine (CS.out w3 HBD.out HZ0.out).mono ?_
        rintro e2 w4 ⟨ab, ad, qb, qd, rfl, hra, hrq, hbx⟩
        rw [HAL.out] at hra
        rw [HQLn.out] at hrq
        rw [HAL.out, HQLn.out]
        have HBx : Hid (Below w3.heap.size w3 w4) := hbx
        replace HRG := Lib.hid (HRG.out.below HBx.out)
        have HRA : Hid (Rd AnyB w4 (.sl (s.attrs.map At.Attr.d)) [.slice ab al ad]) := hra.any
        have HRQ : Hid (Rd AnyB w4 (.sl (s.eqs.map At.Eqn.d)) [.slice qb ql qd]) := hrq.any
        clear hra hrq hbx
        replace HBR := Lib.hid (HBR.out.trans (HBx.out.mono HBR.out.size))
        replace HBD := Lib.hid (HBD.out.trans (HBx.out.mono HBD.out.size))
        clear HBx
        refine hK.out _ _ (HCS.out _ HBR.out) ?_
        clear hK K
        try simp only [Act.put, List.setIfInBounds_toArray, List.set_cons_zero, List.set_cons_succ]
        refine wpV_two (i := 5) (j := 6) (by kernel_rfl) rfl rfl (fun K hK => ?_) (fun K hK => ?_)
        · go_simp
          try go_at_call 26
          refine (CN.out w4 rb ab qb rd ad qd HBD.out HZ0.out HRG.out HRA.out HRQ.out).mono ?_
          rintro e3 w5 ⟨tb, eb, vb, sb, rfl, hT, hv, hs, hbx, hvb, hsb, heb⟩
          have HBx : Hid (Below w4.heap.size w4 w5) := hbx
          have HNQ : Hid (NewQ g s T W tb eb vb sb w5) := ⟨hT, hv, hs, Nat.le_trans HBD.out.size hvb, Nat.le_trans HBD.out.size hsb⟩
          have HEL : Hid (eb < w5.heap.size) := by obtain ⟨D, e1, e2⟩ := hT.eqs; exact e1.lt
          replace HRG := Lib.hid (HRG.out.below HBx.out)
          replace HRA := Lib.hid (HRA.out.below HBx.out)
          replace HRQ := Lib.hid (HRQ.out.below HBx.out)
          clear hT hv hs hbx hvb hsb heb
          replace HBR := Lib.hid (HBR.out.trans (HBx.out.mono HBR.out.size))
          replace HBD := Lib.hid (HBD.out.trans (HBx.out.mono HBD.out.size))
          clear HBx
          refine hK.out _ _ (HCS.out _ HBR.out) ?_
          clear hK K
          try simp only [Act.put, List.setIfInBounds_toArray, List.set_cons_zero, List.set_cons_succ]
          refine wpV_one (i := 6) (by kernel_rfl) rfl (fun K hK => ?_)
          have hmm := fun t => @run_makeMap Tryz.prog t w5
          go_simp
          clear hmm
          obtain ⟨w6, HWm⟩ := nameIt (w5.alloc (.map #[] 0))
          have HBx : Hid (Below w5.heap.size w5 w6) := by rw [← HWm.out]; exact (Below.refl _ _).alloc (Nat.le_refl _) _
          have HNE : Hid (w5.heap.size ≠ eb ∧ w5.heap.size ≠ vb ∧ w5.heap.size ≠ sb) := by have h1 := HEL.out; have h2 := HNQ.out.nv.lt; have h3 := HNQ.out.ns.lt; refine ⟨?_, ?_, ?_⟩ <;> omega
          replace HNQ := Lib.hid (HNQ.out.below HBx.out)
          obtain ⟨cb, HCBn⟩ := nameIt w5.heap.size
          rw [HCBn.out] at HNE
          have HEM : Hid (EmpP cb w6) := by rw [← HWm.out]; exact EmpP.start _ HCBn.out.symm
          have HCW : Hid (W.heap.size ≤ cb) := by show _ ≤ _; rw [← HCBn.out]; exact HBD.out.size
          rw [HWm.out]
          try rw [HCBn.out]
          clear HWm HEL
          replace HBR := Lib.hid (HBR.out.trans (HBx.out.mono HBR.out.size))
          replace HBD := Lib.hid (HBD.out.trans (HBx.out.mono HBD.out.size))
          clear HBx
          refine hK.out _ _ (HCS.out _ HBR.out) ?_
          clear hK K
          try simp only [Act.put, List.setIfInBounds_toArray, List.set_cons_zero, List.set_cons_succ]
          refine wpV_one (i := 7) (by kernel_rfl) rfl (fun K hK => ?_)
          go_simp
          refine hK.out _ _ (HCS.out _ HBR.out) ?_
          clear hK K
          try simp only [Act.put, List.setIfInBounds_toArray, List.set_cons_zero, List.set_cons_succ]
          obtain ⟨wz, HWZ⟩ := nameIt (w6.alloc (.cells #[.pointer (some ⟨tb, 0, none⟩), .map (some cb)] 101))
          have HE := Lib.hid (HFIN.out HZ0.out tb eb vb sb cb w6 wz HNQ.out HEM.out HCW.out HNE.out.1 HNE.out.2.1 HNE.out.2.2 HBD.out HWZ.out)
          have HBz : Hid (Below w1.heap.size w1 wz) := by rw [← HWZ.out]; exact HBR.out.trans ((Below.refl _ _).alloc HBR.out.size _)
          refine wpV_one (i := 8) (by kernel_rfl) rfl (fun K hK => ?_)
          go_simp
          rw [HWZ.out]
          refine hK.out _ _ (HCS.out _ HBz.out) ?_
          clear hK K
          try simp only [Act.put, List.setIfInBounds_toArray, List.set_cons_zero, List.set_cons_succ]
          refine wpV_one (i := 9) (by kernel_rfl) rfl (fun K hK => ?_)
          go_simp
          refine hK.out _ _ (HCS.out _ HBz.out) ?_
          clear hK K
          try simp only [Act.put, List.setIfInBounds_toArray, List.set_cons_zero, List.set_cons_succ]
          refine wpV_one (i := 10) (by kernel_rfl) rfl (fun K hK => ?_)
          go_simp
          refine hK.out _ _ (HCS.out _ HBz.out) ?_
          clear hK K
          try simp only [Act.put, List.setIfInBounds_toArray, List.set_cons_zero, List.set_cons_succ]
          refine wpV_done (by kernel_rfl) ?_ _
          go_wp2_with fail
          first | exact HE.out | (refine bodyPost_ret (results_tmp2 Tryz.results15 _ _ _) rfl ?_; exact HE.out)
        · have hmm := fun t => @run_makeMap Tryz.prog t w4
          go_simp
          clear hmm
          obtain ⟨w5, HWm⟩ := nameIt (w4.alloc (.map #[] 0))
          have HBx : Hid (Below w4.heap.size w4 w5) := by rw [← HWm.out]; exact (Below.refl _ _).alloc (Nat.le_refl _) _
          replace HRG := Lib.hid (HRG.out.below HBx.out)
          replace HRA := Lib.hid (HRA.out.below HBx.out)
          replace HRQ := Lib.hid (HRQ.out.below HBx.out)
          obtain ⟨cb, HCBn⟩ := nameIt w4.heap.size
          have HEM : Hid (EmpP cb w5) := by rw [← HWm.out]; exact EmpP.start _ HCBn.out.symm
          have HCW : Hid (W.heap.size ≤ cb) := by show _ ≤ _; rw [← HCBn.out]; exact HBD.out.size
          rw [HWm.out]
          try rw [HCBn.out]
          clear HWm
          replace HBR := Lib.hid (HBR.out.trans (HBx.out.mono HBR.out.size))
          replace HBD := Lib.hid (HBD.out.trans (HBx.out.mono HBD.out.size))
          clear HBx
          refine hK.out _ _ (HCS.out _ HBR.out) ?_
          clear hK K
          try simp only [Act.put, List.setIfInBounds_toArray, List.set_cons_zero, List.set_cons_succ]
          refine wpV_one (i := 5) (by kernel_rfl) rfl (fun K hK => ?_)
          go_simp
          try go_at_call 26
          refine (CN.out w5 rb ab qb rd ad qd HBD.out HZ0.out HRG.out HRA.out HRQ.out).mono ?_
          rintro e4 w6 ⟨tb, eb, vb, sb, rfl, hT, hv, hs, hbx, hvb, hsb, heb⟩
          have HBx : Hid (Below w5.heap.size w5 w6) := hbx
          have HNQ : Hid (NewQ g s T W tb eb vb sb w6) := ⟨hT, hv, hs, Nat.le_trans HBD.out.size hvb, Nat.le_trans HBD.out.size hsb⟩
          have HNE : Hid (cb ≠ eb ∧ cb ≠ vb ∧ cb ≠ sb) := by have h := HEM.out.1.lt; refine ⟨?_, ?_, ?_⟩ <;> omega
          replace HRG := Lib.hid (HRG.out.below HBx.out)
          replace HRA := Lib.hid (HRA.out.below HBx.out)
          replace HRQ := Lib.hid (HRQ.out.below HBx.out)
          replace HEM := Lib.hid (HEM.out.below HBx.out)
          clear hT hv hs hbx hvb hsb heb
          replace HBR := Lib.hid (HBR.out.trans (HBx.out.mono HBR.out.size))
          replace HBD := Lib.hid (HBD.out.trans (HBx.out.mono HBD.out.size))
          clear HBx
          refine hK.out _ _ (HCS.out _ HBR.out) ?_
          clear hK K
          try simp only [Act.put, List.setIfInBounds_toArray, List.set_cons_zero, List.set_cons_succ]
          refine wpV_one (i := 7) (by kernel_rfl) rfl (fun K hK => ?_)
          go_simp
          refine hK.out _ _ (HCS.out _ HBR.out) ?_
          clear hK K
          try simp only [Act.put, List.setIfInBounds_toArray, List.set_cons_zero, List.set_cons_succ]
          obtain ⟨wz, HWZ⟩ := nameIt (w6.alloc (.cells #[.pointer (some ⟨tb, 0, none⟩), .map (some cb)] 101))
          have HE := Lib.hid (HFIN.out HZ0.out tb eb vb sb cb w6 wz HNQ.out HEM.out HCW.out HNE.out.1 HNE.out.2.1 HNE.out.2.2 HBD.out HWZ.out)
          have HBz : Hid (Below w1.heap.size w1 wz) := by rw [← HWZ.out]; exact HBR.out.trans ((Below.refl _ _).alloc HBR.out.size _)
          refine wpV_one (i := 8) (by kernel_rfl) rfl (fun K hK => ?_)
          go_simp
          rw [HWZ.out]
          refine hK.out _ _ (HCS.out _ HBz.out) ?_
          clear hK K
          try simp only [Act.put, List.setIfInBounds_toArray, List.set_cons_zero, List.set_cons_succ]
          refine wpV_one (i := 9) (by kernel_rfl) rfl (fun K hK => ?_)
          go_simp
          refine hK.out _ _ (HCS.out _ HBz.out) ?_
          clear hK K
          try simp only [Act.put, List.setIfInBounds_toArray, List.set_cons_zero, List.set_cons_succ]
          refine wpV_one (i := 10) (by kernel_rfl) rfl (fun K hK => ?_)
          go_simp
          refine hK.out _ _ (HCS.out _ HBz.out) ?_
          clear hK K
          try simp only [Act.put, List.setIfInBounds_toArray, List.set_cons_zero, List.set_cons_succ]
          refine wpV_done (by kernel_rfl) ?_ _
          go_wp2_with fail
          first | exact HE.out | (refine bodyPost_ret (results_tmp2 Tryz.results15 _ _ _) rfl ?_; exact HE.out)
      · have hmm := fun t => @run_makeMap Tryz.prog t w3
        go_simp
        clear hmm
        obtain ⟨w4, HWm⟩ := nameIt (w3.alloc (.map #[] 0))
        have HBx : Hid (Below w3.heap.size w3 w4) := by rw [← HWm.out]; exact (Below.refl _ _).alloc (Nat.le_refl _) _
        replace HRG := Lib.hid (HRG.out.below HBx.out)
        obtain ⟨cb, HCBn⟩ := nameIt w3.heap.size
        have HEM : Hid (EmpP cb w4) := by rw [← HWm.out]; exact EmpP.start _ HCBn.out.symm
        have HCW : Hid (W.heap.size ≤ cb) := by show _ ≤ _; rw [← HCBn.out]; exact HBD.out.size
        rw [HWm.out]
        try rw [HCBn.out]
        clear HWm
        replace HBR := Lib.hid (HBR.out.trans (HBx.out.mono HBR.out.size))
        replace HBD := Lib.hid (HBD.out.trans (HBx.out.mono HBD.out.size))
        clear HBx
        refine hK.out _ _ (HCS.out _ HBR.out) ?_
        clear hK K
        try simp only [Act.put, List.setIfInBounds_toArray, List.set_cons_zero, List.set_cons_succ]
        refine wpV_one (i := 3) (by kernel_rfl) rfl (fun K hK => ?_)
        go_simp
        try go_at_call 37
        refine (CS.out w4 HBD.out HZ0.out).mono ?_
        rintro e3 w5 ⟨ab, ad, qb, qd, rfl, hra, hrq, hbx⟩
        rw [HAL.out] at hra
        rw [HQLn.out] at hrq
        rw [HAL.out, HQLn.out]
        have HBx : Hid (Below w4.heap.size w4 w5) := hbx
        replace HRG := Lib.hid (HRG.out.below HBx.out)
        replace HEM := Lib.hid (HEM.out.below HBx.out)
        have HRA : Hid (Rd AnyB w5 (.sl (s.attrs.map At.Attr.d)) [.slice ab al ad]) := hra.any
        have HRQ : Hid (Rd AnyB w5 (.sl (s.eqs.map At.Eqn.d)) [.slice qb ql qd]) := hrq.any
        clear hra hrq hbx
        replace HBR := Lib.hid (HBR.out.trans (HBx.out.mono HBR.out.size))
        replace HBD := Lib.hid (HBD.out.trans (HBx.out.mono HBD.out.size))
        clear HBx
        refine hK.out _ _ (HCS.out _ HBR.out) ?_
        clear hK K
        try simp only [Act.put, List.setIfInBounds_toArray, List.set_cons_zero, List.set_cons_succ]
        refine wpV_one (i := 5) (by kernel_rfl) rfl (fun K hK => ?_)
        go_simp
        try go_at_call 26
        refine (CN.out w5 rb ab qb rd ad qd HBD.out HZ0.out HRG.out HRA.out HRQ.out).mono ?_
        rintro e4 w6 ⟨tb, eb, vb, sb, rfl, hT, hv, hs, hbx, hvb, hsb, heb⟩
        have HBx : Hid (Below w5.heap.size w5 w6) := hbx
        have HNQ : Hid (NewQ g s T W tb eb vb sb w6) := ⟨hT, hv, hs, Nat.le_trans HBD.out.size hvb, Nat.le_trans HBD.out.size hsb⟩
        have HNE : Hid (cb ≠ eb ∧ cb ≠ vb ∧ cb ≠ sb) := by have h := HEM.out.1.lt; refine ⟨?_, ?_, ?_⟩ <;> omega
        replace HRG := Lib.hid (HRG.out.below HBx.out)
        replace HRA := Lib.hid (HRA.out.below HBx.out)
        replace HRQ := Lib.hid (HRQ.out.below HBx.out)
        replace HEM := Lib.hid (HEM.out.below HBx.out)
        clear hT hv hs hbx hvb hsb heb
        replace HBR := Lib.hid (HBR.out.trans (HBx.out.mono HBR.out.size))
        replace HBD := Lib.hid (HBD.out.trans (HBx.out.mono HBD.out.size))
        clear HBx
        refine hK.out _ _ (HCS.out _ HBR.out) ?_
        clear hK K
        try simp only [Act.put, List.setIfInBounds_toArray, List.set_cons_zero, List.set_cons_succ]
        refine wpV_one (i := 7) (by kernel_rfl) rfl (fun K hK => ?_)
        go_simp
        refine hK.out _ _ (HCS.out _ HBR.out) ?_
        clear hK K
        try simp only [Act.put, List.setIfInBounds_toArray, List.set_cons_zero, List.set_cons_succ]
        obtain ⟨wz, HWZ⟩ := nameIt (w6.alloc (.cells #[.pointer (some ⟨tb, 0, none⟩), .map (some cb)] 101))
        have HE := Lib.hid (HFIN.out HZ0.out tb eb vb sb cb w6 wz HNQ.out HEM.out HCW.out HNE.out.1 HNE.out.2.1 HNE.out.2.2 HBD.out HWZ.out)
        have HBz : Hid (Below w1.heap.size w1 wz) := by rw [← HWZ.out]; exact HBR.out.trans ((Below.refl _ _).alloc HBR.out.size _)
        refine wpV_one (i := 8) (by kernel_rfl) rfl (fun K hK => ?_)
        go_simp
        rw [HWZ.out]
        refine hK.out _ _ (HCS.out _ HBz.out) ?_
        clear hK K
        try simp only [Act.put, List.setIfInBounds_toArray, List.set_cons_zero, List.set_cons_succ]
        refine wpV_one (i := 9) (by kernel_rfl) rfl (fun K hK => ?_)
        go_simp
        refine hK.out _ _ (HCS.out _ HBz.out) ?_
        clear hK K
        try simp only [Act.put, List.setIfInBounds_toArray, List.set_cons_zero, List.set_cons_succ]
        refine wpV_one (i := 10) (by kernel_rfl) rfl (fun K hK => ?_)
        go_simp
        refine hK.out _ _ (HCS.out _ HBz.out) ?_
        clear hK K
        try simp only [Act.put, List.setIfInBounds_toArray, List.set_cons_zero, List.set_cons_succ]
        refine wpV_done (by kernel_rfl) ?_ _
        go_wp2_with fail
        first | exact HE.out | (refine bodyPost_ret (results_tmp2 Tryz.results15 _ _ _) rfl ?_; exact HE.out)
    · have hmm := fun t => @run_makeMap Tryz.prog t wd
      go_simp
      clear hmm
      obtain ⟨w3, HWm⟩ := nameIt (wd.alloc (.map #[] 0))
      have HBx : Hid (Below wd.heap.size wd w3) := by rw [← HWm.out]; exact (Below.refl _ _).alloc (Nat.le_refl _) _
      obtain ⟨cb, HCBn⟩ := nameIt wd.heap.size
      have HEM : Hid (EmpP cb w3) := by rw [← HWm.out]; exact EmpP.start _ HCBn.out.symm
      have HCW : Hid (W.heap.size ≤ cb) := by show _ ≤ _; rw [← HCBn.out]; exact HBD.out.size
      rw [HWm.out]
      try rw [HCBn.out]
      clear HWm
      replace HBR := Lib.hid (HBR.out.trans (HBx.out.mono HBR.out.size))
      replace HBD := Lib.hid (HBD.out.trans (HBx.out.mono HBD.out.size))
      clear HBx
      refine hK.out _ _ (HCS.out _ HBR.out) ?_
      clear hK K
      try simp only [Act.put, List.setIfInBounds_toArray, List.set_cons_zero, List.set_cons_succ]
      refine wpV_one (i := 1) (by kernel_rfl) rfl (fun K hK => ?_)
      go_simp
      try go_at_call 36
      refine (CG.out w3 HBD.out HZ0.out).mono ?_
      rintro e2 w4 ⟨rb, rd, rfl, hrow, hbx⟩
      have hrg := hrow.rd.any
      rw [HRL.out] at hrg
      rw [HGT.out, HGN.out, HGS.out, HRL.out]
      have HBx : Hid (Below w3.heap.size w3 w4) := hbx
      replace HEM := Lib.hid (HEM.out.below HBx.out)
      have HRG : Hid (Rd AnyB w4 (.sl (g.rules.map Rule.d)) [.slice rb rl rd]) := hrg
      clear hrow hrg hbx
      replace HBR := Lib.hid (HBR.out.trans (HBx.out.mono HBR.out.size))
      replace HBD := Lib.hid (HBD.out.trans (HBx.out.mono HBD.out.size))
      clear HBx
      refine hK.out _ _ (HCS.out _ HBR.out) ?_
      clear hK K
      try simp only [Act.put, List.setIfInBounds_toArray, List.set_cons_zero, List.set_cons_succ]
      refine wpV_one (i := 3) (by kernel_rfl) rfl (fun K hK => ?_)
      go_simp
      try go_at_call 37
      refine (CS.out w4 HBD.out HZ0.out).mono ?_
      rintro e3 w5 ⟨ab, ad, qb, qd, rfl, hra, hrq, hbx⟩
      rw [HAL.out] at hra
      rw [HQLn.out] at hrq
      rw [HAL.out, HQLn.out]
      have HBx : Hid (Below w4.heap.size w4 w5) := hbx
      replace HRG := Lib.hid (HRG.out.below HBx.out)
      replace HEM := Lib.hid (HEM.out.below HBx.out)
      have HRA : Hid (Rd AnyB w5 (.sl (s.attrs.map At.Attr.d)) [.slice ab al ad]) := hra.any
      have HRQ : Hid (Rd AnyB w5 (.sl (s.eqs.map At.Eqn.d)) [.slice qb ql qd]) := hrq.any
      clear hra hrq hbx
      replace HBR := Lib.hid (HBR.out.trans (HBx.out.mono HBR.out.size))
      replace HBD := Lib.hid (HBD.out.trans (HBx.out.mono HBD.out.size))
      clear HBx
      refine hK.out _ _ (HCS.out _ HBR.out) ?_
      clear hK K
      try simp only [Act.put, List.setIfInBounds_toArray, List.set_cons_zero, List.set_cons_succ]
      refine wpV_one (i := 5) (by kernel_rfl) rfl (fun K hK => ?_)
      go_simp
      try go_at_call 26
      refine (CN.out w5 rb ab qb rd ad qd HBD.out HZ0.out HRG.out HRA.out HRQ.out).mono ?_
      rintro e4 w6 ⟨tb, eb, vb, sb, rfl, hT, hv, hs, hbx, hvb, hsb, heb⟩
      have HBx : Hid (Below w5.heap.size w5 w6) := hbx
      have HNQ : Hid (NewQ g s T W tb eb vb sb w6) := ⟨hT, hv, hs, Nat.le_trans HBD.out.size hvb, Nat.le_trans HBD.out.size hsb⟩
      have HNE : Hid (cb ≠ eb ∧ cb ≠ vb ∧ cb ≠ sb) := by have h := HEM.out.1.lt; refine ⟨?_, ?_, ?_⟩ <;> omega
      replace HRG := Lib.hid (HRG.out.below HBx.out)
      replace HRA := Lib.hid (HRA.out.below HBx.out)
      replace HRQ := Lib.hid (HRQ.out.below HBx.out)
      replace HEM := Lib.hid (HEM.out.below HBx.out)
      clear hT hv hs hbx hvb hsb heb
      replace HBR := Lib.hid (HBR.out.trans (HBx.out.mono HBR.out.size))
      replace HBD := Lib.hid (HBD.out.trans (HBx.out.mono HBD.out.size))
      clear HBx
      refine hK.out _ _ (HCS.out _ HBR.out) ?_
      clear hK K
      try simp only [Act.put, List.setIfInBounds_toArray, List.set_cons_zero, List.set_cons_succ]
      refine wpV_one (i := 7) (by kernel_rfl) rfl (fun K hK => ?_)
      go_simp
      refine hK.out _ _ (HCS.out _ HBR.out) ?_
      clear hK K
      try simp only [Act.put, List.setIfInBounds_toArray, List.set_cons_zero, List.set_cons_succ]
      obtain ⟨wz, HWZ⟩ := nameIt (w6.alloc (.cells #[.pointer (some ⟨tb, 0, none⟩), .map (some cb)] 101))
      have HE := Lib.hid (HFIN.out HZ0.out tb eb vb sb cb w6 wz HNQ.out HEM.out HCW.out HNE.out.1 HNE.out.2.1 HNE.out.2.2 HBD.out HWZ.out)
      have HBz : Hid (Below w1.heap.size w1 wz) := by rw [← HWZ.out]; exact HBR.out.trans ((Below.refl _ _).alloc HBR.out.size _)
      refine wpV_one (i := 8) (by kernel_rfl) rfl (fun K hK => ?_)
      go_simp
      rw [HWZ.out]
      refine hK.out _ _ (HCS.out _ HBz.out) ?_
      clear hK K
      try simp only [Act.put, List.setIfInBounds_toArray, List.set_cons_zero, List.set_cons_succ]
      refine wpV_one (i := 9) (by kernel_rfl) rfl (fun K hK => ?_)
      go_simp
      refine hK.out _ _ (HCS.out _ HBz.out) ?_
      clear hK K
      try simp only [Act.put, List.setIfInBounds_toArray, List.set_cons_zero, List.set_cons_succ]
      refine wpV_one (i := 10) (by kernel_rfl) rfl (fun K hK => ?_)
      go_simp
      refine hK.out _ _ (HCS.out _ HBz.out) ?_
      clear hK K
      try simp only [Act.put, List.setIfInBounds_toArray, List.set_cons_zero, List.set_cons_succ]
      refine wpV_done (by kernel_rfl) ?_ _
      go_wp2_with fail
      first | exact HE.out | (refine bodyPost_ret (results_tmp2 Tryz.results15 _ _ _) rfl ?_; exact HE.out)
  · have hE1 : (Z != 0) = true := by simpa using hE
    have HE := Lib.hid (HBAD.out hE w1 HB1.out)
    clear hE
    go_wp2_with fail
    first | exact HE.out | (refine bodyPost_ret (results_tmp2 Tryz.results15 _ _ _) rfl ?_; exact HE.out)
end Dm
end Go.Proofs.YtfocooehnmpndaaGreat
namespace Go.Proofs.YtfocooehnmpndaaGreat
open Go.RowKit
def ownsQ (w : World) (B : Nat) (e : TypeId) (size : Nat) (v : Value) (n : Nat) (xs : List Value) : Prop :=
  xs.length = n * size ∧
  ((v = .slice none 0 0 ∧ n = 0) ∨
   ∃ g off cap cur, v = .slice (some ⟨g, off, none⟩) n cap ∧ B ≤ g ∧ w.heap[g]? = some (.cells cur e (0, 0)) ∧ n ≤ cap ∧ cap ≤ maxLen ∧ off + cap * size ≤ cur.size ∧ (cur.toList.drop off).take (n * size) = xs)
theorem ownsQ_of {w : World} {B : Nat} {e : TypeId} {size : Nat} {v : Value} {n : Nat} {xs : List Value} (h : w.ownsRow B e size v n xs) : ownsQ w B e size v n xs := by
  obtain ⟨h1, h2⟩ := h
  refine ⟨h1, ?_⟩
  rcases h2 with h2 | ⟨g, cap, cur, rfl, a, b, c, d, f, t⟩
  · exact .inl h2
  · exact .inr ⟨g, 0, cap, cur, rfl, a, b, c, d, by omega, by simpa using t⟩
section
variable {w w' : World} {B : Nat} {e : TypeId} {size : Nat} {v : Value} {n : Nat} {xs : List Value}
theorem ownsQ.lt (h : ownsQ w B e size v n xs) : ∀ k, v.ownBlock = some k → B ≤ k ∧ k < w.heap.size := by
  intro k hk
  rcases h.2 with ⟨rfl, _⟩ | ⟨g, off, cap, cur, rfl, a, b, _⟩
  · cases hk
  · cases hk; exact ⟨a, (Array.getElem?_eq_some_iff.1 b).1⟩
theorem ownsQ.other {row : Option Nat} (h : ownsQ w B e size v n xs) (hg : w.grownBy w' row) (hne : ∀ k, v.ownBlock = some k → row ≠ some k) : ownsQ w' B e size v n xs := by
  have hlt := h.lt
  obtain ⟨h1, h2⟩ := h
  refine ⟨h1, ?_⟩
  rcases h2 with h2 | ⟨g, off, cap, cur, rfl, a, b, r⟩
  · exact .inl h2
  · exact .inr ⟨g, off, cap, cur, rfl, a, (hg.block g (hlt g rfl).2 (fun e => hne g rfl e.symm)).trans b, r⟩
theorem ownsQ.keep (h : ownsQ w B e size v n xs) (hb : Below w.heap.size w w') : ownsQ w' B e size v n xs := h.other (grown_below hb none) (fun k _ e => by cases e)
theorem ownsQ.form (h : ownsQ w B e size v n xs) : ∃ a cap, v = .slice a n cap ∧ n ≤ cap ∧ cap ≤ maxLen := by
  rcases h.2 with ⟨rfl, rfl⟩ | ⟨g, off, cap, cur, rfl, _, _, h1, h2, _⟩
  · exact ⟨_, _, rfl, by simp, by simp⟩
  · exact ⟨_, _, rfl, h1, h2⟩
theorem ownsQ.cells (h : ownsQ w B e size v n xs) (hn : 0 < n) : ∃ g off cap, v = .slice (some ⟨g, off, none⟩) n cap ∧ ∀ j u, xs[j]? = some u → w.cell? ⟨g, off + j, none⟩ = some u := by
  rcases h.2 with ⟨_, h0⟩ | ⟨g, off, cap, cur, rfl, _, hh, h1, h2, h3, ht⟩
  · omega
  · refine ⟨g, off, cap, rfl, fun j u hj => ?_⟩
    have hl := h.1
    have hj2 := (List.getElem?_eq_some_iff.1 hj).1
    rw [← ht, List.getElem?_take, if_pos (by omega), List.getElem?_drop] at hj
    simp [World.cell?, hh]
    simpa using hj
theorem ownsQ.tail {g off cap : Nat} {ys : List Value} (h : ownsQ w B e size (.slice (some ⟨g, off, none⟩) (n + 1) cap) (n + 1) (ys ++ xs)) (hy : ys.length = size) (hs : 0 < size) : ownsQ w B e size (.slice (if cap = 1 then some ⟨g, off, none⟩ else some ⟨g, off + size, none⟩) n (cap - 1)) n xs := by
  obtain ⟨h1, h2⟩ := h
  rw [List.length_append, Nat.add_mul, hy] at h1
  refine ⟨by omega, ?_⟩
  rcases h2 with ⟨h2, _⟩ | ⟨g', off', cap', cur, hv, a, b, c, d, f, t⟩
  · cases h2
  · cases hv
    right
    by_cases e1 : cap = 1
    · subst e1
      obtain rfl : n = 0 := by omega
      have hx : xs = [] := List.eq_nil_of_length_eq_zero (by omega)
      refine ⟨g, off, 0, cur, by simp, a, b, by omega, by unfold maxLen; omega, by omega, by simp [hx]⟩
    · refine ⟨g, off + size, cap - 1, cur, by simp [e1], a, b, by omega, by omega, ?_, ?_⟩
      · have : cap * size = size + (cap - 1) * size := by
          obtain ⟨c', rfl⟩ : ∃ c', cap = c' + 1 := ⟨cap - 1, by omega⟩
          simp [Nat.add_mul]; omega
        omega
      · have h3 : (cur.toList.drop off).take (n * size + size) = ys ++ xs := by rw [← t]; congr 1; simp [Nat.add_mul]
        have h4 := congrArg (List.drop size) h3
        have h5 : List.drop size (ys ++ xs) = xs := by rw [← hy]; simp
        rw [List.drop_take, List.drop_drop, h5, Nat.add_sub_cancel] at h4
        exact h4
end
theorem run_append_roomQ {P : Program} (w : World) (t ty e : TypeId) (i : TypeInfo) (ht : P.underlying t = some (.slice e)) (hi : P.info? e = some i)
    (g off sLen sCap : Nat) (cur : Array Value) (hg : w.heap[g]? = some (.cells cur e (0, 0)))
    (a : Addr) (m c : Nat) (news : List Value) (hl : news.length = m * i.size) (hnews : ∀ j u, news[j]? = some u → w.cell? (a.add j) = some u) (h1 : ∀ u ∈ news, u.oneCell' = true)
    (hroom : sLen + m ≤ sCap) (hfit : off + sLen * i.size + news.length ≤ cur.size) :
    (Builtin.append_ #[t, t] ty #[.slice (some ⟨g, off, none⟩) sLen sCap, .slice (some a) m c]).run P w =
      .ok (.slice (some ⟨g, off, none⟩) (sLen + m) sCap) (w.setRow g (cur.toList.take (off + sLen * i.size) ++ news ++ cur.toList.drop (off + sLen * i.size + news.length)).toArray) := by
  have hf := run_firstCells_some (P := P) w i.size m a m c news hl hnews
  have hst := run_storeCells_at P g (off + sLen * i.size) e news 0 cur w hg (by simpa using hfit) h1
  simp only [Nat.add_zero] at hst
  simp [Builtin.append_, run_underlying ht, sizeOf, typeInfo, hi, Builtin.lenOf, hroom, hf, add_at, hst]
theorem run_append_q {P : Program} (w : World) (B : Nat) (t ty e : TypeId) (i : TypeInfo) (z : Value) (size bytes : Nat) (ht : P.underlying t = some (.slice e)) (hi : P.info? e = some i) (hz : i.zero = some z)
    (hsize : i.size = size) (hby : i.bytes = bytes) (hzs : z.cells.size = size) (hsz : 0 < size)
    (v : Value) (n : Nat) (xs : List Value) (hown : ownsQ w B e size v n xs)
    (a : Addr) (m c : Nat) (news : List Value) (hl : news.length = m * size) (hnews : ∀ j u, news[j]? = some u → w.cell? (a.add j) = some u) (h1 : ∀ u ∈ news, u.oneCell' = true) (hm : 0 < m)
    (h63 : n + m ≤ maxLen) (hbytes : (n + m) * bytes ≤ 140737488355328) (hbase : B ≤ w.heap.size) :
    ∃ g off cap w', (Builtin.append_ #[t, t] ty #[v, .slice (some a) m c]).run P w = .ok (.slice (some ⟨g, off, none⟩) (n + m) cap) w' ∧ ownsQ w' B e size (.slice (some ⟨g, off, none⟩) (n + m) cap) (n + m) (xs ++ news) ∧ w.grownBy w' v.ownBlock ∧ ((∃ cap0, v = .slice (some ⟨g, off, none⟩) n cap0) ∨ (g = w.heap.size ∧ w.grownBy w' none)) ∧ g < w'.heap.size := by
  subst hsize
  subst hby
  have hsmall : n + m ≤ 9223372036854775807 := by simp only [maxLen] at h63; omega
  have hlen : (xs ++ news).length = (n + m) * i.size := by rw [List.length_append, hown.1, hl, Nat.add_mul]
  have grown : ∀ (old : Nat), old < n + m → ∀ (row : Option Nat),
      ownsQ (w.drew.alloc (.cells (xs.toArray ++ news.toArray ++ Builtin.zeroCells z.cells (grownCap w (n + m) old e - (n + m))) e)) B e i.size
        (.slice (some ⟨w.heap.size, 0, none⟩) (n + m) (grownCap w (n + m) old e)) (n + m) (xs ++ news) ∧
      w.grownBy (w.drew.alloc (.cells (xs.toArray ++ news.toArray ++ Builtin.zeroCells z.cells (grownCap w (n + m) old e - (n + m))) e)) row := by
    intro old ho row
    have hge := grownCap_ge w (n + m) old e
    have hcm : grownCap w (n + m) old e ≤ maxLen := grownCap_le_maxLen w (n + m) old e h63
    refine ⟨ownsQ_of ⟨hlen, .inr ⟨w.heap.size, _, _, rfl, hbase, heap_alloc_new w.drew _, hge, hcm, ?_, ?_⟩⟩, ⟨rfl, rfl, rfl, by simp, fun k hk _ => ((Below.refl w.drew.heap.size w.drew).alloc (Nat.le_refl _) _).block k hk⟩⟩
    · simp only [Array.size_append, List.size_toArray, size_zeroCells, hzs, hown.1, hl, ← Nat.add_mul]
      congr 1
      omega
    · simp only [Array.toList_append, List.append_assoc]
      rw [← List.append_assoc, ← hlen]
      exact List.take_left
  rcases hown.2 with ⟨rfl, rfl⟩ | ⟨g, off, cap, cur, rfl, hbg, hg, hnc, hcm, hcs, htake⟩
  · have hx : xs = [] := List.eq_nil_of_length_eq_zero (by simpa using hown.1)
    subst hx
    have hr := run_append_nil (P := P) w t ty e i z ht hi hz a m c news hl hnews (by omega) (by omega) (by have hb := hbytes; simp only [Nat.zero_add] at hb; omega)
    have hgr := grown 0 (by omega) (Value.ownBlock (.slice none 0 0))
    have hgn := grown 0 (by omega) none
    simp only [Nat.zero_add, List.nil_append, Array.empty_append] at hgr hgn ⊢
    exact ⟨_, _, _, _, hr, hgr.1, hgr.2, .inr ⟨rfl, hgn.2⟩, by simp⟩
  · by_cases hroom : n + m ≤ cap
    · have hfit : off + n * i.size + news.length ≤ cur.size := by
        have h2 := Nat.mul_le_mul_right i.size hroom
        rw [Nat.add_mul] at h2
        omega
      have hr := run_append_roomQ (P := P) w t ty e i ht hi g off n cap cur hg a m c news hl hnews h1 hroom hfit
      refine ⟨_, _, _, _, hr, ⟨hlen, .inr ⟨g, off, cap, _, rfl, hbg, setRow_heap w g cur _ e _ hg, hroom, hcm, ?_, ?_⟩⟩, ⟨rfl, rfl, rfl, by simp, fun k _ hk => setRow_other w g k _ (fun e => hk (by simp [Value.ownBlock, e]))⟩, .inl ⟨cap, rfl⟩, by simpa using (Array.getElem?_eq_some_iff.1 hg).1⟩
      · simp only [List.size_toArray, List.length_append, List.length_take, List.length_drop, Array.length_toList]
        omega
      · have h3 : cur.toList.take (off + n * i.size) = cur.toList.take off ++ xs := by rw [List.take_add, htake]
        have h4 : (cur.toList.take off).length = off := by simp; omega
        simp only [h3, List.append_assoc]
        rw [List.drop_append_of_le_length (by omega), List.drop_eq_nil_of_le (by omega), List.nil_append, ← List.append_assoc, ← hlen]
        exact List.take_left
    · have holds : ∀ j u, xs[j]? = some u → w.cell? ((⟨g, off, none⟩ : Addr).add j) = some u := by
        intro j u hj
        rw [add_at]
        have hj2 := (List.getElem?_eq_some_iff.1 hj).1
        have hl' := hown.1
        rw [← htake, List.getElem?_take, if_pos (by omega), List.getElem?_drop] at hj
        simp [World.cell?, hg]
        simpa using hj
      have hr := run_append_grow (P := P) w t ty e i z ht hi hz ⟨g, off, none⟩ n cap xs hown.1 holds a m c news hl hnews (by omega) (by omega) (growslice_fits (by omega) hbytes)
      have hgr := grown cap (by omega) (Value.ownBlock (.slice (some ⟨g, off, none⟩) n cap))
      have hgn := grown cap (by omega) none
      exact ⟨_, _, _, _, hr, hgr.1, hgr.2, .inr ⟨rfl, hgn.2⟩, by simp⟩
end Go.Proofs.YtfocooehnmpndaaGreat
namespace Go.Proofs.YtfocooehnmpndaaGreat
open Go.RowKit
theorem appQ_all {P : Program} {w : World} {t ty e : TypeId} {size bytes : Nat} (E : ElemT P t e size bytes) {B B2 : Nat} {v v2 : Value} {n m : Nat} {xs ys : List Value} (h : ownsQ w B e size v n xs) (h2 : w.ownsRow B2 e size v2 m ys) (h1 : ∀ u ∈ ys, u.oneCell' = true)
    (h63 : n + m ≤ maxLen) (hbytes : (n + m) * bytes ≤ 140737488355328) (hB : B ≤ w.heap.size) :
    ∃ v' w', (Builtin.append_ #[t, t] ty #[v, v2]).run P w = .ok v' w' ∧ ownsQ w' B e size v' (n + m) (xs ++ ys) ∧ w.grownBy w' v.ownBlock := by
  obtain ⟨hu, ⟨i, z, hi, hz, hsz, hby, hzs⟩, hp⟩ := E
  rcases Nat.eq_zero_or_pos m with rfl | hm
  · have hy : ys = [] := List.eq_nil_of_length_eq_zero (by simpa using h2.1)
    subst hy
    obtain ⟨a, cap, rfl, hc1, hc2⟩ := h.form
    have hs : Src P i.size t v2 0 [] w := by
      rcases h2.2 with ⟨rfl, _⟩ | ⟨g, cap2, cur, rfl, _⟩
      · exact Src.ofNil w hu 0
      · exact Src.ofSlice w hu ⟨g, 0, none⟩ 0 cap2 [] (by simp) (fun j u hj => by simp at hj) (fun u hu => by cases hu)
    refine ⟨_, w, run_append_nothing w t t ty e i hu hi a n cap hc1 v2 hs, ?_, ⟨rfl, rfl, rfl, Nat.le_refl _, fun k _ _ => rfl⟩⟩
    simpa using h
  · rcases h2.2 with ⟨_, h0⟩ | ⟨g, cap2, cur, rfl, _⟩
    · omega
    · obtain ⟨g', off, cap, w', hr, k2, k3, -, -⟩ := run_append_q (P := P) w B t ty e i z size bytes hu hi hz hsz hby hzs hp v n xs h ⟨g, 0, none⟩ m cap2 ys h2.1 (h2.cells rfl) h1 hm h63 hbytes hB
      exact ⟨_, w', hr, k2, k3⟩
theorem wp_appQA {P : Program} {ops : Array Oper} {rest : List Oper} {o : Oper} {a : Act} {Q : Exit → Act → World → Prop} {w : World} {t e : TypeId} {size bytes : Nat} (E : ElemT P t e size bytes)
    (hgd : o.guard = none) (s x : Operand) (ho : o.op = .call { callee := .builtin .append, args := #[s, x], argTypes := #[t, t] })
    {B B2 : Nat} {v v2 : Value} {n m : Nat} {xs ys : List Value} (h : ownsQ w B e size v n xs) (hs : a.eval s = v) (h2 : w.ownsRow B2 e size v2 m ys) (hx : a.eval x = v2)
    (h1 : ∀ u ∈ ys, u.oneCell' = true) (h63 : n + m ≤ maxLen) (hbytes : (n + m) * bytes ≤ 140737488355328) (hB : B ≤ w.heap.size)
    (hk : ∀ v' w', ownsQ w' B e size v' (n + m) (xs ++ ys) → w.grownBy w' v.ownBlock → wpList P ops Q rest (a.put o.dst v') w') :
    wpList P ops Q (o :: rest) a w := by
  obtain ⟨v', w', hr, k1, k2⟩ := appQ_all (ty := o.type) E h h2 h1 h63 hbytes hB
  exact Go.Lib.wpList_append_run w hgd s x t t ho v v2 hs hx v' w' hr (hk v' w' k1 k2)
namespace Dm
open At (Ref refsS)
theorem plC_app (l m : List Inst) : plC (l ++ m) = plC l ++ plC m := by simp [plC]
theorem plC_one (l : List Inst) : ∀ u ∈ plC l, u.oneCell' = true := by
  intro u hu
  obtain ⟨i, _, h⟩ := List.mem_flatMap.1 hu
  simp at h
  rcases h with rfl | rfl <;> rfl
theorem Rs.snoc {s : At.Sys} {L : List Nd} {i j k : Inst} (h : Rs s L i j) (hk : k ∈ needsI s L j) : Rs s L i k := by
  rcases h with rfl | h
  · exact .inr (.one hk)
  · exact .inr (.more h hk)
def BelPost (g : Gram) (s : At.Sys) (L : List Nd) (x : Inst) (W : World) (e : Ending) (w' : World) : Prop :=
  ∃ ob C c, e = .returned (.map (some ob)) ∧ SetN ob C c w' ∧ CnS (allI g s L) C c ∧ (∀ j, C j = true ↔ Rs s L x j) ∧ Below W.heap.size W w' ∧ W.heap.size ≤ ob
structure BlI (g : Gram) (s : At.Sys) (L : List Nd) (x : Inst) (ob B : Nat) (W : World) (C : Inst → Bool) (c : Nat) (l : List Inst) (v : Value) (w : World) : Prop where
  que : ownsQ w B 59 2 v l.length (plC l)
  set : SetN ob C c w
  cn : CnS (allI g s L) C c
  inl : ∀ j ∈ l, j ∈ allI g s L ∧ Rs s L x j
  sub : ∀ j, C j = true → Rs s L x j
  cl : ∀ j, C j = true → ∀ k ∈ needsI s L j, C k = true ∨ k ∈ l
  has : C x = true ∨ x ∈ l
  bel : Below W.heap.size W w
  oB : ob < B
  le : B ≤ w.heap.size
  wo : W.heap.size ≤ ob
section
variable {g : Gram} {s : At.Sys} {L : List Nd} {x : Inst} {ob B : Nat} {W w w' : World} {C : Inst → Bool} {c : Nat} {l : List Inst} {v v' : Value}
theorem BlI.below (h : BlI g s L x ob B W C c l v w) (hb : Below w.heap.size w w') : BlI g s L x ob B W C c l v w' :=
  ⟨h.que.keep hb, h.set.keep hb, h.cn, h.inl, h.sub, h.cl, h.has, h.bel.trans (hb.mono h.bel.size), h.oB, Nat.le_trans h.le hb.size, h.wo⟩
theorem BlI.pop {y : Inst} (h : BlI g s L x ob B W C c (y :: l) v w) (hy : C y = true) (hq : ownsQ w B 59 2 v' l.length (plC l)) : BlI g s L x ob B W C c l v' w :=
  ⟨hq, h.set, h.cn, fun j hj => h.inl j (List.mem_cons_of_mem _ hj), h.sub, fun j hj k hk => by
    rcases h.cl j hj k hk with h1 | h1
    · exact .inl h1
    · rcases List.mem_cons.1 h1 with rfl | h2
      · exact .inl hy
      · exact .inr h2, by
    rcases h.has with h1 | h1
    · exact .inl h1
    · rcases List.mem_cons.1 h1 with rfl | h2
      · exact .inl hy
      · exact .inr h2, h.bel, h.oB, h.le, h.wo⟩
theorem putC_self {C : Inst → Bool} {y : Inst} : putC C y y = true := by unfold putC; simp
theorem putC_sub {C : Inst → Bool} {y j : Inst} (h : C j = true) : putC C y j = true := by unfold putC; split; rfl; exact h
theorem putC_or {C : Inst → Bool} {y j : Inst} (h : putC C y j = true) : j = y ∨ C j = true := by unfold putC at h; split at h; exact .inl ‹_›; exact .inr h
theorem BlI.push {y : Inst} {c' : Nat} (h : BlI g s L x ob B W C c (y :: l) v w) (hA : ∀ k ∈ needsI s L y, k ∈ allI g s L) (hbel : Below W.heap.size W w') (hsz : B ≤ w'.heap.size) (hs : SetN ob (putC C y) c' w') (hc : CnS (allI g s L) (putC C y) c') (hq : ownsQ w' B 59 2 v' (l ++ needsI s L y).length (plC (l ++ needsI s L y))) : BlI g s L x ob B W (putC C y) c' (l ++ needsI s L y) v' w' := by
  have hy := h.inl y List.mem_cons_self
  refine ⟨hq, hs, hc, fun j hj => ?_, fun j hj => ?_, fun j hj k hk => ?_, ?_, hbel, h.oB, hsz, h.wo⟩
  · rcases List.mem_append.1 hj with h1 | h1
    · exact h.inl j (List.mem_cons_of_mem _ h1)
    · exact ⟨hA j h1, hy.2.snoc h1⟩
  · rcases putC_or hj with rfl | h1
    · exact hy.2
    · exact h.sub j h1
  · rcases putC_or hj with rfl | h1
    · exact .inr (List.mem_append_right _ hk)
    · rcases h.cl j h1 k hk with h2 | h2
      · exact .inl (putC_sub h2)
      · rcases List.mem_cons.1 h2 with rfl | h3
        · exact .inl putC_self
        · exact .inr (List.mem_append_left _ h3)
  · rcases h.has with h1 | h1
    · exact .inl (putC_sub h1)
    · rcases List.mem_cons.1 h1 with rfl | h2
      · exact .inl putC_self
      · exact .inr (List.mem_append_left _ h2)
theorem BlI.fin (h : BlI g s L x ob B W C c [] v w) : BelPost g s L x W (.returned (.map (some ob))) w := by
  have hx : C x = true := by rcases h.has with h1 | h1; exact h1; cases h1
  refine ⟨ob, C, c, rfl, h.set, h.cn, fun j => ⟨h.sub j, fun h1 => closed_reach (fun j hj k hk => ?_) hx h1⟩, h.bel, h.wo⟩
  rcases h.cl j hj k hk with h2 | h2
  · exact h2
  · cases h2
end
set_option maxHeartbeats 8000000 in
set_option maxRecDepth 100000 in
theorem belowE (g : Gram) (s : At.Sys) (T : Tree) (hs : At.checkS g s = 0) (hv : validT g T = true) (hroot : rootS g T = ⟨false, g.start⟩) (hal : s.attrs.length ≤ 2000000) (hsz : tsz T ≤ 1000000) (hlA : (allI g s (tabT T)).length ≤ 10000000000) (wb : Nat) (n a : Nat) (W : World) (h : WdS g s (tabT T) wb W) (hi : (n, a) ∈ allI g s (tabT T)) :
    Calls Tryz.prog 21 #[.pointer (some ⟨wb, 0, none⟩), .agg #[.int .i64 n, .int .i64 a]] W (BelPost g s (tabT T) (n, a) W) := by
  have HNEEDS := Lib.hid (fun (i j : Inst) (hi : i ∈ allI g s (tabT T)) (hj : j ∈ needsI s (tabT T) i) => needs_all hs hv hroot hi hj)
  have HOKI := Lib.hid (fun (i : Inst) (hi : i ∈ allI g s (tabT T)) => okI_of hs hv hroot hal hsz hi)
  have HLB : Hid ((tabT T).length ≤ 1000000) := by show _ ≤ _; rw [tab_len]; exact hsz
  have HIB : Hid ((allI g s (tabT T)).length ≤ 10000000000) := hlA
  have HND := Lib.hid (allI_nodup g s (tabT T))
  have HNLEN : Hid (∀ i ∈ allI g s (tabT T), (needsI s (tabT T) i).length ≤ 30) := fun i hi => by
    obtain ⟨q, E⟩ := env hs hv hroot hal hsz hi
    unfold needsI
    rw [E.ex, List.length_map]
    exact Nat.le_trans (refsS_len _) E.size
  have HCN : Hid (∀ (i : Inst) (w' : World), i ∈ allI g s (tabT T) → WdS g s (tabT T) wb w' → Calls Tryz.prog 43 #[.pointer (some ⟨wb, 0, none⟩), .agg #[.int .i64 i.1, .int .i64 i.2]] w' (NeWPost (needsI s (tabT T) i) w')) := fun i w' hi hw => by
    obtain ⟨q, E⟩ := env hs hv hroot hal hsz hi
    have h1 := wNeedsE g s (tabT T) hs wb i.1 i.2 _ q (placeI (tabT T) (ownerI s (tabT T) i)) w' hw E.eq (Nat.le_trans E.size (by decide)) E.at_
    unfold needsI
    rw [E.ex]
    exact h1
  obtain ⟨PST, HP⟩ := nameIt (BelPost g s (tabT T) (n, a) W)
  obtain ⟨L, HL⟩ := nameIt (tabT T)
  have HFIN : Hid (∀ ob B C c v w, BlI g s L (n, a) ob B W C c [] v w → PST (.returned (.map (some ob))) w) := fun ob B C c v w h1 => by
    rw [← HP.out, HL.out]
    exact h1.fin
  rw [HP.out]
  rw [HL.out] at h hi
  simp only [HL.out] at HNEEDS HOKI HLB HIB HND HNLEN HCN
  have HW := Lib.hid h
  have HI := Lib.hid hi
  clear hs hv hroot hal hsz hlA HP h hi
  obtain ⟨w0, HW0⟩ := nameIt (W.alloc (.cells #[.int .i64 (n : Int), .int .i64 (a : Int)] 59))
  have hb0 : Below W.heap.size W w0 := by rw [← HW0.out]; exact (Below.refl _ _).alloc (Nat.le_refl _) _
  have X0 : Hid (w0.heap[W.heap.size]? = some (.cells #[.int .i64 (n : Int), .int .i64 (a : Int)] 59 (0, 0))) := by rw [← HW0.out]; exact bx_new _ _ _ rfl
  obtain ⟨w1, HW1⟩ := nameIt (w0.alloc (.map #[] 0))
  have hb1 : Below w0.heap.size w0 w1 := by rw [← HW1.out]; exact (Below.refl _ _).alloc (Nat.le_refl _) _
  have HB1 : Hid (Below W.heap.size W w1) := hb0.trans (hb1.mono hb0.size)
  have X1 := Lib.hid (bx_keep X0.out hb1)
  obtain ⟨ob, HOB⟩ := nameIt w0.heap.size
  have HS1 : Hid (SetN ob (fun _ => false) 0 w1) := by rw [← HW1.out]; exact SetN.start _ HOB.out.symm
  have HWO : Hid (W.heap.size ≤ ob) := by show _ ≤ _; rw [← HOB.out]; exact hb0.size
  obtain ⟨w2, HW2⟩ := nameIt (w1.alloc (.cells #[.int .i64 (n : Int), .int .i64 (a : Int)] 59))
  have hb2 : Below w1.heap.size w1 w2 := by rw [← HW2.out]; exact (Below.refl _ _).alloc (Nat.le_refl _) _
  obtain ⟨B, HBn⟩ := nameIt w1.heap.size
  have X2 : Hid (w2.heap[B]? = some (.cells #[.int .i64 (n : Int), .int .i64 (a : Int)] 59 (0, 0))) := by rw [← HW2.out]; exact bx_new _ _ _ HBn.out.symm
  have HI0 : Hid (BlI g s L (n, a) ob B W (fun _ => false) 0 [(n, a)] (.slice (some ⟨B, 0, none⟩) 1 1) w2) := by
    have h2 := (Array.getElem?_eq_some_iff.1 X2.out).1
    refine ⟨⟨rfl, .inr ⟨B, 0, 1, _, rfl, Nat.le_refl _, X2.out, by simp, by unfold maxLen; omega, by simp, by simp [plC]⟩⟩, HS1.out.keep hb2, CnS.start _, fun j hj => ?_, fun j hj => (by cases hj), fun j hj => (by cases hj), .inr (by simp), HB1.out.trans (hb2.mono HB1.out.size), by have := HS1.out.lt; rw [HBn.out] at this; exact this, by omega, HWO.out⟩
    obtain rfl : j = (n, a) := by simpa using hj
    exact ⟨HI.out, .inl rfl⟩
  have hmm := @run_makeMap Tryz.prog
  obtain ⟨x0, x1⟩ := bx_cells2 X0.out
  obtain ⟨y0, y1⟩ := bx_cells2 X1.out
  clear hb0 hb1 hb2
  go_enter Tryz.func21, Tryz.ntmps21
  go_upto_region 1 with fail
  rw [HW0.out]
  go_upto_region 2 with fail
  rw [HW1.out]
  try rw [HOB.out]
  clear HW0 HW1 hmm x0 x1
  go_wp2_with fail
  try rw [HW2.out, HBn.out]
  clear HW2 y0 y1
  go_loopg [6] (32 * (allI g s L).length + 1) (fun gg v6 wr => ∃ (C : Inst → Bool) (c : Nat) (l : List Inst), ((allI g s L).length - c) * 32 + l.length ≤ gg ∧ Hid (((allI g s L).length - c) * 32 + l.length ≤ 32 * (allI g s L).length + 1) ∧ Hid (BlI g s L (n, a) ob B W C c l v6 wr))
  case atStart =>
    refine ⟨_, 0, [(n, a)], ?_, ?_, HI0⟩
    · simp only [List.length_cons, List.length_nil]
      omega
    · show _ ≤ _
      simp only [List.length_cons, List.length_nil]
      omega
  case round =>
    clear HI0 HS1 X0 X1 X2
    obtain ⟨C, c, l, hg, HG, HR⟩ := hrel
    obtain ⟨w3, rfl⟩ : ∃ ww : World, ww = wr := ⟨_, rfl⟩
    cases l with
    | nil =>
      obtain ⟨ar, cr, rfl, -, -⟩ := HR.out.que.form
      have HE := Lib.hid (HFIN.out _ _ _ _ _ _ HR.out)
      go_wp2_with fail
      first | exact HE.out | (refine bodyPost_ret (results_tmp1 Tryz.results21 _ _) rfl ?_; exact HE.out) | (go_ret; exact HE.out) | fail
    | cons y l =>
      obtain ⟨yn, ya⟩ := y
      obtain ⟨gq, oq, cq, rfl, hcell⟩ := HR.out.que.cells (by simp)
      have hl1 : (List.cons (yn, ya) l).length = l.length + 1 := rfl
      have z0 : w3.cell? ⟨gq, oq, none⟩ = some (.int .i64 (yn : Int)) := by simpa using hcell 0 _ rfl
      have z1 : w3.cell? ⟨gq, oq + 1, none⟩ = some (.int .i64 (ya : Int)) := hcell 1 _ rfl
      obtain ⟨m, HM⟩ := nameIt l.length
      rw [hl1, HM.out] at HR
      rw [hl1, HM.out] at hg HG
      rw [hl1, HM.out]
      obtain ⟨aq', cq', hvq, hc1, hc2⟩ := HR.out.que.form
      rw [hl1, HM.out] at hvq hc1
      obtain rfl : cq' = cq := by injection hvq with _ _ e; exact e.symm
      unfold maxLen at hc2
      obtain ⟨w4, HW4⟩ := nameIt (w3.alloc (.cells #[.int .i64 (yn : Int), .int .i64 (ya : Int)] 59))
      have hb4 : Below w3.heap.size w3 w4 := by rw [← HW4.out]; exact (Below.refl _ _).alloc (Nat.le_refl _) _
      have X4 : Hid (w4.heap[w3.heap.size]? = some (.cells #[.int .i64 (yn : Int), .int .i64 (ya : Int)] 59 (0, 0))) := by rw [← HW4.out]; exact bx_new _ _ _ rfl
      have HR4 := Lib.hid (HR.out.below hb4)
      have HOB3 : Hid (ob < w3.heap.size) := Nat.lt_of_lt_of_le HR.out.oB HR.out.le
      have HYI : Hid ((yn, ya) ∈ allI g s L ∧ Rs s L (n, a) (yn, ya)) := HR.out.inl _ List.mem_cons_self
      obtain ⟨yb, HYB⟩ := nameIt w3.heap.size
      rw [HYB.out] at X4
      clear hcell hvq hb4 HR hl1
      go_upto_region 5 with fail
      rw [HW4.out]
      try rw [HYB.out]
      clear HW4 z0 z1
      go_upto_region 6 with fail
      have hq7 := HR4.out.que
      rw [show plC ((yn, ya) :: l) = [.int .i64 (yn : Int), .int .i64 (ya : Int)] ++ plC l from rfl, show ((yn, ya) :: l).length = l.length + 1 from rfl, HM.out] at hq7
      have hq8 := hq7.tail rfl (by decide)
      obtain ⟨aq7, HA7⟩ := nameIt (if cq' = 1 then some (⟨gq, oq, none⟩ : Addr) else some ⟨gq, oq + 2, none⟩)
      rw [HA7.out] at hq8 ⊢
      have HQ7 : Hid (ownsQ w4 B 59 2 (.slice aq7 m (cq' - 1)) m (plC l)) := hq8
      obtain ⟨cq7, HC7⟩ := nameIt (cq' - 1)
      rw [HC7.out] at HQ7 ⊢
      obtain ⟨u0, u1⟩ := bx_cells2 X4.out
      have hlk := HR4.out.set.look (n := yn) (a := ya) (HOKI.out _ HYI.out.1)
      obtain ⟨bq, HBQ⟩ := nameIt (C (yn, ya))
      rw [HBQ.out] at hlk
      have HKS : Hid (c ≤ (allI g s L).length) := HR4.out.cn.le
      have hB4 := HR4.out.le
      clear hq7 hq8 hc1 hc2
      cases bq with
      | true =>
        have HR7 : Hid (BlI g s L (n, a) ob B W C c l (.slice aq7 m cq7) w4) := HR4.out.pop HBQ.out (by rw [HM.out]; exact HQ7.out)
        go_wp2_with fail
        go_roundg (((allI g s L).length - c) * 32 + m)
        case measure => omega
        case rel => exact ⟨C, c, l, by rw [HM.out]; exact Nat.le_refl _, by have h1 := HG.out; rw [HM.out]; show _ ≤ _; omega, HR7⟩
      | false =>
        obtain ⟨w5, hrun, hS5, hg5⟩ := HR4.out.set.add (n := yn) (a := ya) (by have h1 := HKS.out; have h2 := HIB.out; omega) (HOKI.out _ HYI.out.1)
        rw [HBQ.out, if_neg (by decide)] at hS5
        have hC5 := HR4.out.cn.add HND.out HYI.out.1
        rw [HBQ.out, if_neg (by decide)] at hC5
        have HC5 := Lib.hid hC5
        have HC5L : Hid (c + 1 ≤ (allI g s L).length) := hC5.le
        have HS5 := Lib.hid hS5
        have hob4 : ob < w4.heap.size := HR4.out.set.lt
        have HBW5 : Hid (Below W.heap.size W w5) := HR4.out.bel.grown hg5 HR4.out.bel.size (fun k e => by cases e; exact HR4.out.wo)
        have HYB4 : Hid (yb ≠ ob) := by have h1 := HOB3.out; show _ ≠ _; intro e; have h2 : w3.heap.size = yb := HYB.out; omega
        have X5 : Hid (w5.heap[yb]? = some (.cells #[.int .i64 (yn : Int), .int .i64 (ya : Int)] 59 (0, 0))) := (hg5.block yb (Array.getElem?_eq_some_iff.1 X4.out).1 (fun e => HYB4.out (by cases e; rfl))).trans X4.out
        have HQ5 : Hid (ownsQ w5 B 59 2 (.slice aq7 m cq7) m (plC l)) := HQ7.out.other hg5 (fun k e e2 => by cases e2; have h1 := (HQ7.out.lt ob e).1; have h2 := HR4.out.oB; omega)
        have hw5 : w4.heap.size ≤ w5.heap.size := hg5.size
        have CN := Lib.hid (HCN.out (yn, ya) w5 HYI.out.1 (HW.out.below HBW5.out))
        obtain ⟨NL, HNL⟩ := nameIt (needsI s L (yn, ya))
        have HNLE : Hid (NL.length ≤ 30) := by show _ ≤ _; rw [← HNL.out]; exact HNLEN.out _ HYI.out.1
        rw [HNL.out] at CN
        obtain ⟨v0, v1⟩ := bx_cells2 X5.out
        clear hS5 hC5 hg5
        go_upto_region 8 with fail
        clear hrun hlk u0 u1
        go_wp2_with (refine CN.out.mono ?_)
        rintro e6 w6 ⟨v6, rfl, ho6, hb6⟩
        have HO6 := Lib.hid ho6
        have HB6 := Lib.hid hb6
        have HQ6 := Lib.hid (HQ5.out.keep hb6)
        obtain ⟨a6, c6, rfl, -, -⟩ := own_len ho6
        have HZ6 : Hid (B ≤ w6.heap.size) := Nat.le_trans hB4 (Nat.le_trans hw5 hb6.size)
        have hz6 := HZ6.out
        obtain ⟨nl, HNLn⟩ := nameIt NL.length
        rw [HNLn.out] at HO6 HNLE ⊢
        have hnl := HNLE.out
        have HMB : Hid (m ≤ 400000000000) := by have h2 := HIB.out; have h3 := HG.out; show _ ≤ _; omega
        have hmb := HMB.out
        clear ho6 hb6 CN v0 v1
        go_wp2_with (at_builtin; refine wp_appQA elInstW rfl _ _ rfl HQ6.out rfl HO6.out rfl (plC_one NL) (by unfold maxLen; omega) (by omega) hz6 ?_)
        intro v7 w7 ho7 hg7
        have HO7 := Lib.hid ho7
        have HG7 := Lib.hid hg7
        obtain ⟨a7, c7, rfl, -, -⟩ := ho7.form
        clear ho7 hg7
        have HR7 : Hid (BlI g s L (n, a) ob B W (putC C (yn, ya)) (c + 1) (l ++ NL) (.slice a7 (m + nl) c7) w7) := by
          have h1 := HR4.out.push (w' := w7) (v' := .slice a7 (m + nl) c7) (c' := c + 1) (fun k hk => HNEEDS.out _ _ HYI.out.1 hk) ?_ (Nat.le_trans HZ6.out HG7.out.size) ((HS5.out.keep HB6.out).kept HG7.out (fun e => by have h2 := (HQ6.out.lt ob e.symm).1; have h3 := HR4.out.oB; omega)) HC5.out ?_
          · rw [HNL.out] at h1; exact h1
          · exact (HBW5.out.trans (HB6.out.mono HBW5.out.size)).grown HG7.out (HBW5.out.trans (HB6.out.mono HBW5.out.size)).size (fun k e => by have h2 := (HQ6.out.lt k e).1; have h3 := HR4.out.oB; have h4 := HR4.out.wo; omega)
          · rw [HNL.out, List.length_append, HM.out, HNLn.out, plC_app]
            exact HO7.out
        have hc5 := HC5L.out
        have HGN : Hid (((allI g s L).length - (c + 1)) * 32 + (l ++ NL).length ≤ 32 * (allI g s L).length + 1) := by have h1 := HG.out; show _ ≤ _; rw [List.length_append, HM.out, HNLn.out]; omega
        go_wp2_with fail
        go_roundg (((allI g s L).length - (c + 1)) * 32 + (m + nl))
        case measure => omega
        case rel => exact ⟨_, _, l ++ NL, by rw [List.length_append, HM.out, HNLn.out]; exact Nat.le_refl _, HGN, HR7⟩
end Dm
end Go.Proofs.YtfocooehnmpndaaGreat
namespace Go.Proofs.YtfocooehnmpndaaGreat
open Go.RowKit
mutual
theorem Rd.strictZ {S Z : Nat → Prop} {w : World} (hZ : ∀ b, Z b → ∃ es ck, w.heap[b]? = some (.map es ck)) : ∀ (d : D) (cs : List Value), Rd S w d cs → Rd (fun k => S k ∧ ¬ Z k) w d cs
  | .int n, cs, h => h
  | .bool n, cs, h => h
  | .str n, cs, h => h
  | .sl ds, cs, h => by
    obtain ⟨a, cap, L, rfl, h1, h2, h3, h4, h5⟩ := h
    refine ⟨a, cap, L, rfl, h1, h2, h3, fun i hi => ?_, RdAll.strictZ hZ ds L h5⟩
    obtain ⟨x, hx, hS, hc⟩ := h4 i hi
    refine ⟨x, hx, ⟨hS, fun e => ?_⟩, hc⟩
    obtain ⟨es, ck, hb⟩ := hZ _ e
    rw [noCell hb (add_block x i)] at hc
    cases hc
  | .agg ds, cs, h => RdAll.strictZ hZ ds cs h
theorem RdAll.strictZ {S Z : Nat → Prop} {w : World} (hZ : ∀ b, Z b → ∃ es ck, w.heap[b]? = some (.map es ck)) : ∀ (ds : List D) (cs : List Value), RdAll S w ds cs → RdAll (fun k => S k ∧ ¬ Z k) w ds cs
  | [], cs, h => h
  | d :: ds, cs, h => by
    obtain ⟨c1, c2, rfl, h1, h2⟩ := h
    exact ⟨c1, c2, rfl, Rd.strictZ hZ d c1 h1, RdAll.strictZ hZ ds c2 h2⟩
end
theorem Rd.maps {S Z : Nat → Prop} {w w' : World} {d : D} {cs : List Value} (h : Rd S w d cs) (hk : Keeps Z w w') (hZ : ∀ b, Z b → ∃ es ck, w.heap[b]? = some (.map es ck)) : Rd S w' d cs :=
  Rd.keep (fun k hk' hl => ⟨hk'.1, hk.block k hl hk'.2⟩) _ _ (Rd.strictZ hZ _ _ h)
theorem own_maps {Z : Nat → Prop} {w w' : World} {B : Nat} {e : TypeId} {s : Nat} {v : Value} {n : Nat} {xs : List Value} (h : w.ownsRow B e s v n xs) (hk : Keeps Z w w') (hZ : ∀ b, Z b → ∃ es ck, w.heap[b]? = some (.map es ck)) : w'.ownsRow B e s v n xs :=
  own_blk h fun g hg => hk.block g (h.lt g hg).2 fun hz => by
    obtain ⟨c1, h1⟩ := Dm.own_typedN h hg
    obtain ⟨es, ck, h2⟩ := hZ _ hz
    rw [h1] at h2
    cases h2
namespace Dm
open At (Ref)
theorem WdS.maps {g : Gram} {s : At.Sys} {L : List Nd} {wb : Nat} {Z : Nat → Prop} {w w' : World} (h : WdS g s L wb w) (hk : Keeps Z w w') (hZ : ∀ b, Z b → ∃ es ck, w.heap[b]? = some (.map es ck)) : WdS g s L wb w' := by
  obtain ⟨B, hd, vn, vk, va, iv, tr, aa, qa, ac, qc, h1, h2, h3, h4, h5⟩ := h
  refine ⟨B, hd, vn, vk, va, iv, tr, aa, qa, ac, qc, ⟨⟨own_maps h1.w4.nod hk hZ, own_maps h1.w4.out hk hZ, own_maps h1.w4.all hk hZ, fun k hk' => own_maps (h1.w4.int k hk') hk hZ, h1.w4.dis, Nat.le_trans h1.w4.le hk.size⟩, hk.cells h1.hdr fun hz => ?_, h1.nil, h1.lt⟩, h2, h3, h4.maps hk hZ, h5.maps hk hZ⟩
  obtain ⟨es, ck, h6⟩ := hZ _ hz
  rw [h1.hdr] at h6
  cases h6
section
variable {b c : Nat} {C : Inst → Bool} {H : Inst → Option Int} {f : Inst → Int} {w w' : World}
theorem HvM.blk (h : HvM b H c w) (e : w'.heap[b]? = w.heap[b]?) : HvM b H c w' := by
  obtain ⟨FF, ⟨D, h1, h2⟩, h3⟩ := h
  exact ⟨FF, ⟨D, ownsMap_sameU h1 e, h2⟩, h3⟩
theorem SetN.blk (h : SetN b C c w) (e : w'.heap[b]? = w.heap[b]?) : SetN b C c w' := by
  obtain ⟨FF, ⟨D, h1, h2⟩, h3⟩ := h
  exact ⟨FF, ⟨D, ownsMap_sameU h1 e, h2⟩, h3⟩
theorem SetP.isMap (h : SetP b C c w) : ∃ es ck, w.heap[b]? = some (.map es ck) := by
  obtain ⟨FF, ⟨D, ⟨es, ck, h1, _⟩, _⟩, _⟩ := h
  exact ⟨es, ck, h1⟩
theorem NumM.isMap (h : NumM b f c w) : ∃ es ck, w.heap[b]? = some (.map es ck) := by
  obtain ⟨D, ⟨es, ck, h1, _⟩, _⟩ := h
  exact ⟨es, ck, h1⟩
end
theorem EvS.areMaps {g : Gram} {s : At.Sys} {L : List Nd} {ev tb eb vb sb cb : Nat} {wc w : World} {C : Inst → Bool} {c : Nat} {X : GetS} (h : EvS g s L ev tb eb vb sb cb wc C c X w) : ∀ k, k = vb ∨ k = sb ∨ k = cb → ∃ es ck, w.heap[k]? = some (.map es ck) := by
  obtain ⟨⟨m, h3, h4⟩, ⟨k, h5, h6⟩⟩ := h.mem
  rintro k (rfl | rfl | rfl)
  · exact h5.isMap
  · exact h3.isMap
  · exact h.set.isMap
def RgN (b r : Nat) (C : Inst → Bool) (Lf : Inst → Prop) (cnt : Nat) (w : World) : Prop :=
  ∃ (D : DataW Unit) (n : Nat) (left : Lit → Bool), w.ranges Tryz.prog 59 (plainElem Tryz.prog 4) b r n D left cnt ∧ (∀ l, Maps.has D l = true ↔ ∃ u, okI u ∧ C u = true ∧ l = piL u.1 u.2) ∧ (∀ l zd, Maps.has D l = true → D.atKey l zd = .lit (.bool true)) ∧ (∀ kl, left kl = true → Maps.has D kl = true) ∧ ∀ u, okI u → (left (piL u.1 u.2) = true ↔ Lf u)
section
variable {b c r cnt : Nat} {C : Inst → Bool} {Lf : Inst → Prop} {w w' : World}
theorem RgN.kept {row : Option Nat} (h : RgN b r C Lf cnt w) (hg : w.grownBy w' row) (h1 : some b ≠ row) (h2 : some r ≠ row) : RgN b r C Lf cnt w' := by
  obtain ⟨D, n, left, k1, k2⟩ := h
  exact ⟨D, n, left, k1.kept hg h1 h2, k2⟩
theorem RgN.lt (h : RgN b r C Lf cnt w) : r < w.heap.size := by obtain ⟨D, n, left, h1, _⟩ := h; exact h1.lt
def rmvI (Lf : Inst → Prop) (u : Inst) : Inst → Prop := fun z => Lf z ∧ z ≠ u
theorem piL_ok {u v : Inst} (hu : okI u) (hv : okI v) (h : piL u.1 u.2 = piL v.1 v.2) : u = v := by
  obtain ⟨e1, e2⟩ := piL_inj hu.1 hu.2 hv.1 hv.2 h
  exact inst_eq e1 e2
theorem wpList_range_in {ops : Array Oper} {rest : List Oper} {o : Oper} {a : Act} {K : Exit → Act → World → Prop} (w : World) (hg : o.guard = none) (m : Operand) (hop : o.op = Op.range 56 m)
    (hm : a.eval m = .map (some b)) (h : SetN b C c w)
    (hK : ∀ w', RgN b w.heap.size C (fun u => C u = true) c w' → Below w.heap.size w w' → w'.heap.size = w.heap.size + 1 → wpList Tryz.prog ops K rest (a.put o.dst (.pointer (some ⟨w.heap.size, 0, none⟩))) w') :
    wpList Tryz.prog ops K (o :: rest) a w := by
  obtain ⟨F, ⟨D, hown, hs0, hh, hat⟩, hF, hO⟩ := h
  have hH : ∀ l, Maps.has D l = true ↔ ∃ u, okI u ∧ C u = true ∧ l = piL u.1 u.2 := fun l => by
    rw [hh]
    constructor
    · intro h1
      obtain ⟨u, hu, rfl⟩ := hO l h1
      refine ⟨u, hu, ?_, rfl⟩
      rw [hF u hu] at h1
      unfold litB at h1
      by_cases e : C u = true
      · exact e
      · rw [if_neg e] at h1; cases h1
    · rintro ⟨u, hu, h1, rfl⟩
      rw [hF u hu]
      unfold litB
      rw [if_pos h1]; rfl
  refine wpList_range_own w hg m _ hop 59 4 inK Tryz.underlying56 _ b c D hm hown fun w' hrg hgr hs => ?_
  refine hK w' ⟨D, c, _, by have := hrg; rw [hs0] at this; exact this, hH, fun l zd h1 => ?_, fun kl h => h, fun u hu => ?_⟩ ?_ hs
  · obtain ⟨u, hu, h2, rfl⟩ := (hH l).1 h1
    exact hat _ _ (by rw [hF u hu]; unfold litB; rw [if_pos h2]) zd
  · rw [hH]
    constructor
    · rintro ⟨v, hv, h1, h2⟩
      rw [piL_ok hu hv h2]; exact h1
    · intro h1; exact ⟨u, hu, h1, rfl⟩
  · exact (Below.refl w.heap.size w).grown hgr (Nat.le_refl _) (fun j hj => by cases hj)
theorem wpList_next_in {ops : Array Oper} {rest : List Oper} {o : Oper} {a : Act} {K : Exit → Act → World → Prop} (w : World) (hg : o.guard = none) (it : Operand) (hop : o.op = Op.next it false)
    (hit : a.eval it = .pointer (some ⟨r, 0, none⟩)) (h : RgN b r C Lf cnt w)
    (hDone : (∀ u, okI u → ¬ Lf u) → wpList Tryz.prog ops K rest (a.put o.dst (.tuple #[.bool false])) w)
    (hMore : ∀ (u : Inst) (w' : World) (cnt' : Nat), okI u → C u = true → Lf u → RgN b r C (rmvI Lf u) cnt' w' → cnt' < cnt → w.grownBy w' (some r) → w'.heap.size = w.heap.size →
      (Instr.entry (.pointer (some ⟨r, 0, none⟩))).run Tryz.prog w' = .ok (.tuple #[.agg #[.int .i64 (u.1 : Nat), .int .i64 (u.2 : Nat)], .bool true]) w' → wpList Tryz.prog ops K rest (a.put o.dst (.tuple #[.bool true, .agg #[.int .i64 (u.1 : Nat), .int .i64 (u.2 : Nat)], .bool true])) w') :
    wpList Tryz.prog ops K (o :: rest) a w := by
  obtain ⟨D, n, left, h1, h2, h6, h3, h4⟩ := h
  refine wpList_next_ranges w hg it hop 59 inK _ (id : Value → Value) Value.bool (fun key kl _ => ⟨key, rfl⟩) (fun v y hv => by obtain ⟨x, e, _⟩ := plainElem_bool_inv Tryz.underlying4 hv; exact ⟨x, e⟩) b r n D left cnt hit h1 (fun _ hl => hDone fun u hu hL => ?_) (fun x v kl y w' cnt' hkey hleft hRv hat hrg hlt hgr hsz hen => ?_)
  · have := (h4 u hu).2 hL
    rw [hl] at this; cases this
  · obtain ⟨u, hu, hQ, hkl⟩ := (h2 _).1 (h3 _ hleft)
    subst hkl
    obtain rfl : x = .agg #[.int .i64 (u.1 : Nat), .int .i64 (u.2 : Nat)] := inK.inj hkey (inKey hu.1 hu.2)
    have hL : Lf u := (h4 u hu).1 hleft
    obtain rfl : v = true := by
      have h5 := h6 _ (.lit (.bool false)) (h3 _ hleft)
      rw [hat] at h5
      obtain ⟨z, hz, hy⟩ := plainElem_bool_inv Tryz.underlying4 hRv
      cases hz
      rw [hy] at h5
      simpa using h5
    refine hMore u w' cnt' hu hQ hL ⟨D, n, _, hrg, h2, h6, fun kl hk => h3 kl (by simp at hk; exact hk.1), fun z hz => ?_⟩ hlt hgr hsz hen
    have e1 : Lit.sameKey (piL z.1 z.2) (piL u.1 u.2) = decide (z = u) := by
      by_cases e : z = u
      · subst e; simp [Lit.sameKey, piL]
      · have : ¬ piL (z.1 : Int) z.2 = piL u.1 u.2 := fun h => e (piL_ok hz hu h)
        unfold piL at this ⊢
        simp [Lit.sameKey, e] at this ⊢
        exact this
    rw [e1]
    simp only [Bool.and_eq_true, Bool.not_eq_true', decide_eq_false_iff_not, rmvI]
    rw [h4 z hz]
end
end Dm
end Go.Proofs.YtfocooehnmpndaaGreat
namespace Go.Proofs.YtfocooehnmpndaaGreat
open Go.RowKit
namespace Dm
open At
set_option maxHeartbeats 2000000 in
set_option maxRecDepth 100000 in
theorem indexIn (l : List Ref) (x : Ref) (a : Option Addr) (cap : Nat) (w : World) (hl : Rd AnyB w (.sl (l.map Ref.d)) [.slice a l.length cap]) :
    Calls Tryz.prog 48 #[.slice a l.length cap, .agg #[.int .i64 x.at', .int .i64 x.attr]] w fun e w' => e = .returned (.int .i64 (idxR l x)) ∧ Below w.heap.size w w' := by
  have HL := Lib.hid hl
  have hc := hl.bounds.2
  unfold maxLen at hc
  obtain ⟨hc1, hc2⟩ := hc
  obtain ⟨w0, HW0⟩ := nameIt (w.alloc (.cells #[.int .i64 x.at', .int .i64 x.attr] 59))
  have HB0 : Hid (Below w.heap.size w w0) := by rw [← HW0.out]; exact (Below.refl _ _).alloc (Nat.le_refl _) _
  have X0 : Hid (w0.heap[w.heap.size]? = some (.cells #[.int .i64 x.at', .int .i64 x.attr] 59 (0, 0))) := by rw [← HW0.out]; exact bx_new _ _ _ rfl
  have HXE : Hid (∀ y : Ref, y = x ↔ y.at' = x.at' ∧ y.attr = x.attr) := fun y => Ref.ext'
  obtain ⟨xa, HXA⟩ := nameIt x.at'
  obtain ⟨xi, HXI⟩ := nameIt x.attr
  simp only [HXA.out, HXI.out] at HXE
  rw [HXA.out, HXI.out] at HW0 X0 ⊢
  have HB00 := Lib.hid (Below.refl w0.heap.size w0)
  have HN0 : Hid (∀ j (h : j < l.length), j < 0 → l[j] ≠ x) := fun j _ h => by omega
  clear hl
  go_enter Tryz.func48, Tryz.ntmps48
  go_upto_region 1 with fail
  rw [HW0.out]
  go_wp2_with fail
  go_loopg [8] l.length (fun gg v8 wr => ∃ i : Nat, i ≤ l.length ∧ l.length - i ≤ gg ∧ v8 = .int .i64 i ∧ Hid (Below w0.heap.size w0 wr) ∧ Hid (∀ j (h : j < l.length), j < i → l[j] ≠ x))
  case atStart => exact ⟨0, by omega, by omega, rfl, HB00, HN0⟩
  case round =>
    clear HB00 HN0
    obtain ⟨i, hi, hg, rfl, HB, HN⟩ := hrel
    by_cases hlt : i < l.length
    · have hlt' : (i : Int) < (l.length : Int) := by omega
      have hi0 : (0 : Int) ≤ (i : Int) := by omega
      obtain ⟨b, off, hae, -, -, c0, c1⟩ := Rd.ref_at (HL.out.below (HB0.out.trans (HB.out.mono HB0.out.size))) hlt
      have HXI2 := Lib.hid (HXE.out l[i])
      have HHIT := Lib.hid (fun (h : l[i] = x) => idxR_hit hlt h HN.out)
      have HNX := Lib.hid (fun (h : l[i] ≠ x) => show ∀ j (h : j < l.length), j < i + 1 → l[j] ≠ x from fun j h1 h2 => by
        by_cases e : j = i
        · subst e; exact h
        · exact HN.out j h1 (by omega))
      obtain ⟨y, HY⟩ := nameIt (l[i]'hlt)
      rw [HY.out] at c0 c1 HXI2
      simp only [HY.out] at HHIT HNX
      obtain ⟨ya, HYA⟩ := nameIt y.at'
      obtain ⟨yi, HYI⟩ := nameIt y.attr
      rw [HYA.out] at c0
      rw [HYI.out] at c1
      rw [HYA.out, HYI.out] at HXI2
      obtain ⟨x0, x1⟩ := bx_cells2 (bx_keep X0.out HB.out)
      subst hae
      by_cases g1 : ya = xa
      · by_cases g2 : yi = xi
        · have HE := Lib.hid (HHIT.out (HXI2.out.2 ⟨g1, g2⟩))
          subst g1 g2
          go_upto_region 4 with fail
          go_quiet (fail)
          go_wp2_with fail
          go_ret
          exact ⟨by rw [HE.out]; rfl, HB0.out.trans ((HB.out.trans ((below_drewN _ _).mono HB.out.size)).mono HB0.out.size)⟩
        · have g2' : (xi == yi) = false := by rw [beq_eq_false_iff_ne]; exact fun h => g2 h.symm
          have HE := Lib.hid (HNX.out (fun h => g2 (HXI2.out.1 h).2))
          subst g1
          clear g2
          go_upto_region 4 with fail
          go_quiet (fail)
          go_wp2_with fail
          go_roundg (l.length - (i + 1))
          case measure => omega
          case rel => exact ⟨i + 1, by omega, by omega, by go_num, HB.out.trans ((below_drewN _ _).mono HB.out.size), HE⟩
      · have g1' : (xa == ya) = false := by rw [beq_eq_false_iff_ne]; exact fun h => g1 h.symm
        have HE := Lib.hid (HNX.out (fun h => g1 (HXI2.out.1 h).1))
        clear g1
        go_upto_region 4 with fail
        go_quiet (fail)
        go_wp2_with fail
        go_roundg (l.length - (i + 1))
        case measure => omega
        case rel => exact ⟨i + 1, by omega, by omega, by go_num, HB.out.trans ((below_drewN _ _).mono HB.out.size), HE⟩
    · have hlt' : ¬ (i : Int) < (l.length : Int) := by omega
      have HE : Hid (idxR l x = -1) := idxR_none fun j hj => HN.out j hj (by omega)
      go_wp2_with fail
      go_ret
      exact ⟨by rw [HE.out]; rfl, HB0.out.trans (HB.out.mono HB0.out.size)⟩
set_option maxHeartbeats 1000000 in
theorem containsIn (l : List Ref) (x : Ref) (a : Option Addr) (cap : Nat) (w : World) (hl : Rd AnyB w (.sl (l.map Ref.d)) [.slice a l.length cap]) :
    Calls Tryz.prog 20 #[.slice a l.length cap, .agg #[.int .i64 x.at', .int .i64 x.attr]] w fun e w' => e = .returned (.bool (decide (x ∈ l))) ∧ Below w.heap.size w w' := by
  obtain ⟨w0, HW0⟩ := nameIt (w.alloc (.cells #[.int .i64 x.at', .int .i64 x.attr] 59))
  have HB0 : Hid (Below w.heap.size w w0) := by rw [← HW0.out]; exact (Below.refl _ _).alloc (Nat.le_refl _) _
  have X0 : Hid (w0.heap[w.heap.size]? = some (.cells #[.int .i64 x.at', .int .i64 x.attr] 59 (0, 0))) := by rw [← HW0.out]; exact bx_new _ _ _ rfl
  have HC := Lib.hid (indexIn l x a cap w0 (hl.below HB0.out))
  have HGE := Lib.hid (idxR_ge l x)
  obtain ⟨xa, HXA⟩ := nameIt x.at'
  obtain ⟨xi, HXI⟩ := nameIt x.attr
  obtain ⟨rs, HRS⟩ := nameIt (decide (x ∈ l))
  rw [HRS.out] at HGE
  rw [HXA.out, HXI.out] at HW0 X0 HC ⊢
  rw [HRS.out]
  obtain ⟨x0, x1⟩ := bx_cells2 X0.out
  clear hl
  go_enter Tryz.func20, Tryz.ntmps20
  go_upto_region 1 with fail
  rw [HW0.out]
  go_wp2_with fail
  refine HC.out.mono ?_
  rintro e w1 ⟨rfl, hb⟩
  have HB := Lib.hid hb
  clear hb
  go_wp2_with fail
  go_ret
  exact ⟨by rw [← HGE.out]; rfl, HB0.out.trans (HB.out.mono HB0.out.size)⟩
end Dm
end Go.Proofs.YtfocooehnmpndaaGreat
