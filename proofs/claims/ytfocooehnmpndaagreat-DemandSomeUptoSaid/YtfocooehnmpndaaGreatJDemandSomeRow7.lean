/- attr.Of. A region that draws its order: a head that only loads what was there and calls what makes new memory only, then a tail in one forced order. demand.Table in memory, while its two maps of numbers change; its equations. demand.Table in memory; Attrs and place. (*Table).place. The contracts of attr.copyExpr and attr.Find. A region that draws its order: loads are taken first where their cells stay as they are until the tail begins. -/
import Derived.Test.YtfocooehnmpndaaGreatJDemandSomeRow3
import Derived.Test.YtfocooehnmpndaaGreatJDemandSomeRow6
import Derived.Deep.LoopGhost
import Derived.Test.YtfocooehnmpndaaGreatJDemandSomeRow4
import Derived.StillTail
import Derived.Test.YtfocooehnmpndaaGreatJDemandSomeRow5
import Derived.Deep.RegionLaw
import Derived.Test.YtfocooehnmpndaaGreatJDemandSomeRow2
import Derived.StillTailTactics
import Derived.Deep.RegionHeld3
namespace Go.Proofs.YtfocooehnmpndaaGreat
open Go.RowKit
namespace Dm
def natI (l : List Nat) : List Int := l.map fun a : Nat => (a : Int)
def attrsTo (al : List At.Attr) (non : Int) (n : Nat) : List Nat := (List.range n).filter fun a => match al[a]? with | some x => x.non == non | none => false
theorem attrsTo_succ {al : List At.Attr} {non : Int} {n : Nat} (h : n < al.length) : attrsTo al non (n + 1) = attrsTo al non n ++ (if al[n].non == non then [n] else []) := by
  unfold attrsTo
  rw [List.range_succ, List.filter_append]
  congr 1
  rw [List.filter_cons, List.getElem?_eq_getElem h]
  rfl
theorem attrsTo_le (al : List At.Attr) (non : Int) (n : Nat) : (attrsTo al non n).length ≤ n := by
  unfold attrsTo
  exact Nat.le_trans (List.length_filter_le _ _) (by simp)
structure OfI (w0 : World) (L : List Int) (v : Value) (wr : World) : Prop where
  own : wr.ownsRow w0.heap.size 3 1 v L.length (ints L)
  bel : Below w0.heap.size w0 wr
def OfPost (al : List At.Attr) (non : Int) (W : World) (e : Ending) (w' : World) : Prop := ∃ v, e = .returned v ∧ w'.ownsRow W.heap.size 3 1 v (attrsOf al non).length (ints (natI (attrsOf al non))) ∧ Below W.heap.size W w'
set_option maxHeartbeats 1000000 in
set_option maxRecDepth 100000 in
theorem ofE (s : At.Sys) (non : Int) (la : Option Addr) (lc : Nat) (vq : Value) (W : World) (hl : Rd AnyB W (.sl (s.attrs.map At.Attr.d)) [.slice la s.attrs.length lc]) (hbig : s.attrs.length ≤ 10000000) :
    Calls Tryz.prog 79 #[.agg #[.slice la s.attrs.length lc, vq], .int .i64 non] W (OfPost s.attrs non W) := by
  obtain ⟨hc3, hc4⟩ := hl.bounds.2
  unfold maxLen at hc4
  obtain ⟨PST, HP⟩ := nameIt (OfPost s.attrs non W)
  have HFIN : Hid (∀ v w', w'.ownsRow W.heap.size 3 1 v (attrsOf s.attrs non).length (ints (natI (attrsOf s.attrs non))) → Below W.heap.size W w' → PST (.returned v) w') := fun v w' h1 h2 => by rw [← HP.out]; exact ⟨v, rfl, h1, h2⟩
  have HALL : Hid (attrsTo s.attrs non s.attrs.length = attrsOf s.attrs non) := rfl
  rw [HP.out]
  clear HP
  obtain ⟨al, HAL⟩ := nameIt s.attrs
  rw [HAL.out] at hl hc3 hbig HFIN HALL ⊢
  obtain ⟨ln, HLN⟩ := nameIt al.length
  obtain ⟨w0, HW0⟩ := nameIt (W.alloc (.cells #[.slice la ln lc, vq] 28))
  have HB0 : Hid (Below W.heap.size W w0) := by rw [← HW0.out]; exact (Below.refl _ _).alloc (Nat.le_refl _) _
  have X1 : Hid (w0.heap[W.heap.size]? = some (.cells #[.slice la ln lc, vq] 28 (0, 0))) := by rw [← HW0.out]; exact bx_new _ _ _ rfl
  have HL := Lib.hid (hl.below HB0.out)
  rw [HLN.out] at HL hc3 hbig HALL
  rw [HLN.out]
  obtain ⟨x0, x1⟩ := bx_cells2 X1.out
  have hl1 : W.heap.size < w0.heap.size := (Array.getElem?_eq_some_iff.1 X1.out).1
  have HI0 : Hid (OfI w0 (natI (attrsTo al non 0)) (.slice none 0 0) w0) := ⟨World.ownsRow_nil _ _ _ _, Below.refl _ _⟩
  clear hl
  go_enter Tryz.func79, Tryz.ntmps79
  go_upto_region 1 with fail
  rw [HW0.out]
  clear HW0
  go_wp2_with fail
  clear x0 x1
  go_loopg [5, 11] ln (fun gg v5 v11 wr => ∃ i : Nat, i ≤ ln ∧ ln - i ≤ gg ∧ v11 = .int .i64 i ∧ Hid (OfI w0 (natI (attrsTo al non i)) v5 wr))
  case atStart => exact ⟨0, by omega, by omega, rfl, HI0.out⟩
  case round =>
    clear HI0
    obtain ⟨i, hi, hg, rfl, HI⟩ := hrel
    obtain ⟨LA, HLA⟩ := nameIt (natI (attrsTo al non i))
    have HLAl : Hid (LA.length ≤ i) := by rw [← HLA.out]; unfold natI; rw [List.length_map]; exact attrsTo_le al non i
    rw [HLA.out] at HI
    obtain ⟨av, cv, rfl, hcv1, hcv2⟩ := own_len HI.out.own
    unfold maxLen at hcv2
    by_cases hlt : i < ln
    · have hlt' : (i : Int) < (ln : Int) := by omega
      have hic : (i : Int) ≤ (lc : Int) := by omega
      have hil : i < al.length := by rw [HLN.out]; exact hlt
      obtain ⟨bb, bo, hae, -, hbl, c0, c1⟩ := At.Rd.attr_at (HL.out.below HI.out.bel) hil
      have HNX : Hid (natI (attrsTo al non (i + 1)) = LA ++ (if al[i].non == non then [(i : Int)] else [])) := by
        show _ = _
        rw [attrsTo_succ hil, ← HLA.out]
        unfold natI
        rw [List.map_append]
        by_cases e : (al[i].non == non) = true
        · rw [if_pos e, if_pos e]; rfl
        · rw [if_neg e, if_neg e]; rfl
      obtain ⟨an, HAN⟩ := nameIt (al[i]'hil).non
      obtain ⟨ai, HAI⟩ := nameIt (al[i]'hil).inh
      rw [HAN.out] at c0 HNX
      rw [HAI.out] at c1
      obtain ⟨w4, HW4⟩ := nameIt (wr.alloc (.cells #[.int .i64 an, .bool ai] 88))
      have hb4 : Below wr.heap.size wr w4 := by rw [← HW4.out]; exact (Below.refl _ _).alloc (Nat.le_refl _) _
      have X7 : Hid (w4.heap[wr.heap.size]? = some (.cells #[.int .i64 an, .bool ai] 88 (0, 0))) := by rw [← HW4.out]; exact bx_new _ _ _ rfl
      have HB4 : Hid (Below w0.heap.size w0 w4) := HI.out.bel.trans (hb4.mono HI.out.bel.size)
      have HO4 := Lib.hid (own_keep HI.out.own hb4)
      obtain ⟨z0, z1⟩ := bx_cells2 X7.out
      have hl7 : wr.heap.size < w4.heap.size := (Array.getElem?_eq_some_iff.1 X7.out).1
      obtain ⟨n, HN⟩ := nameIt LA.length
      rw [HN.out] at HO4 HLAl
      rw [HN.out]
      have hni : n ≤ i := HLAl.out
      obtain ⟨eb, HEB⟩ : ∃ b : Bool, (an == non) = b := ⟨_, rfl⟩
      rw [HEB] at HNX
      have hz4 : w0.heap.size ≤ w4.heap.size := HB4.out.size
      subst hae
      go_upto_region 5 with fail
      rw [HW4.out]
      clear HW4 c0 c1 hbl hb4 HI
      cases eb with
      | false =>
        have HI5 : Hid (OfI w0 (natI (attrsTo al non (i + 1))) (.slice av n cv) w4) := by
          rw [HNX.out]
          simp only [Bool.false_eq_true, if_false, List.append_nil]
          exact ⟨by rw [HN.out]; exact HO4.out, HB4.out⟩
        clear HNX
        go_wp2_with fail
        go_roundg (ln - (i + 1))
        case measure => omega
        case rel => exact ⟨i + 1, by omega, by omega, by go_num, HI5.out⟩
      | true =>
        go_wp2_with (at_builtin; refine wp_app1 elInt rfl _ _ rfl HO4.out rfl rfl rfl rfl (by omega) (by unfold maxLen; omega) hz4 ?_)
        intro v7 w7 ho7 hg7
        obtain ⟨a7, c7, rfl, -, -⟩ := own_len ho7
        have HI5 : Hid (OfI w0 (natI (attrsTo al non (i + 1))) (.slice a7 (n + 1) c7) w7) := by
          rw [HNX.out]
          simp only [if_true]
          refine ⟨?_, HB4.out.grown hg7 hz4 (fun k e => (HO4.out.lt k e).1)⟩
          rw [ints_append, List.length_append, HN.out]
          exact ho7
        clear ho7 hg7
        go_wp2_with fail
        go_roundg (ln - (i + 1))
        case measure => omega
        case rel => exact ⟨i + 1, by omega, by omega, by go_num, HI5.out⟩
    · have hend : i = ln := by omega
      have hlt' : ¬ (i : Int) < (ln : Int) := by omega
      have HE : Hid (PST (.returned (.slice av LA.length cv)) wr) := by
        have h := HI.out.own
        have e : LA = natI (attrsOf al non) := by rw [← HLA.out, hend, HALL.out]
        refine HFIN.out _ _ ?_ (HB0.out.trans (HI.out.bel.mono HB0.out.size))
        have h2 := World.ownsRow.mono h HB0.out.size
        rw [e] at h2 ⊢
        have el : (natI (attrsOf al non)).length = (attrsOf al non).length := by unfold natI; simp
        rw [el] at h2 ⊢
        exact h2
      obtain ⟨n, HN⟩ := nameIt LA.length
      rw [HN.out] at HE
      rw [HN.out]
      clear HI
      go_wp2_with fail
      exact HE.out
end Dm
end Go.Proofs.YtfocooehnmpndaaGreat
namespace Go.Proofs.YtfocooehnmpndaaGreat
open Go.RowKit
section
variable {P : Program} {ops : Array Oper} {md : Region.Mode} {C : World → Prop}
def wpHd (P : Program) (md : Region.Mode) (ops : Array Oper) (C : World → Prop) (n : Nat) (L : Array Bool → Act → Prop) : Nat → Array Bool → Act → Prop
  | 0, ld, a => L ld a
  | f + 1, ld, a => Region.ready md ops ld ≠ [] ∧ ∀ i ∈ Region.ready md ops ld, i < n ∧ qOp P ops C i (wpHd P md ops C n L f (ld.setIfInBounds i true)) a
theorem wpAny_of_hd {n g : Nat} {L : Array Bool → Act → Prop} {Q : Exit → Act → World → Prop} (hL : ∀ ld a w, C w → L ld a → wpAny P md ops Q g ld a w) :
    ∀ (f : Nat) (ld : Array Bool) (a : Act) (w : World), C w → wpHd P md ops C n L f ld a → wpAny P md ops Q (f + g) ld a w
  | 0, ld, a, w, hw, h => by rw [Nat.zero_add]; exact hL ld a w hw h
  | f + 1, ld, a, w, hw, h => by
    rw [Nat.add_right_comm]
    exact ⟨fun e => absurd e h.1, fun i hi => wpOp_of_qOp hw (fun a' w' hw' h' => wpAny_of_hd hL f _ a' w' hw' h') (h.2 i hi).2⟩
theorem wpHd_first {n i : Nat} {oi : Oper} {v : Value} {L : Array Bool → Act → Prop} (hi : ops[i]? = some oi) (hsel : ∀ (j : Nat) (o : Oper) cs b, ops[j]? = some o → o.op ≠ .select cs b)
    (hs : Region.sinkB md ops n = true) (hc : Region.chainB md ops n = true) (hn : n < ops.size) (hin : i < n) (hend : ∀ ld a, L ld a → ∀ j ∈ Region.ready md ops ld, n ≤ j) :
    ∀ (f : Nat) (ld : Array Bool) (a : Act), HeadInv md ops n ld →
      (∀ j oj, ops[j]? = some oj → j ≠ i → ld.getD j true = false → (∀ e ∈ oj.after, Region.binds md e = true → e.on ≠ i) → oi.apart ops oj = true) →
      i ∈ Region.ready md ops ld → YieldsIn P ops C oi v a → wpHd P md ops C n L f (ld.setIfInBounds i true) (a.put oi.dst v) → wpHd P md ops C n L (f + 1) ld a := by
  intro f
  induction f with
  | zero =>
    intro ld a inv _ hr hy H
    refine ⟨fun e => (by rw [e] at hr; cases hr), fun j hj => ?_⟩
    have hjn : j < n := Nat.lt_of_not_le fun h => tail_waits hs hc hn inv _ i rfl hin (mem_ready.1 hr).1 j h hj
    by_cases e : j = i
    · subst e; exact ⟨hjn, hy.qOp hi H⟩
    · have := hend _ _ H j (ready_mono hj e)
      omega
  | succ f ih =>
    intro ld a inv hfree hr hy H
    refine ⟨fun e => (by rw [e] at hr; cases hr), fun j hj => ?_⟩
    have hjn : j < n := Nat.lt_of_not_le fun h => tail_waits hs hc hn inv _ i rfl hin (mem_ready.1 hr).1 j h hj
    refine ⟨hjn, ?_⟩
    by_cases e : j = i
    · subst e; exact hy.qOp hi H
    obtain ⟨hju, oj, hoj, hall⟩ := mem_ready.1 hj
    have hno : ∀ e ∈ oj.after, Region.binds md e = true → e.on ≠ i := fun x hx hb he => by
      have h1 := hall x hx hb
      rw [he, getD_both (mem_ready.1 hr).1] at h1
      cases h1
    have h2 := qOp_put hoj (hfree j oj hoj e hju hno) (fun cs b => hsel i oi cs b hi) (fun cs b => hsel j oj cs b hoj) hy (H.2 j (ready_mono hj e)).2
    refine qOp_mono (fun a' h3 => ih _ a' (inv.set hj hjn) ?_ (ready_mono hr (Ne.symm e)) h3.1 ?_) h2
    · intro k ok hk hki hu hn'
      by_cases hjk : j = k
      · subst hjk; exact hfree j ok hk hki hju hn'
      · exact hfree k ok hk hki (by rwa [getD_set_ne true hjk] at hu) hn'
    · rw [Array.setIfInBounds_comm _ _ e]
      exact h3.2
theorem wpHd_lex {n g : Nat} {R : Act → Prop} (hsel : Region.noSelect ops = true) (hs : Region.sinkB md ops n = true) (hc : Region.chainB md ops n = true) (hn : n < ops.size) :
    ∀ (l : List Oper) (k : Nat) (ld : Array Bool) (a : Act), (∀ j, j < l.length → l[j]? = ops[k + j]?) → k + l.length = n → HeadInv md ops n ld →
    Region.lexHead md ops g l.length k ld = true → wpQuiet P ops C R l a → wpHd P md ops C n (fun ld' a' => Region.seqB md ops g n ld' = true ∧ R a') l.length ld a
  | [], k, ld, a, _, hk, _, hB, h => by
    obtain rfl : k = n := by simpa using hk
    exact ⟨by simpa [Region.lexHead] using hB, h⟩
  | o :: l, k, ld, a, hl, hk, inv, hB, h => by
    have h0 : ops[k]? = some o := by simpa using (hl 0 (by simp)).symm
    simp only [List.length_cons, Region.lexHead, Bool.and_eq_true] at hB
    have hkn : k < n := by rw [List.length_cons] at hk; omega
    have hr : k ∈ Region.ready md ops ld := by simpa using hB.1.1
    obtain ⟨v, hy, hK⟩ := yieldsIn_of_qOp h0 (show qOp P ops C k (wpQuiet P ops C R l) a by unfold qOp; simp only [h0]; exact h)
    refine wpHd_first h0 (Region.noSelect_spec hsel) hs hc hn hkn (fun _ _ hL => seqB_ready hL.1) l.length ld a inv (Region.free_spec h0 hB.1.2) hr hy ?_
    exact wpHd_lex hsel hs hc hn l (k + 1) _ _ (fun j hj => by have := hl (j + 1) (by simp; omega); simpa [Nat.add_assoc, Nat.add_comm 1 j] using this) (by rw [List.length_cons] at hk; omega) (inv.set hr hkn) hB.2 hK
theorem wp_region_after_tail {id : Nat} {Q : Exit → Act → World → Prop} {a : Act} {w0 : World} {l : List Oper} (n : Nat) (hm : P.follows .mixedOrders = true) (hB : Region.lexTailB .any l.toArray n = true)
    (h : wpQuiet P l.toArray (fun w' => ∃ x : Aft w0, w' = x.w) (fun a' => ∀ w', (∃ x : Aft w0, w' = x.w) → wpList P l.toArray Q (l.drop n) a' w') (l.take n) a) : (Code.region id l.toArray true).wp P Q a w0 := by
  simp only [Region.lexTailB, Bool.and_eq_true, decide_eq_true_eq] at hB
  obtain ⟨⟨⟨⟨hsel, hn⟩, hs⟩, hc⟩, hlex⟩ := hB
  have hn' : n < l.length := by simpa using hn
  have htl : (l.take n).length = n := by simp; omega
  have hdl : (l.drop n).length = l.toArray.size - n := by simp
  have H := wpHd_lex (C := fun w' => ∃ x : Aft w0, w' = x.w) (md := .any) (g := l.toArray.size - n) hsel hs hc hn (l.take n) 0 (Array.replicate l.toArray.size false) a (fun j hj => by
    have hj' : j < n := by rw [htl] at hj; exact hj
    simp [hj']) (by simpa using htl) ⟨by simp, fun j oj _ hl => (by rw [getD_replicate_false] at hl; cases hl), fun t _ ht => getD_in (by simpa using ht) (getD_replicate_false _ _)⟩ (by rw [htl]; exact hlex) h
  refine wp_region_any hm ?_
  have h3 := wpAny_of_hd (Q := Q) (g := l.toArray.size - n) (fun ld a' w' hw hL => by
    have h4 := wpAny_of_seq (md := .any) (Q' := Q) (l.drop n) n ld a' w' (fun j => by simp [List.getElem?_drop]) (by rw [hdl]; exact hL.1) (hL.2 w' hw)
    rwa [hdl] at h4) _ _ _ w0.drew ⟨⟨_, (Below.refl _ w0).drew⟩, rfl⟩ H
  rw [htl, show n + (l.toArray.size - n) = l.toArray.size by omega] at h3
  exact h3
end
end Go.Proofs.YtfocooehnmpndaaGreat
namespace Go.Proofs.YtfocooehnmpndaaGreat
open Go.RowKit
namespace Dm
open At (Ref)
def Nd.d (x : Nd) : D := .agg [.int x.rule, .int x.up, .int x.pos, .sl (x.kids.map D.int)]
theorem nds_cells (l : List Nd) : ∀ d ∈ l.map Nd.d, d.cells = 4 := by
  intro d hd
  simp at hd
  obtain ⟨t, _, rfl⟩ := hd
  simp [Nd.d, D.cells, D.cellsAll]
theorem Rd.nd {S : Nat → Prop} {w : World} {x : Nd} {cs : List Value} (h : Rd S w x.d cs) : ∃ v, cs = [.int .i64 x.rule, .int .i64 x.up, .int .i64 x.pos, v] ∧ Rd S w (.sl (x.kids.map D.int)) [v] := by
  obtain ⟨c1, r1, rfl, h1, c2, r2, rfl, h2, c3, r3, rfl, h3, h4⟩ := h
  rw [RdAll.one_iff] at h4
  simp [Rd] at h1 h2 h3
  subst h1 h2 h3
  have h5 := h4
  obtain ⟨a, cap, L, e, _⟩ := h4
  subst e
  exact ⟨_, rfl, h5⟩
theorem Rd.nd_at {S : Nat → Prop} {w : World} {l : List Nd} {a : Option Addr} {n cap i : Nat} (h : Rd S w (.sl (l.map Nd.d)) [.slice a n cap]) (hi : i < l.length) :
    ∃ b off v, a = some ⟨b, off, none⟩ ∧ S b ∧ b < w.heap.size ∧ w.cell? ⟨b, off + i * 4, none⟩ = some (.int .i64 l[i].rule) ∧ w.cell? ⟨b, off + i * 4 + 1, none⟩ = some (.int .i64 l[i].up) ∧ w.cell? ⟨b, off + i * 4 + 2, none⟩ = some (.int .i64 l[i].pos) ∧ w.cell? ⟨b, off + i * 4 + 3, none⟩ = some v ∧ Rd S w (.sl (l[i].kids.map D.int)) [v] := by
  obtain ⟨b, off, cs, ha, hS, hlt, hr, hl, hc⟩ := h.at (nds_cells l) (by decide) (i := i) (by simpa using hi)
  simp at hr
  obtain ⟨v, rfl, hk⟩ := Rd.nd hr
  exact ⟨b, off, v, ha, hS, hlt, by simpa using hc 0 (by simp), by simpa [Nat.add_assoc] using hc 1 (by simp), by simpa [Nat.add_assoc] using hc 2 (by simp), by simpa [Nat.add_assoc] using hc 3 (by simp), hk⟩
def heldE : Value → Option (DataW Value × List MemPlace) := fun v => some (.held v, [])
def okQ (q : At.Eqn) : Prop := okS q.rule ∧ okS q.to'.at' ∧ okS q.to'.attr
def keyQ (q : At.Eqn) : Lit := kyL q.rule q.to'.at' q.to'.attr
def EqM (P : Nat → Prop) (eb : Nat) (K : List At.Eqn) (w : World) : Prop :=
  ∃ (D : DataW Value), w.ownsMap Tryz.prog 134 heldE eb K.length D ∧
    ∀ q ∈ K, ∃ v, (∀ zd, D.atKey (keyQ q) zd = .held (.agg #[.int .i64 q.is'.kind, .int .i64 q.is'.n, .int .i64 q.is'.ref.at', .int .i64 q.is'.ref.attr, v])) ∧ Rd P w (.sl (q.is'.args.map At.Expr.d)) [v]
theorem ownsMap_same {k : TypeId} {el : Value → Option (DataW Value × List MemPlace)} {b c : Nat} {D : DataW Value} {w w' : World} (h : w.ownsMap Tryz.prog k el b c D) (e : w'.heap[b]? = w.heap[b]?) : w'.ownsMap Tryz.prog k el b c D := by
  obtain ⟨es, ck, a1, a2⟩ := h
  exact ⟨es, ck, by rw [e]; exact a1, a2⟩
theorem EqM.keeps {P : Nat → Prop} {eb : Nat} {K : List At.Eqn} {w w' : World} {S : Nat → Prop} (h : EqM P eb K w) (hk : Keeps S w w') (he : ¬ S eb) (hP : ∀ k, P k → ¬ S k) : EqM P eb K w' := by
  obtain ⟨D, h1, h2⟩ := h
  refine ⟨D, ownsMap_same h1 (hk.block eb h1.lt he), fun q hq => ?_⟩
  obtain ⟨v, h3, h4⟩ := h2 q hq
  exact ⟨v, h3, h4.keep (fun k hk1 hk2 => ⟨hk1, hk.block k hk2 (hP k hk1)⟩)⟩
theorem EqM.start (P : Nat → Prop) (w : World) {b : Nat} (hb : b = w.heap.size) : EqM P b [] (w.alloc (.map #[] 0)) := by
  subst hb
  exact ⟨.map [], World.ownsMap_made w _ _ _, fun q hq => by cases hq⟩
theorem zeroExpr (w : World) : (zeroValue 86).run Tryz.prog w = .ok (.agg #[.int .i64 0, .int .i64 0, .int .i64 0, .int .i64 0, .slice none 0 0]) w := by
  obtain ⟨i, hi, hz, _⟩ := info_parts (show (Tryz.prog.info? 86).map (fun i => (i.zero, i.size, i.bytes)) = some (some (.agg #[.int .i64 0, .int .i64 0, .int .i64 0, .int .i64 0, .slice none 0 0]), 5, 56) by kernel_rfl)
  simp [zeroValue, typeInfo, hi, hz]
theorem EqM.look {P : Nat → Prop} {eb : Nat} {K : List At.Eqn} {w : World} (h : EqM P eb K w) {q : At.Eqn} (hq : q ∈ K) (hok : okQ q) :
    ∃ v, (∀ w', Below w.heap.size w w' → (Instr.lookup 128 (.map (some eb)) (.agg #[.int .i64 q.rule, .int .i64 q.to'.at', .int .i64 q.to'.attr]) false).run Tryz.prog w' = .ok (.agg #[.int .i64 q.is'.kind, .int .i64 q.is'.n, .int .i64 q.is'.ref.at', .int .i64 q.is'.ref.attr, v]) w') ∧ Rd P w (.sl (q.is'.args.map At.Expr.d)) [v] := by
  obtain ⟨D, h1, h2⟩ := h
  obtain ⟨v, h3, h4⟩ := h2 q hq
  refine ⟨v, fun w' hb => ?_, h4⟩
  obtain ⟨x, ps, hrun, hx⟩ := (ownsMap_same h1 (hb.block eb h1.lt)).lookup kyK Tryz.underlying128 (zeroExpr w') (zd := .held (.agg #[.int .i64 0, .int .i64 0, .int .i64 0, .int .i64 0, .slice none 0 0])) (zp := []) rfl (kyKey hok.1 hok.2.1 hok.2.2)
  have e : D.atKey (kyL q.rule q.to'.at' q.to'.attr) (.held (.agg #[.int .i64 0, .int .i64 0, .int .i64 0, .int .i64 0, .slice none 0 0])) = _ := h3 _
  rw [e] at hx
  simp [heldE] at hx
  rw [hrun, hx.1]
theorem EqM.store {P : Nat → Prop} {eb : Nat} {K : List At.Eqn} {w : World} (h : EqM P eb K w) {q : At.Eqn} (hok : okQ q) (hK : ∀ z ∈ K, okQ z) (hn : ∀ z ∈ K, ¬ (z.rule = q.rule ∧ z.to' = q.to')) (hlen : K.length ≤ 1000000) (hP : ¬ P eb) {v : Value} (hv : Rd P w (.sl (q.is'.args.map At.Expr.d)) [v]) :
    ∃ w', (Instr.mapUpdate 128 (.map (some eb)) (.agg #[.int .i64 q.rule, .int .i64 q.to'.at', .int .i64 q.to'.attr]) (.agg #[.int .i64 q.is'.kind, .int .i64 q.is'.n, .int .i64 q.is'.ref.at', .int .i64 q.is'.ref.attr, v])).run Tryz.prog w = .ok () w' ∧ EqM P eb (K ++ [q]) w' ∧ w.grownBy w' (some eb) := by
  obtain ⟨D, h1, h2⟩ := h
  obtain ⟨w', hrun, ho, ht⟩ := h1.store kyK Tryz.underlying128 (by unfold maxLen; omega) (kyKey hok.1 hok.2.1 hok.2.2) (val := .agg #[.int .i64 q.is'.kind, .int .i64 q.is'.n, .int .i64 q.is'.ref.at', .int .i64 q.is'.ref.attr, v]) (d := .held (.agg #[.int .i64 q.is'.kind, .int .i64 q.is'.n, .int .i64 q.is'.ref.at', .int .i64 q.is'.ref.attr, v])) (ps := []) rfl
  have hM := h1.isMap
  have hkk := kyK.key (kyKey hok.1 hok.2.1 hok.2.2)
  have hg := ht.grown
  refine ⟨w', hrun, ⟨_, by rw [List.length_append]; exact ho, fun z hz => ?_⟩, hg⟩
  have hrd : ∀ {l : List At.Expr} {u : Value}, Rd P w (.sl (l.map At.Expr.d)) [u] → Rd P w' (.sl (l.map At.Expr.d)) [u] := fun hr => hr.keep (fun k hk1 hk2 => ⟨hk1, hg.block k hk2 (fun e => by cases e; exact hP hk1)⟩)
  rcases List.mem_append.1 hz with hz | hz
  · obtain ⟨u, h3, h4⟩ := h2 z hz
    refine ⟨u, fun zd => ?_, hrd h4⟩
    have hne : keyQ z ≠ kyL q.rule q.to'.at' q.to'.attr := by
      intro e
      obtain ⟨e1, e2, e3⟩ := kyL_inj (hK z hz).1 (hK z hz).2.1 (hK z hz).2.2 hok.1 hok.2.1 hok.2.2 e
      refine hn z hz ⟨e1, ?_⟩
      have : ∀ (a b : Ref), a.at' = b.at' → a.attr = b.attr → a = b := by rintro ⟨_, _⟩ ⟨_, _⟩ rfl rfl; rfl
      exact this _ _ e2 e3
    rw [Maps.atKey_put_other hne]
    exact h3 zd
  · rw [List.mem_singleton] at hz
    subst hz
    exact ⟨v, fun zd => Maps.atKey_put_same hM hkk _ _, hrd hv⟩
end Dm
end Go.Proofs.YtfocooehnmpndaaGreat
namespace Go.Proofs.YtfocooehnmpndaaGreat
open Go.RowKit
namespace Dm
open At (Ref)
theorem bx_cells10 {w : World} {b : Nat} {x0 x1 x2 x3 x4 x5 x6 x7 x8 x9 : Value} {T : TypeId} (h : w.heap[b]? = some (.cells #[x0, x1, x2, x3, x4, x5, x6, x7, x8, x9] T (0, 0))) :
    w.cell? ⟨b, 0, none⟩ = some x0 ∧ w.cell? ⟨b, 0 + 1, none⟩ = some x1 ∧ w.cell? ⟨b, 0 + 2, none⟩ = some x2 ∧ w.cell? ⟨b, 0 + 3, none⟩ = some x3 ∧ w.cell? ⟨b, 0 + 4, none⟩ = some x4 ∧ w.cell? ⟨b, 0 + 5, none⟩ = some x5 ∧ w.cell? ⟨b, 0 + 6, none⟩ = some x6 ∧ w.cell? ⟨b, 0 + 7, none⟩ = some x7 ∧ w.cell? ⟨b, 0 + 8, none⟩ = some x8 ∧ w.cell? ⟨b, 0 + 9, none⟩ = some x9 := by
  refine ⟨?_, ?_, ?_, ?_, ?_, ?_, ?_, ?_, ?_, ?_⟩ <;> simp [World.cell?, h]
def PT (vb sb : Nat) : Nat → Prop := fun k => k ≠ vb ∧ k ≠ sb
def CT (vb sb : Nat) : Nat → Prop := fun k => k = vb ∨ k = sb
structure TbS (g : Gram) (s : At.Sys) (L : List Nd) (tb eb vb sb : Nat) (w : World) : Prop where
  hdr : ∃ ar cr aa ac qa qn qc na nc, w.heap[tb]? = some (.cells #[.int .i64 g.terms, .int .i64 g.nons, .int .i64 g.start, .slice ar g.rules.length cr, .slice aa s.attrs.length ac, .slice qa qn qc, .slice na L.length nc, .map (some eb), .map (some vb), .map (some sb)] 132 (0, 0)) ∧
    Rd (PT vb sb) w (.sl (g.rules.map Rule.d)) [.slice ar g.rules.length cr] ∧ Rd (PT vb sb) w (.sl (s.attrs.map At.Attr.d)) [.slice aa s.attrs.length ac] ∧ Rd (PT vb sb) w (.sl (L.map Nd.d)) [.slice na L.length nc]
  eqs : EqM (PT vb sb) eb s.eqs w
  ne : tb ≠ vb ∧ tb ≠ sb ∧ eb ≠ vb ∧ eb ≠ sb ∧ vb ≠ sb
section
variable {g : Gram} {s : At.Sys} {L : List Nd} {tb eb vb sb : Nat} {w w' : World}
theorem TbS.keeps (h : TbS g s L tb eb vb sb w) (hk : Keeps (CT vb sb) w w') : TbS g s L tb eb vb sb w' := by
  obtain ⟨⟨ar, cr, aa, ac, qa, qn, qc, na, nc, h1, h2, h3, h4⟩, h5, h6⟩ := h
  have hp : ∀ k, PT vb sb k → k < w.heap.size → PT vb sb k ∧ w'.heap[k]? = w.heap[k]? := fun k hk1 hk2 => ⟨hk1, hk.block k hk2 (fun e => by unfold CT at e; unfold PT at hk1; omega)⟩
  refine ⟨⟨ar, cr, aa, ac, qa, qn, qc, na, nc, hk.cells h1 (by unfold CT; omega), h2.keep hp, h3.keep hp, h4.keep hp⟩, h5.keeps hk (by unfold CT; omega) (fun k hk1 => by unfold CT; unfold PT at hk1; omega), h6⟩
theorem TbS.below (h : TbS g s L tb eb vb sb w) (hb : Below w.heap.size w w') : TbS g s L tb eb vb sb w' := h.keeps (Below.keeps hb)
end
def AttrsPost (g : Gram) (s : At.Sys) (L : List Nd) (n : Nat) (W : World) (e : Ending) (w' : World) : Prop := ∃ v, e = .returned v ∧ w'.ownsRow W.heap.size 3 1 v (attrsAt g s L n).length (ints (natI (attrsAt g s L n))) ∧ Below W.heap.size W w'
set_option maxHeartbeats 2000000 in
set_option maxRecDepth 100000 in
theorem attrsE (g : Gram) (s : At.Sys) (L : List Nd) (tb eb vb sb : Nat) (n : Nat) (W : World) (h : TbS g s L tb eb vb sb W) (hn : n < L.length) (hr : L[n].rule < (g.rules.length : Int)) (hbig : s.attrs.length ≤ 10000000) :
    Calls Tryz.prog 40 #[.pointer (some ⟨tb, 0, none⟩), .int .i64 n] W (AttrsPost g s L n W) := by
  obtain ⟨⟨ar, cr, aa, ac, qa, qn, qc, na, nc, h1, h2, h3, h4⟩, h5, h6⟩ := h
  obtain ⟨PST, HP⟩ := nameIt (AttrsPost g s L n W)
  have hnd : ndAt L n = L[n] := by unfold ndAt; rw [List.getElem?_eq_getElem hn]; rfl
  have HAE : Hid (attrsAt g s L n = if L[n].rule < 0 then [] else attrsOf s.attrs (leftOf g L[n].rule)) := by show _ = _; unfold attrsAt; rw [hnd]
  have HFIN : Hid (∀ v w', w'.ownsRow W.heap.size 3 1 v (attrsAt g s L n).length (ints (natI (attrsAt g s L n))) → Below W.heap.size W w' → PST (.returned v) w') := fun v w' h1 h2 => by rw [← HP.out]; exact ⟨v, rfl, h1, h2⟩
  rw [HP.out]
  clear HP hnd
  obtain ⟨hg1, hg2⟩ := h2.bounds.2
  obtain ⟨hn1, hn2⟩ := h4.bounds.2
  unfold maxLen at hg2 hn2
  obtain ⟨nb, no, vk, hne, -, hnl, d0, d1, d2, d3, -⟩ := Rd.nd_at h4 hn
  have HOF := Lib.hid (fun (non : Int) (w' : World) (hb : Below W.heap.size W w') => ofE s non aa ac (.slice qa qn qc) w' (h3.any.below hb) hbig)
  have HL := Lib.hid hn
  have HRR := Lib.hid h2
  obtain ⟨x, HX⟩ := nameIt (L[n]'hn)
  rw [HX.out] at d0 d1 d2 hr HAE
  obtain ⟨nr, HNR⟩ := nameIt x.rule
  obtain ⟨nu, HNU⟩ := nameIt x.up
  obtain ⟨np, HNP⟩ := nameIt x.pos
  rw [HNR.out] at d0 hr HAE
  rw [HNU.out] at d1
  rw [HNP.out] at d2
  obtain ⟨LN, HLN⟩ := nameIt L.length
  obtain ⟨K, HKn⟩ := nameIt g.rules.length
  obtain ⟨AN, HAN⟩ := nameIt s.attrs.length
  obtain ⟨gt, HGT⟩ := nameIt g.terms
  obtain ⟨gn, HGN⟩ := nameIt g.nons
  obtain ⟨gs, HGS⟩ := nameIt g.start
  rw [HGT.out, HGN.out, HGS.out, HKn.out, HAN.out, HLN.out] at h1
  rw [HLN.out] at hn hn1
  rw [HKn.out] at hr hg1 HRR
  simp only [HAN.out] at HOF
  obtain ⟨x0, x1, x2, x3, x4, x5, x6, x7, x8, x9⟩ := bx_cells10 h1
  have hn' : (n : Int) < (LN : Int) := by omega
  have hnc : (n : Int) ≤ (nc : Int) := by omega
  have hlt := (Array.getElem?_eq_some_iff.1 h1).1
  subst hne
  clear h1 h2 h3 h4 h5 h6 hbig
  by_cases hneg : nr < 0
  · have k1 : decide (nr < 0) = true := by simpa using hneg
    have HE : Hid (attrsAt g s L n = []) := by show _ = _; rw [HAE.out, if_pos hneg]
    clear hneg hr
    go_enter Tryz.func40, Tryz.ntmps40
    go_wp2_with fail
    exact HFIN.out _ _ (by rw [HE.out]; exact World.ownsRow_nil _ _ _ _) (Below.refl _ _)
  · have k1 : decide (nr < 0) = false := by simpa using hneg
    obtain ⟨ri, rfl⟩ : ∃ ri : Nat, nr = (ri : Int) := ⟨nr.toNat, by omega⟩
    have hrl : ri < g.rules.length := by rw [HKn.out]; omega
    have hrK : (ri : Int) < (K : Int) := hr
    have hrc : (ri : Int) ≤ (cr : Int) := by omega
    obtain ⟨rb, ro, vr, hre, -, hrb, e0, e1, -⟩ := HRR.out.rule_at hrl
    have HE : Hid (attrsAt g s L n = attrsOf s.attrs (g.rules[ri]'hrl).left) := by show _ = _; rw [HAE.out, if_neg hneg, leftOf_at hrl]
    obtain ⟨lf, HLF⟩ := nameIt (g.rules[ri]'hrl).left
    rw [HLF.out] at e0 HE
    have HOF2 := Lib.hid (fun w' hb => HOF.out lf w' hb)
    subst hre
    clear hneg hr HOF
    go_enter Tryz.func40, Tryz.ntmps40
    go_upto_region 3 with fail
    have ax3 := aft_cell x3
    have ax4 := aft_cell x4
    have ax5 := aft_cell x5
    have ax6 := aft_cell x6
    have ad0 := aft_cell d0
    have ae0 := aft_cell e0
    refine wp_region_after_tail 20 (by kernel_rfl) (by kernel_rfl) ?_
    simp only [List.take_succ_cons, List.take_zero, List.drop_succ_cons, List.drop_zero]
    repeat (go_big_quiet_step (fail))
    refine wpQuiet_nil ?_
    rintro w6 ⟨⟨_, hb6⟩, rfl⟩
    have HB6 : Hid (Below W.heap.size W w6) := hb6
    clear ax3 ax4 ax5 ax6 ad0 ae0 hb6 x0 x1 x2 x3 x4 x5 x6 x7 x8 x9 d0 d1 d2 d3 e0
    go_wp2_with fail
    refine (HOF2.out w6 HB6.out).mono ?_
    rintro e w7 ⟨v7, rfl, ho7, hb7⟩
    have HB7 : Hid (Below W.heap.size W w7) := HB6.out.trans (hb7.mono HB6.out.size)
    have HO7 : Hid (w7.ownsRow W.heap.size 3 1 v7 (attrsAt g s L n).length (ints (natI (attrsAt g s L n)))) := by rw [HE.out]; exact World.ownsRow.mono ho7 HB6.out.size
    clear ho7 hb7
    go_wp2_with fail
    exact HFIN.out _ _ HO7.out HB7.out
end Dm
end Go.Proofs.YtfocooehnmpndaaGreat
namespace Go.Proofs.YtfocooehnmpndaaGreat
open Go.RowKit
namespace Dm
open At (Ref)
def atP (L : List Nd) (n : Nat) (r : Ref) (m a : Nat) : Prop := r.attr = (a : Int) ∧ (r.at' = 0 ∧ m = n ∨ ∃ k : Nat, r.at' = ((k + 1 : Nat) : Int) ∧ k < (ndAt L n).kids.length ∧ (ndAt L n).kids[k]? = some (m : Int))
theorem below_set2 {W w0 w' : World} {b : Nat} (h0 : Below W.heap.size W w0) (hb : Below w0.heap.size w0 w') (hB : W.heap.size ≤ b) (x y : Value) : Below W.heap.size W ((w'.setCell ⟨b, 0, none⟩ x).setCell ⟨b, 0 + 1, none⟩ y) :=
  ((h0.trans (hb.mono h0.size)).setCell hB _).setCell hB _
set_option maxHeartbeats 2000000 in
set_option maxRecDepth 100000 in
theorem placeE (g : Gram) (s : At.Sys) (L : List Nd) (tb eb vb sb : Nat) (n : Nat) (r : Ref) (m a : Nat) (W : World) (h : TbS g s L tb eb vb sb W) (hn : n < L.length) (hr : atP L n r m a) :
    Calls Tryz.prog 84 #[.pointer (some ⟨tb, 0, none⟩), .int .i64 n, .agg #[.int .i64 r.at', .int .i64 r.attr]] W fun e w' => e = .returned (.agg #[.int .i64 m, .int .i64 a]) ∧ Below W.heap.size W w' := by
  obtain ⟨⟨ar, cr, aa, ac, qa, qn, qc, na, nc, h1, h2, h3, h4⟩, h5, h6⟩ := h
  obtain ⟨hn1, hn2⟩ := h4.bounds.2
  unfold maxLen at hn2
  obtain ⟨rat, rattr⟩ := r
  obtain ⟨hra, hcase⟩ := hr
  simp only at hra hcase ⊢
  subst hra
  have hnd : ndAt L n = L[n] := by unfold ndAt; rw [List.getElem?_eq_getElem hn]; rfl
  rw [hnd] at hcase
  obtain ⟨w0, HW0⟩ := nameIt ((W.alloc (.cells #[.int .i64 rat, .int .i64 (a : Int)] 83)).alloc (.cells #[.int .i64 0, .int .i64 0] 104))
  have hb0 : Below W.heap.size W w0 := by rw [← HW0.out]; exact ((Below.refl _ _).alloc (Nat.le_refl _) _).alloc (by simp) _
  have X1 : Hid (w0.heap[W.heap.size]? = some (.cells #[.int .i64 rat, .int .i64 (a : Int)] 83 (0, 0))) := by rw [← HW0.out]; exact bx_keep (bx_new _ _ _ rfl) ((Below.refl _ _).alloc (Nat.le_refl _) _)
  have X2 : Hid (w0.heap[W.heap.size + 1]? = some (.cells #[.int .i64 0, .int .i64 0] 104 (0, 0))) := by rw [← HW0.out]; exact bx_new _ _ _ (by simp)
  have HB0 := Lib.hid hb0
  have HEND : Hid (∀ w', Below w0.heap.size w0 w' → Below W.heap.size W ((w'.setCell ⟨W.heap.size + 1, 0, none⟩ (.int .i64 m)).setCell ⟨W.heap.size + 1, 0 + 1, none⟩ (.int .i64 a))) := fun w' hb => below_set2 hb0 hb (by omega) _ _
  obtain ⟨y0, y1⟩ := bx_cells2 X1.out
  have hl1 : W.heap.size < w0.heap.size := (Array.getElem?_eq_some_iff.1 X1.out).1
  have hl2 : W.heap.size + 1 < w0.heap.size := (Array.getElem?_eq_some_iff.1 X2.out).1
  have HLT := Lib.hid hl2
  rcases hcase with ⟨rfl, rfl⟩ | ⟨k, rfl, hk, hkm⟩
  · obtain ⟨z0, z1⟩ := bx_cells2 X2.out
    obtain ⟨f0, f1⟩ := bx_free2 X2.out
    have HE := Lib.hid (HEND.out w0 (Below.refl _ _))
    clear h1 h2 h3 h4 h5 h6 hnd hb0
    go_enter Tryz.func84, Tryz.ntmps84
    go_upto_region 1 with fail
    rw [HW0.out]
    clear HW0
    go_wp2_with fail
    refine bodyPost_ret (v := .agg #[.int .i64 m, .int .i64 a]) (by simp [results, Tryz.results84, go_sem, z0, z1]) rfl ?_
    exact ⟨rfl, HE.out⟩
  · obtain ⟨nb, no, vk, hne, -, hnl, d0, d1, d2, d3, hkr⟩ := Rd.nd_at h4 hn
    obtain ⟨x, HX⟩ := nameIt (L[n]'hn)
    rw [HX.out] at hk hkm hkr
    have hsl := sl_rd hkr
    obtain ⟨ka, kc, rfl⟩ := hsl.form
    rw [ints_len] at hsl
    have hslb := hsl.len.2
    unfold maxLen at hslb
    obtain ⟨kb, ko, hke, hkc⟩ := hsl.at hk
    have c0 := hkc k (by rw [ints_len]; exact hk)
    have hgk : (ints x.kids)[k]'(by rw [ints_len]; exact hk) = .int .i64 (m : Int) := by
      have := (List.getElem?_eq_some_iff.1 hkm).2
      unfold ints
      rw [List.getElem_map, this]
    rw [hgk] at c0
    rw [ints_len] at d3
    obtain ⟨KL, HKL⟩ := nameIt x.kids.length
    rw [HKL.out] at d3 hslb hk
    have HR4 := Lib.hid h4
    obtain ⟨LN, HLN⟩ := nameIt L.length
    obtain ⟨K, HKn⟩ := nameIt g.rules.length
    obtain ⟨AN, HAN⟩ := nameIt s.attrs.length
    obtain ⟨gt, HGT⟩ := nameIt g.terms
    obtain ⟨gn, HGN⟩ := nameIt g.nons
    obtain ⟨gs, HGS⟩ := nameIt g.start
    rw [HGT.out, HGN.out, HGS.out, HKn.out, HAN.out, HLN.out] at h1
    rw [HLN.out] at hn hn1
    have h1' := bx_keep h1 hb0
    obtain ⟨x0, x1, x2, x3, x4, x5, x6, x7, x8, x9⟩ := bx_cells10 h1'
    have hn' : (n : Int) < (LN : Int) := by omega
    have hnc : (n : Int) ≤ (nc : Int) := by omega
    have hlt := (Array.getElem?_eq_some_iff.1 h1').1
    replace d3 := (hb0.cell (lt_of_cell d3)).trans d3
    replace c0 := (hb0.cell (lt_of_cell c0)).trans c0
    have k1 : (((k + 1 : Nat) : Int) == 0) = false := by simp; try omega
    have k2 : IntKind.i64.wrap (((k + 1 : Nat) : Int) - 1) = (k : Int) := by rw [IntWalk.i64_in _ (by omega)]; omega
    have hkk : (k : Int) < (KL : Int) := by omega
    have hkkc : (k : Int) ≤ (kc : Int) := by omega
    subst hne hke
    obtain ⟨k1n, HK1⟩ := nameIt ((k + 1 : Nat) : Int)
    rw [HK1.out] at k1 k2 y0 HW0 X1
    rw [HK1.out]
    clear h1 h1' h2 h3 h4 h5 h6 hnd hkr hsl hslb hkc hgk hkm d0 d1 d2
    have HHB := Lib.hid hb0
    clear hb0
    go_enter Tryz.func84, Tryz.ntmps84
    go_upto_region 1 with fail
    rw [HW0.out]
    clear HW0
    go_upto_region 3 with fail
    have ax6 := aft_cell x6
    have ad3 := aft_cell d3
    have ac0 := aft_cell c0
    have ay0 := aft_cell y0
    have ay1 := aft_cell y1
    refine wp_region_after_tail 15 (by kernel_rfl) (by kernel_rfl) ?_
    simp only [List.take_succ_cons, List.take_zero, List.drop_succ_cons, List.drop_zero]
    repeat (go_big_quiet_step (fail))
    refine wpQuiet_nil ?_
    rintro w6 ⟨⟨_, hb6⟩, rfl⟩
    have HE := Lib.hid (HEND.out w6 hb6)
    obtain ⟨z0, z1⟩ := bx_cells2 (bx_keep X2.out hb6)
    obtain ⟨f0, f1⟩ := bx_free2 (bx_keep X2.out hb6)
    clear ax6 ad3 ac0 ay0 ay1 hb6 x0 x1 x2 x3 x4 x5 x6 x7 x8 x9 d3 c0 y0 y1
    go_wp2_with fail
    refine bodyPost_ret (v := .agg #[.int .i64 m, .int .i64 a]) (by simp [results, Tryz.results84, go_sem, z0, z1]) rfl ?_
    exact ⟨rfl, HE.out⟩
end Dm
end Go.Proofs.YtfocooehnmpndaaGreat
namespace Go.Proofs.YtfocooehnmpndaaGreat
open Go.RowKit
namespace At
def CopyPost (x : Expr) (w : World) (e : Ending) (w' : World) : Prop :=
  ∃ v, e = .returned (.agg #[.int .i64 x.kind, .int .i64 x.n, .int .i64 x.ref.at', .int .i64 x.ref.attr, v]) ∧ Rd (fun k => w.heap.size ≤ k) w' (.sl (x.args.map Expr.d)) [v] ∧ Below w.heap.size w w'
structure ERow (T : Nat → Prop) (B b : Nat) (k n a t : Int) (xs : List Expr) (vr : Value) (wr : World) : Prop where
  out : wr.heap[b]? = some (.cells #[.int .i64 k, .int .i64 n, .int .i64 a, .int .i64 t, vr] 86 (0, 0))
  own : ∃ cs, wr.ownsRow B 86 5 vr xs.length cs ∧ RdAll (fun k => T k ∧ vr.ownBlock ≠ some k) wr (xs.map Expr.d) cs
  lt : b < B
  nt : ¬ T b
  le : B ≤ wr.heap.size
theorem ERow.len {T : Nat → Prop} {B b : Nat} {k n a t : Int} {xs : List Expr} {vr : Value} {wr : World} (h : ERow T B b k n a t xs vr wr) : ∃ ad cap, vr = .slice ad xs.length cap ∧ xs.length ≤ cap ∧ cap ≤ maxLen := by
  obtain ⟨cs, h1, _⟩ := h.own; exact own_len h1
theorem ERow.keep {T : Nat → Prop} {B b : Nat} {k n a t : Int} {xs : List Expr} {vr : Value} {wr w' : World} (h : ERow T B b k n a t xs vr wr) (hb : Below wr.heap.size wr w') : ERow T B b k n a t xs vr w' := by
  obtain ⟨cs, h1, h2⟩ := h.own
  exact ⟨bx_keep h.out hb, ⟨cs, own_keep h1 hb, h2.below hb⟩, h.lt, h.nt, Nat.le_trans h.le hb.size⟩
theorem ERow.step {T : Nat → Prop} {B b g cap m : Nat} {k n a t : Int} {xs : List Expr} {x : Expr} {vr v : Value} {w2 w3 : World} {cs : List Value} (h : ERow T B b k n a t xs vr w2) (hn : xs.length = m) (ho : w2.ownsRow B 86 5 vr m cs) (hd : RdAll (fun k => T k ∧ vr.ownBlock ≠ some k) w2 (xs.map Expr.d) cs)
    (hr : Rd (fun k => T k ∧ vr.ownBlock ≠ some k) w2 (.sl (x.args.map Expr.d)) [v])
    (ho3 : w3.ownsRow B 86 5 (.slice (some ⟨g, 0, none⟩) (m + 1) cap) (m + 1) (cs ++ [.int .i64 x.kind, .int .i64 x.n, .int .i64 x.ref.at', .int .i64 x.ref.attr, v])) (hg : w2.grownBy w3 vr.ownBlock) (hat : vr.ownBlock = some g ∨ w2.heap.size ≤ g) :
    w3.heap[b]? = some (.cells #[.int .i64 k, .int .i64 n, .int .i64 a, .int .i64 t, vr] 86 (0, 0)) ∧ ERow T B b k n a t (xs ++ [x]) (.slice (some ⟨g, 0, none⟩) (m + 1) cap) (w3.setCell ⟨b, 4, none⟩ (.slice (some ⟨g, 0, none⟩) (m + 1) cap)) := by
  have hlt := (Array.getElem?_eq_some_iff.1 h.out).1
  have hb3 : w3.heap[b]? = some (.cells #[.int .i64 k, .int .i64 n, .int .i64 a, .int .i64 t, vr] 86 (0, 0)) := by
    rw [hg.block b hlt (fun e => by have := (ho.lt b e.symm).1; have := h.lt; omega)]; exact h.out
  have hne : b ≠ g := by
    have h1 := (ho3.lt g rfl).1
    have := h.lt; omega
  refine ⟨hb3, ?_, ⟨cs ++ [.int .i64 x.kind, .int .i64 x.n, .int .i64 x.ref.at', .int .i64 x.ref.attr, v], ?_, ?_⟩, h.lt, h.nt, by simp [World.setCell]; exact Nat.le_trans h.le hg.size⟩
  · rw [bx_set hb3]; rfl
  · rw [List.length_append, hn]
    exact ho3.kept (grown_cell w3 ⟨b, 4, none⟩ _) (.inr (by simpa [Value.ownBlock] using fun e => hne e.symm))
  · have h1 := own_step (S := T) (v' := .slice (some ⟨g, 0, none⟩) (m + 1) cap) hd (RdAll.one (rd_expr hr)) hg (by
      rcases hat with e | e
      · exact .inl e.symm
      · exact .inr ⟨g, rfl, e⟩)
    rw [List.map_append]
    refine RdAll.keep (fun k hk _ => ⟨hk, Below.heap_setCell _ _ _ _ ?_⟩) _ _ h1
    intro e
    simp at e
    subst e
    exact h.nt hk.1
theorem bx_free5 {w : World} {b : Nat} {x0 x1 x2 x3 x4 : Value} {T : TypeId} (h : w.heap[b]? = some (.cells #[x0, x1, x2, x3, x4] T (0, 0))) :
    w.frozen? ⟨b, 0, none⟩ = false ∧ w.frozen? ⟨b, 0 + 1, none⟩ = false ∧ w.frozen? ⟨b, 0 + 2, none⟩ = false ∧ w.frozen? ⟨b, 0 + 3, none⟩ = false ∧ w.frozen? ⟨b, 0 + 4, none⟩ = false := by
  refine ⟨?_, ?_, ?_, ?_, ?_⟩ <;> simp [World.frozen?, h]
theorem set5 {w : World} {b : Nat} {x0 x1 x2 x3 x4 : Value} {T : TypeId} (h : w.heap[b]? = some (.cells #[x0, x1, x2, x3, x4] T (0, 0))) (v : Value) : (w.setCell ⟨b, 4, none⟩ v).heap[b]? = some (.cells #[x0, x1, x2, x3, v] T (0, 0)) := by
  rw [bx_set h]; rfl
structure ECopy (x : Expr) (w : World) (i : Nat) (vr : Value) (wr : World) : Prop where
  row : ERow (fun k => w.heap.size + 1 + 1 + 1 ≤ k) (w.heap.size + 1 + 1 + 1) (w.heap.size + 1 + 1) x.kind x.n x.ref.at' x.ref.attr (x.args.take i) vr wr
  res : wr.heap[w.heap.size + 1]? = some (.cells #[.int .i64 0, .int .i64 0, .int .i64 0, .int .i64 0, .slice none 0 0] 86 (0, 0))
  bel : Below w.heap.size w wr
theorem sizeL_get {l : List Expr} {i : Nat} (h : i < l.length) : l[i].size ≤ sizeL l := by have := sizeL_kid h; omega
set_option maxHeartbeats 4000000 in
set_option maxRecDepth 100000 in
theorem copyExprE : ∀ (m : Nat) (x : Expr) (v : Value) (w : World), x.size ≤ m → m ≤ 1048576 → Rd AnyB w (.sl (x.args.map Expr.d)) [v] →
    Calls Tryz.prog 77 #[.agg #[.int .i64 x.kind, .int .i64 x.n, .int .i64 x.ref.at', .int .i64 x.ref.attr, v]] w (CopyPost x w) := by
  intro m
  induction m with
  | zero => intro x v w hm; have := x.size_pos; omega
  | succ m ih =>
  intro x v w hm hM hv
  obtain ⟨a, cap, rfl, hc1, hc2⟩ := hv.form
  have hlen : x.args.length ≤ m := by have := sizeL_len x.args; rw [Expr.size_eq] at hm; omega
  have HV := Lib.hid hv
  have HM := Lib.hid hm
  have IH := Lib.hid (fun x v w h => ih x v w h (by omega))
  obtain ⟨r0, HR0⟩ := nameIt x.kind
  obtain ⟨r1, HR1⟩ := nameIt x.n
  obtain ⟨r2, HR2⟩ := nameIt x.ref.at'
  obtain ⟨r3, HR3⟩ := nameIt x.ref.attr
  obtain ⟨K, HKN⟩ := nameIt x.args
  rw [List.length_map, HKN.out] at hc1
  rw [HKN.out] at hlen
  rw [List.length_map, HKN.out] at HV
  rw [HR0.out, HR1.out, HR2.out, HR3.out, List.length_map, HKN.out]
  unfold maxLen at hc2
  clear hv hm ih
  obtain ⟨wa, HWA⟩ := nameIt ((w.alloc (.cells #[.int .i64 r0, .int .i64 r1, .int .i64 r2, .int .i64 r3, .slice a K.length cap] 86)).alloc (.cells #[.int .i64 0, .int .i64 0, .int .i64 0, .int .i64 0, .slice none 0 0] 86))
  have hba : Below w.heap.size w wa := by rw [← HWA.out]; exact ((Below.refl _ _).alloc (Nat.le_refl _) _).alloc (by simp) _
  have XA := Lib.hid (show wa.heap[w.heap.size]? = some (.cells #[.int .i64 r0, .int .i64 r1, .int .i64 r2, .int .i64 r3, .slice a K.length cap] 86 (0, 0)) by rw [← HWA.out]; exact bx_keep (bx_new _ _ _ rfl) ((Below.refl _ _).alloc (Nat.le_refl _) _))
  have XR := Lib.hid (show wa.heap[w.heap.size + 1]? = some (.cells #[.int .i64 0, .int .i64 0, .int .i64 0, .int .i64 0, .slice none 0 0] 86 (0, 0)) by rw [← HWA.out]; exact bx_new _ _ _ (by simp))
  have hsa : wa.heap.size = w.heap.size + 1 + 1 := by rw [← HWA.out]; simp
  have HSA := Lib.hid hsa
  obtain ⟨wb, HWB⟩ := nameIt (wa.alloc (.cells #[.int .i64 r0, .int .i64 r1, .int .i64 r2, .int .i64 r3, .slice a K.length cap] 86))
  have hbb : Below wa.heap.size wa wb := by rw [← HWB.out]; exact (Below.refl _ _).alloc (Nat.le_refl _) _
  have XB := Lib.hid (show wb.heap[w.heap.size + 1 + 1]? = some (.cells #[.int .i64 r0, .int .i64 r1, .int .i64 r2, .int .i64 r3, .slice a K.length cap] 86 (0, 0)) by rw [← HWB.out]; exact bx_new _ _ _ hsa.symm)
  have XAB := Lib.hid (bx_keep XA.out hbb)
  have hsb : wb.heap.size = w.heap.size + 1 + 1 + 1 := by rw [← HWB.out]; simp; omega
  obtain ⟨w0, HW0⟩ := nameIt (wb.setCell ⟨w.heap.size + 1 + 1, 4, none⟩ (.slice none 0 0))
  have HI0 : Hid (ECopy x w 0 (.slice none 0 0) w0) := by
    rw [← HW0.out]
    refine ⟨⟨?_, ⟨[], by simpa using World.ownsRow_nil _ _ _ _, by simp [RdAll]⟩, by omega, by omega, by simp [World.setCell]; omega⟩, ?_, ?_⟩
    · rw [HR0.out, HR1.out, HR2.out, HR3.out]; exact set5 XB.out _
    · exact bx_other (bx_keep XR.out hbb) (by omega) _ _
    · exact (hba.trans (hbb.mono hba.size)).setCell (by show w.heap.size ≤ w.heap.size + 1 + 1; omega) _
  have XA0 : Hid (w0.heap[w.heap.size]? = some (.cells #[.int .i64 r0, .int .i64 r1, .int .i64 r2, .int .i64 r3, .slice a K.length cap] 86 (0, 0))) := by rw [← HW0.out]; exact bx_other XAB.out (by omega) _ _
  obtain ⟨x0, x1, x2, x3, x4⟩ := bx_cells5 XA.out
  clear hba hbb hsa hsb
  go_enter Tryz.func77, Tryz.ntmps77
  go_upto_region 1 with fail
  rw [HWA.out]
  go_upto_region 2 with fail
  rw [HWB.out, HSA.out]
  clear x0 x1 x2 x3 x4
  obtain ⟨x0, x1, x2, x3, x4⟩ := bx_cells5 XB.out
  obtain ⟨f0, f1, f2, f3, f4⟩ := bx_free5 XB.out
  go_upto_region 3 with fail
  rw [HW0.out]
  clear x0 x1 x2 x3 x4 f0 f1 f2 f3 f4
  obtain ⟨x0, x1, x2, x3, x4⟩ := bx_cells5 XA0.out
  go_wp2_with fail
  clear x0 x1 x2 x3 x4
  go_loopg [11] K.length (fun gg v11 wr => ∃ (i : Nat) (vr : Value), i ≤ K.length ∧ K.length - i ≤ gg ∧ v11 = .int .i64 i ∧ Hid (ECopy x w i vr wr))
  case atStart => exact ⟨0, _, by omega, by omega, rfl, HI0⟩
  case round =>
    clear HI0 HW0 XA0 XAB XB XA XR HWB HWA HSA
    obtain ⟨i, vr, hi, hg, rfl, HR⟩ := hrel
    by_cases hlt : i < K.length
    · have hlt' : (i : Int) < (K.length : Int) := by omega
      obtain ⟨b, off, v, hae, -, hbl, e0, e1, e2, e3, e4, hkid⟩ := Rd.arg (HV.out.below HR.out.bel) hlt
      obtain ⟨av, cv, rfl, -, -⟩ := hkid.form
      rw [List.length_map] at e4 hkid
      have hms : K[i].size ≤ m := by
        have h1 := HM.out
        rw [Expr.size_eq, HKN.out] at h1
        have := sizeL_get hlt
        omega
      have hih := fun W (hb : Below wr.heap.size wr W) => IH.out K[i] _ W hms (hkid.below hb)
      obtain ⟨kid, HKI⟩ := nameIt (K[i]'hlt)
      rw [HKI.out] at e0 e1 e2 e3 e4 hih
      obtain ⟨q0, HQ0⟩ := nameIt kid.kind
      obtain ⟨q1, HQ1⟩ := nameIt kid.n
      obtain ⟨q2, HQ2⟩ := nameIt kid.ref.at'
      obtain ⟨q3, HQ3⟩ := nameIt kid.ref.attr
      obtain ⟨nv, HNV⟩ := nameIt kid.args.length
      rw [HQ0.out] at e0
      rw [HQ1.out] at e1
      rw [HQ2.out] at e2
      rw [HQ3.out] at e3
      rw [HNV.out] at e4
      simp only [HQ0.out, HQ1.out, HQ2.out, HQ3.out, HNV.out] at hih
      have HIH := Lib.hid hih
      have htl : (x.args.take i).length = i := by rw [HKN.out]; simp; omega
      obtain ⟨ar, cr, hvr, hr1, hr2⟩ := HR.out.row.len
      rw [htl] at hvr hr1
      subst hvr
      obtain ⟨xs, ho, hd⟩ := HR.out.row.own
      rw [htl] at ho
      have hout := HR.out.row.out
      rw [HR0.out, HR1.out, HR2.out, HR3.out] at hout
      obtain ⟨z0, z1, z2, z3, z4⟩ := bx_cells5 hout
      have hsz := HR.out.row.le
      have hszr : w.heap.size + 1 + 1 < wr.heap.size := by omega
      have HO := Lib.hid ho
      have HD := Lib.hid hd
      have HTL := Lib.hid htl
      subst hae
      clear hih hkid hms hout ho hd htl
      go_wp2_with fail
      go_region_law
        (first
          | (refine step_app1 elExpr (by rfl) _ _ (by rfl) (own_keep HO.out HBW.out) (by rfl) (by rfl) rfl (by rfl) (by rfl) (by omega) (by unfold maxLen; omega) (by have := HBW.out.size; omega) ?_; intro g cap3 w3 ho3 hg3 hat3 hlt3; have hst := ERow.step (HR.out.row.keep HBW.out) HTL.out (own_keep HO.out HBW.out) (HD.out.below HBW.out) (x := kid) (HR2.out.mono (fun k hk _ => ⟨by have h : wr.heap.size + 1 ≤ k := (by simpa using hk); omega, fun e => by have h : wr.heap.size + 1 ≤ k := (by simpa using hk); have := (HO.out.lt _ e).2; omega⟩)) (by rw [HQ0.out, HQ1.out, HQ2.out, HQ3.out]; exact ho3) hg3 hat3; have hx5 : w3.heap[wr.heap.size]? = some (.cells #[.int .i64 q0, .int .i64 q1, .int .i64 q2, .int .i64 q3, .slice av nv cv] 86 (0, 0)) := (by rw [hg3.block _ hz2 (fun e => by have := (HO.out.lt _ e.symm).2; omega)]; exact HBX.out); obtain ⟨_, _, _, _, j0⟩ := bx_cells5 hst.1; obtain ⟨j1, j2, j3, j4, j5⟩ := bx_cells5 hx5; obtain ⟨_, _, _, _, jf⟩ := bx_free5 hst.1; have HST := Lib.hid hst.2; have HRES : Hid (w3.heap[w.heap.size + 1]? = some (.cells #[.int .i64 0, .int .i64 0, .int .i64 0, .int .i64 0, .slice none 0 0] 86 (0, 0))) := (by show _ = _; rw [hg3.block _ (by omega) (fun e => by have := (HO.out.lt _ e.symm).1; omega)]; exact bx_keep HR.out.res HBW.out); have HB3 : Hid (Below w.heap.size w w3) := (HR.out.bel.trans (HBW.out.mono HR.out.bel.size)).grown hg3 (by omega) (fun k e => by have := (HO.out.lt _ e).1; omega); have hlt4 : w.heap.size + 1 + 1 < w3.heap.size := (by have := hg3.size; omega); clear hst hx5 ho3 hg3 hat3)
          | (go_simp; go_at_call 77; (refine (HIH.out _ (((Below.refl _ _).alloc (Nat.le_refl _) _).drew)).mono ?_; rintro e w2 ⟨v2, rfl, hr2, hb2⟩; obtain ⟨a2, c2, rfl, -, -⟩ := hr2.form; rw [HQ0.out, HQ1.out, HQ2.out, HQ3.out, List.length_map, HNV.out]; rw [List.length_map, HNV.out] at hr2; have hbx := bx_keep (w := (wr.alloc (.cells #[.int .i64 q0, .int .i64 q1, .int .i64 q2, .int .i64 q3, .slice av nv cv] 86)).drew) (bx_new wr _ wr.heap.size rfl) hb2; have hbw : Below wr.heap.size wr w2 := ((Below.refl _ _).alloc (Nat.le_refl _) _).drew.trans (hb2.mono (by simp)); have k0 := (hbw.cell (p := ⟨w.heap.size + 1 + 1, 0 + 4, none⟩) hszr).trans z4; obtain ⟨k1, k2, k3, k4, k5⟩ := bx_cells5 hbx; have hz2 : wr.heap.size < w2.heap.size := (Array.getElem?_eq_some_iff.1 hbx).1; have hz3 : w.heap.size + 1 + 1 < w2.heap.size := Nat.lt_trans hszr hz2; have HBX := Lib.hid hbx; have HBW := Lib.hid hbw; have HR2 := Lib.hid hr2; clear hbx hbw hr2 hb2)))
      all_goals
       have HT1 : Hid (x.args.take (i + 1) = x.args.take i ++ [kid]) := by
         show _ = _
         rw [HKN.out, List.take_succ_eq_append_getElem hlt, HKI.out]
       go_wp2_with fail
       go_roundg (K.length - (i + 1))
       case measure => omega
       case rel =>
         refine ⟨i + 1, .slice (some ⟨g, 0, none⟩) (i + 1) cap3, by omega, by omega, by go_num, ?_, ?_, ?_⟩
         · rw [HT1.out]; exact HST.out
         · exact bx_other HRES.out (by omega) _ _
         · exact HB3.out.setCell (by simp; omega) _
    · have hlt' : ¬ (i : Int) < (K.length : Int) := by omega
      have hout := HR.out.row.out
      rw [HR0.out, HR1.out, HR2.out, HR3.out] at hout
      have htk : x.args.take i = K := by rw [HKN.out, List.take_of_length_le (by omega)]
      obtain ⟨ar, cr, hvr, hr1, hr2⟩ := HR.out.row.len
      rw [htk] at hvr hr1
      subst hvr
      obtain ⟨xs, ho, hd⟩ := HR.out.row.own
      rw [htk] at ho hd
      obtain ⟨z0, z1, z2, z3, z4⟩ := bx_cells5 hout
      obtain ⟨y0, y1, y2, y3, y4⟩ := bx_cells5 HR.out.res
      obtain ⟨f0, f1, f2, f3, f4⟩ := bx_free5 HR.out.res
      have hsz := HR.out.row.le
      have hszr : w.heap.size + 1 + 1 < wr.heap.size := by omega
      have HO := Lib.hid ho
      have HD := Lib.hid hd
      clear hout ho hd htk
      go_wp2_with fail
      refine bodyPost_ret (v := .agg #[.int .i64 r0, .int .i64 r1, .int .i64 r2, .int .i64 r3, .slice ar K.length cr]) (by simp [results, Tryz.results77, go_sem, y0, y1, y2, y3, y4]) rfl ?_
      refine ⟨_, by rw [HR0.out, HR1.out, HR2.out, HR3.out], ?_, ((((HR.out.bel.setCell (by simp) _).setCell (by simp) _).setCell (by simp) _).setCell (by simp) _).setCell (by simp) _⟩
      rw [HKN.out]
      have hb : wr.grownBy (((((wr.setCell ⟨w.heap.size + 1, 0, none⟩ (.int .i64 r0)).setCell ⟨w.heap.size + 1, 1, none⟩ (.int .i64 r1)).setCell ⟨w.heap.size + 1, 2, none⟩ (.int .i64 r2)).setCell ⟨w.heap.size + 1, 3, none⟩ (.int .i64 r3)).setCell ⟨w.heap.size + 1, 4, none⟩ (.slice ar K.length cr)) (some (w.heap.size + 1)) := grown_trans (grown_trans (grown_trans (grown_trans (grown_cell _ _ _) (grown_cell _ _ _)) (grown_cell _ _ _)) (grown_cell _ _ _)) (grown_cell _ _ _)
      refine rd_of_own (HO.out.kept hb (.inr fun e => by have := (HO.out.lt _ e).1; omega)) (RdAll.keep (fun k hk hlt => ⟨?_, hb.block k hlt ?_⟩) _ _ HD.out) (by simp) (fun k e => by have := (HO.out.lt _ e).1; show _ ≤ _; omega)
      · show _ ≤ _; omega
      · intro e; cases e; omega
end At
end Go.Proofs.YtfocooehnmpndaaGreat
namespace Go.Proofs.YtfocooehnmpndaaGreat
open Go.RowKit
section
variable {P : Program} {ops : Array Oper} {Q : Exit → Act → World → Prop} {md : Region.Mode} {S : World → Prop} {n : Nat}
def wpU (P : Program) (md : Region.Mode) (ops : Array Oper) (Q : Exit → Act → World → Prop) (S : World → Prop) (n : Nat) : Nat → Array Bool → Act → World → Prop
  | 0, listed, a, w => Region.ready md ops listed = [] ∧ Q .normal a w
  | f + 1, listed, a, w =>
    (Region.ready md ops listed = [] → Q .normal a w) ∧
    ∀ i ∈ Region.ready md ops listed, wpOp P ops Q i (fun a' w' => ((listed.setIfInBounds i true).getD n true = false → S w') ∧ wpU P md ops Q S n f (listed.setIfInBounds i true) a' w') a w
theorem wpAny_of_U : ∀ (f : Nat) (listed : Array Bool) (a : Act) (w : World), wpU P md ops Q S n f listed a w → wpAny P md ops Q f listed a w
  | 0, _, _, _, h => h
  | f + 1, _, _, _, h => ⟨h.1, fun i hi => wpOp_mono (fun a' w' h' => wpAny_of_U f _ a' w' h'.2) (h.2 i hi)⟩
theorem wpU_first {i : Nat} {oi : Oper} {v : Value} (hi : ops[i]? = some oi) (hsel : ∀ (j : Nat) (o : Oper) cs b, ops[j]? = some o → o.op ≠ .select cs b)
    (hQ : ∀ c a w, Q (.panic c) (a.put oi.dst v) w → Q (.panic c) a w) (hs : Region.sinkB md ops n = true) (hc : Region.chainB md ops n = true) (hn : n < ops.size) (hin : i < n) :
    ∀ (f : Nat) (listed : Array Bool) (a : Act) (w : World), HeadInv md ops n listed →
      (∀ j oj, ops[j]? = some oj → j ≠ i → listed.getD j true = false → (∀ e ∈ oj.after, Region.binds md e = true → e.on ≠ i) → oi.apart ops oj = true) →
      i ∈ Region.ready md ops listed → YieldsIf P ops S oi v a → S w →
      wpU P md ops Q S n f (listed.setIfInBounds i true) (a.put oi.dst v) w → wpU P md ops Q S n (f + 1) listed a w := by
  intro f
  induction f with
  | zero =>
    intro listed a w inv _ hr hy hS H
    refine ⟨fun h => (by rw [h] at hr; cases hr), fun j hj => ?_⟩
    by_cases hji : j = i
    · subst hji; exact hy.wpOp hi hS ⟨fun _ => hS, H⟩
    · have h1 := ready_mono hj hji
      rw [H.1] at h1
      cases h1
  | succ f ih =>
    intro listed a w inv hfree hr hy hS H
    have hun := (mem_ready.1 hr).1
    refine ⟨fun h => (by rw [h] at hr; cases hr), fun j hj => ?_⟩
    have hjn : j < n := by
      rcases Nat.lt_or_ge j n with h | h
      · exact h
      · exact absurd hj (tail_waits hs hc hn inv _ i rfl hin hun j h)
    by_cases hji : j = i
    · subst hji; exact hy.wpOp hi hS ⟨fun _ => hS, H⟩
    · have h1 := H.2 j (ready_mono hj hji)
      obtain ⟨hjun, oj, hoj, hall⟩ := mem_ready.1 hj
      have hnot : ∀ e ∈ oj.after, Region.binds md e = true → e.on ≠ i := fun e he hb heq => by
        have h1 := hall e he hb
        rw [heq, getD_both hun] at h1
        cases h1
      have h2 := wpOp_putIf hoj (hfree j oj hoj hji hjun hnot) (fun cs b => hsel i oi cs b hi) (fun cs b => hsel j oj cs b hoj) hQ hy h1
      have hfree' : ∀ k ok, ops[k]? = some ok → k ≠ i → (listed.setIfInBounds j true).getD k true = false →
          (∀ e ∈ ok.after, Region.binds md e = true → e.on ≠ i) → oi.apart ops ok = true := fun k ok hk hki hun hno => by
        refine hfree k ok hk hki ?_ hno
        by_cases hjk : j = k
        · subst hjk; exact hjun
        · rw [getD_set_ne true hjk] at hun; exact hun
      have hnn : ((listed.setIfInBounds i true).setIfInBounds j true).getD n true = false := by
        rw [getD_set_ne true (by omega), getD_set_ne true (by omega)]
        exact inv.tail n (Nat.le_refl _) hn
      refine wpOp_mono (fun a' w' h3 => ⟨fun _ => h3.2.1 hnn, ih (listed.setIfInBounds j true) a' w' (inv.set hj hjn) hfree' (ready_mono hr (Ne.symm hji)) h3.1 (h3.2.1 hnn) ?_⟩) h2
      rw [Array.setIfInBounds_comm _ _ hji]
      exact h3.2.2
theorem wpU_take {i : Nat} {oi : Oper} {v : Value} {f : Nat} {listed : Array Bool} {a : Act} {w : World} (hi : ops[i]? = some oi) (inv : HeadInv md ops n listed) (hs : Region.sinkB md ops n = true) (hc : Region.chainB md ops n = true) (hn : n < ops.size) (hin : i < n)
    (hsel : Region.noSelect ops = true) (hf : Region.free md ops listed i = true) (hr : (Region.ready md ops listed).contains i = true)
    (hQ : ∀ c a w, Q (.panic c) (a.put oi.dst v) w → Q (.panic c) a w) (hy : YieldsIf P ops S oi v a) (hS : S w)
    (h : HeadInv md ops n (listed.setIfInBounds i true) → wpU P md ops Q S n f (listed.setIfInBounds i true) (a.put oi.dst v) w) : wpU P md ops Q S n (f + 1) listed a w :=
  wpU_first hi (Region.noSelect_spec hsel) hQ hs hc hn hin f listed a w inv (Region.free_spec hi hf) (by simpa using hr) hy hS (h (inv.set (by simpa using hr) hin))
theorem wp_region_U {id : Nat} {a : Act} {w : World} (n : Nat) (hm : P.follows .mixedOrders = true)
    (h : HeadInv .any ops n (Array.replicate ops.size false) → wpU P .any ops Q S n ops.size (Array.replicate ops.size false) a w.drew) : (Code.region id ops true).wp P Q a w :=
  wp_region_any hm (wpAny_of_U _ _ _ _ (h ⟨by simp, fun j oj _ hl => (by rw [getD_replicate_false] at hl; cases hl), fun t _ ht => getD_in (by simpa using ht) (getD_replicate_false _ _)⟩))
def OnU (P : Program) (md : Region.Mode) (ops : Array Oper) (Q : Exit → Act → World → Prop) (S : World → Prop) (n f : Nat) (listed : Array Bool) (K : Act → World → Prop) : Prop :=
  ∀ a w, (listed.getD n true = false → S w) → wpU P md ops Q S n f listed a w → K a w
theorem OnU.out {f : Nat} {listed : Array Bool} {K : Act → World → Prop} (h : OnU P md ops Q S n f listed K) (a : Act) (w : World) (hS : listed.getD n true = false → S w) (hw : wpU P md ops Q S n f listed a w) : K a w := h a w hS hw
theorem wpU_one {i : Nat} {o : Oper} {f : Nat} {listed : Array Bool} {a : Act} {w : World} (hr : Region.ready md ops listed = [i]) (ho : ops[i]? = some o)
    (h : ∀ K : Act → World → Prop, OnU P md ops Q S n f (listed.setIfInBounds i true) K → if Region.wanted o (yielded ops a.tmps) = true then Oper.wp P o a w K Q else K (a.put o.dst undef) w) : wpU P md ops Q S n (f + 1) listed a w := by
  refine ⟨fun h0 => (by rw [hr] at h0; cases h0), fun j hj => ?_⟩
  rw [hr] at hj
  obtain rfl : j = i := by simpa using hj
  exact wpOp_step ho (fun K hK => h K (fun a w hS hW => hK a w ⟨hS, hW⟩))
theorem wpU_done {listed : Array Bool} {a : Act} {w : World} (hr : Region.ready md ops listed = []) (h : Q .normal a w) : ∀ f, wpU P md ops Q S n f listed a w
  | 0 => ⟨hr, h⟩
  | _ + 1 => ⟨fun _ => h, by rw [hr]; simp⟩
end
end Go.Proofs.YtfocooehnmpndaaGreat
