/- slices.Clone of items; hole.follower.add. hole.follower.predict. What a run of hole.follower.complete keeps, in plain Lean. The sets of items cell by cell, in plain Lean; a closed table is there. Which nonterminals derive others: two ways to reckon it, in plain Lean. Plain: what a census asks: which lengths lists of symbols can have; why counting ends. Plain: the edges of a census, the passes of its tables; why counting ends. Plain: all trees of a symbol with a length, in order; how many, and which has a number. Plain: which tree has a number: first the rule, then the lengths. A table of numbers in memory, that is being filled. Tables in memory whose rows were appended; the contracts of census.table. -/
import Derived.Test.YtjpmebppdcclbaaJHoleTellsRow8
import Derived.Test.YtjpmebppdcclbaaJHoleTellsRow6
import Derived.Test.YtjpmebppdcclbaaJHoleTellsRow2
import Derived.Test.YtjpmebppdcclbaaJHoleTellsRow1
import Derived.Deep.OwnRows
import Derived.Deep.LoopGhost
import Derived.Deep.DeepCutAuto
namespace Go.Proofs.Ytjpmebppdcclbaa
open Go.RowKit
namespace Ho
open Rp Hl
open Ht hiding D
def _root_.Go.Proofs.Ytjpmebppdcclbaa.Ht.Itm.d' (x : Itm) : D := .agg [.int x.r, .int x.d, .int x.f]
theorem rdI {S : Nat → Prop} {w : World} : ∀ c : List Itm, RdAll S w (c.map Itm.d') (flatI c)
  | [] => rfl
  | x :: l => ⟨[.int .i64 x.r, .int .i64 x.d, .int .i64 x.f], flatI l, rfl, ⟨[.int .i64 x.r], [.int .i64 x.d, .int .i64 x.f], rfl, rfl, [.int .i64 x.d], [.int .i64 x.f], rfl, rfl, RdAll.one rfl⟩, rdI l⟩
theorem rdI_eq {S : Nat → Prop} {w : World} : ∀ {c : List Itm} {L : List Value}, RdAll S w (c.map Itm.d') L → L = flatI c
  | [], L, h => h
  | x :: l, L, ⟨c1, c2, e, h1, h2⟩ => by
    obtain ⟨a1, a2, e1, h3, h4⟩ := h1
    obtain ⟨b1, b2, e2, h5, h6⟩ := h4
    have h7 := RdAll.one_iff.1 h6
    rw [e, rdI_eq h2, e1, e2, show a1 = [.int .i64 x.r] from h3, show b1 = [.int .i64 x.d] from h5, show b2 = [.int .i64 x.f] from h7]
    rfl
theorem items_cells (c : List Itm) : ∀ d ∈ c.map Itm.d', d.cells = 3 := by
  intro d hd
  obtain ⟨x, _, rfl⟩ := List.mem_map.1 hd
  rfl
theorem own_irow {w : World} {B : Nat} {v : Value} {c : List Itm} {n : Nat} (hn : n = c.length) (h : w.ownsRow B 104 3 v n (flatI c)) : ∃ a m, v = .slice a n m ∧ n ≤ m ∧ m ≤ maxLen ∧ IRow (fun k => B ≤ k ∧ v.ownBlock = some k) w a c := by
  subst hn
  obtain ⟨a, m, e, e1, e2⟩ := own_len h
  refine ⟨a, m, e, e1, e2, fun i hi => ?_⟩
  have hlt := h.lt
  rcases h.2 with ⟨_, h0⟩ | ⟨g, m', cur, e3, _, _, _⟩
  · omega
  · rw [e] at e3
    cases e3
    rw [e] at h
    obtain ⟨f0, f1, f2⟩ := flatI_get hi
    obtain ⟨h1, h2⟩ := hlt g (by rw [e]; rfl)
    exact ⟨g, rfl, ⟨h1, by rw [e]; rfl⟩, h2, by rw [h.cellAt _ (by omega)]; exact f0, by rw [h.cellAt _ (by omega)]; exact f1, by rw [h.cellAt _ (by omega)]; exact f2⟩
set_option maxHeartbeats 2000000 in
theorem cloneI (c : List Itm) (a : Option Addr) (m : Nat) (w : World) (h : Rd AnyB w (.sl (c.map Itm.d')) [.slice a c.length m]) (hb : c.length ≤ 1000000) :
    Calls Try.prog 93 #[.slice a c.length m] w fun e w' => ∃ a' m', e = .returned (.slice a' c.length m') ∧ IRow (fun k => w.heap.size ≤ k) w' a' c ∧ Below w.heap.size w w' := by
  have hnil := fun (w : World) (a : Option Addr) (n c : Nat) => Lib.run_eql_slice_nil (P := Try.prog) w 102 104 a n c 0 0 Try.underlying102
  have HML : Hid ((c.map Itm.d').length = c.length) := by show _ = _; simp
  cases a with
  | none =>
    have hl : c.length = 0 := by
      obtain ⟨a', cap, L, e, h1, h2, h3, h4, h5⟩ := h
      rw [HML.out] at e h1
      simp at e
      obtain ⟨rfl, rfl⟩ := e
      have := h3 rfl
      omega
    have hc : c = [] := List.eq_nil_of_length_eq_zero hl
    subst hc
    clear h hl
    go_enter Try.func93, Try.ntmps93
    go_wp2
    go_ret
    exact ⟨none, 0, rfl, fun i hi => by simp at hi, Below.refl _ _⟩
  | some x =>
    have hb1 : Below w.heap.size w (w.alloc (.cells #[] 104)) := (Below.refl _ _).alloc (Nat.le_refl _) _
    have HV := Lib.hid (h.below hb1)
    have HO : Hid ((w.alloc (.cells #[] 104)).ownsRow w.heap.size 104 3 (.slice (some ⟨w.heap.size, 0, none⟩) 0 0) 0 []) := World.ownsRow_made w #[] 0 (Nat.le_refl _) (by simp) rfl
    have HB1 := Lib.hid hb1
    obtain ⟨n, HN⟩ := nameIt c.length
    rw [HN.out] at HV HML hb
    rw [HN.out]
    clear h hb1
    go_enter Try.func93, Try.ntmps93
    go_wp2_with (at_builtin; refine wp_appD elItem rfl _ _ rfl HO.out rfl HV.out rfl (items_cells c) (by rw [HML.out]; omega) (by rw [HML.out]; unfold maxLen; omega) (by simp) ?_)
    intro v' w' L hd ho hg hat
    have hL := rdI_eq hd
    subst hL
    have hb2 : Below w.heap.size w w' := HB1.out.trans (below_grown hg (by simp) (fun k hk => by simp [Value.ownBlock] at hk; omega))
    obtain ⟨a', m', rfl, -, -, hir⟩ := own_irow (n := n) HN.out.symm (by simpa [HN.out] using ho)
    have HR := Lib.hid (hir.mono (Q := fun k => w.heap.size ≤ k) (fun k hk => hk.1))
    have HB2 := Lib.hid hb2
    clear hd ho hg hat hb2 hir
    go_wp2
    go_ret
    exact ⟨a', m', rfl, HR.out, HB2.out⟩
theorem upL_self (L : Nat → List Itm) (k : Nat) : upL L k (L k) = L := by
  funext j
  unfold upL
  split
  · rename_i h; rw [h]
  · rfl
theorem app_FM {B fb : Nat} {gt gn gs : Int} {ra : Option Addr} {rc : Nat} {K : List Rule} {sb cap n : Nat} {val : Nat → Value} {L : Nat → List Itm} {w w' : World} (h : FMi B fb gt gn gs ra rc K sb cap n val L w) (hB : B ≤ w.heap.size) {t : Nat} (ht : t < n) (ht1 : t + 1 = n) {v' : Value} {x : Itm} (ho : w'.ownsRow B 104 3 v' ((L t).length + 1) (flatI (L t) ++ [.int .i64 (x.r : Int), .int .i64 (x.d : Int), .int .i64 (x.f : Int)])) (hg : w.grownBy w' (val t).ownBlock)
    (hat : v'.ownBlock = (val t).ownBlock ∨ ∃ k, v'.ownBlock = some k ∧ w.heap.size ≤ k) :
    w'.cell? ⟨fb, 0 + 4, none⟩ = some (.slice (some ⟨sb, 0, none⟩) n cap) ∧ w'.cell? ⟨sb, t, none⟩ = some (val t) ∧ w'.frozen? ⟨sb, t, none⟩ = false ∧ ∃ O', FM B fb gt gn gs ra rc K O' n (upL L t (L t ++ [x])) (w'.setCell ⟨sb, t, none⟩ v') ∧ Stp (OwS fb sb n val) O' w (w'.setCell ⟨sb, t, none⟩ v') := by
  obtain ⟨h1, h2, h3, h3b, h4⟩ := h
  obtain ⟨q1, q2, q3⟩ := h1.app ht ho hg hat
  have hfb := bx_lt h2
  have hsb := h1.out.lt sb rfl
  have hvt := fun k e => (h1.row t ht).lt k e
  have hb1 : w'.heap[fb]? = some (.cells #[.int .i64 gt, .int .i64 gn, .int .i64 gs, .slice ra K.length rc, .slice (some ⟨sb, 0, none⟩) n cap] 99 (0, 0)) := (hg.block fb hfb (fun e => h3 (.inr ⟨t, ht, e.symm⟩))).trans h2
  have hne : fb ≠ sb := fun e => h3 (.inl e)
  have hownS : ∀ k, OwS fb sb n (fun k => if k = t then v' else val k) k → OwS fb sb n val k ∨ w.heap.size ≤ k := by
    rintro k (rfl | rfl | ⟨i, hi, e⟩)
    · exact .inl (.inl rfl)
    · exact .inl (.inr (.inl rfl))
    · have e1 : i = t := by omega
      simp only [e1, if_true] at e
      rcases hat with e2 | ⟨q, e2, hq⟩
      · exact .inl (.inr (.inr ⟨t, ht1, by rw [← e2]; exact e⟩))
      · rw [e2] at e; cases e; exact .inr hq
  have hown : ∀ k, OwA sb n (fun k => if k = t then v' else val k) k → OwA sb n val k ∨ w.heap.size ≤ k := by
    rintro k (rfl | ⟨i, hi, e⟩)
    · exact .inl (.inl rfl)
    · by_cases e1 : i = t
      · simp only [e1, if_true] at e
        rcases hat with e2 | ⟨q, e2, hq⟩
        · exact .inl (.inr ⟨t, ht, by rw [← e2]; exact e⟩)
        · rw [e2] at e; cases e; exact .inr hq
      · simp only [e1, if_false] at e
        exact .inl (.inr ⟨i, hi, e⟩)
  refine ⟨by simp [World.cell?, hb1], q1, q2, OwS fb sb n (fun k => if k = t then v' else val k), ⟨sb, cap, _, ⟨q3, bx_other hb1 hne _ _, ?_, h3b, ?_⟩, fun _ => Iff.rfl⟩, ⟨hg.os, hg.tape, hg.output, by rw [World.size_setCell]; exact hg.size, fun k hk hn => ?_, hownS⟩⟩
  · intro e
    rcases hown fb e with e | e
    · exact h3 e
    · omega
  · refine Rd.keep (fun k hk hlt => ⟨hk, ?_⟩) _ _ h4
    have hk' : k < B := hk
    rw [Below.heap_setCell _ _ _ _ (by simp only; omega)]
    exact hg.block k hlt (fun e => by have := (hvt k e.symm).1; omega)
  · rw [Below.heap_setCell _ _ _ _ (fun e => hn (.inr (.inl e)))]
    exact hg.block k hk (fun e => hn (.inr (.inr ⟨t, ht1, e.symm⟩)))
def AddPost (B fb : Nat) (gt gn gs : Int) (ra : Option Addr) (rc : Nat) (K : List Rule) (O : Nat → Prop) (n : Nat) (L : Nat → List Itm) (W : World) (e : Ending) (w' : World) : Prop := e = .returned (.tuple #[]) ∧ ∃ O', FM B fb gt gn gs ra rc K O' n L w' ∧ Stp O O' W w'
theorem AddPost.eq {B fb : Nat} {gt gn gs : Int} {ra : Option Addr} {rc : Nat} {K : List Rule} {O : Nat → Prop} {n : Nat} {L L' : Nat → List Itm} {W w' : World} {e : Ending} (h : AddPost B fb gt gn gs ra rc K O n L W e w') (hL : L = L') : AddPost B fb gt gn gs ra rc K O n L' W e w' := hL ▸ h
set_option maxHeartbeats 16000000 in
set_option maxRecDepth 100000 in
theorem addE {B fb : Nat} {gt gn gs : Int} {ra : Option Addr} {rc : Nat} {K : List Rule} {O : Nat → Prop} {n : Nat} {L : Nat → List Itm} (W : World) (h : FM B fb gt gn gs ra rc K O n L W) (k : Nat) (hk : n = k + 1) (hn : n ≤ 100) (x : Itm) (hc : (L k).length ≤ 1000000) :
    Calls Try.prog 92 #[.pointer (some ⟨fb, 0, none⟩), .agg #[.int .i64 (x.r : Int), .int .i64 (x.d : Int), .int .i64 (x.f : Int)]] W (AddPost B fb gt gn gs ra rc K O n (upL L k (addI (L k) x)) W) := by
  obtain ⟨sb, cap, val, hF, hO⟩ := h
  have hBW : B ≤ W.heap.size := by have := hF.st.out.lt sb rfl; omega
  have hkn : k < n := by omega
  obtain ⟨w0, HW⟩ := nameIt (W.alloc (.cells #[.int .i64 (x.r : Int), .int .i64 (x.d : Int), .int .i64 (x.f : Int)] 104))
  have hw0 : Below W.heap.size W w0 := by rw [← HW.out]; exact (Below.refl _ _).alloc (Nat.le_refl _) _
  have HI0 : Hid (w0.heap[W.heap.size]? = some (.cells #[.int .i64 (x.r : Int), .int .i64 (x.d : Int), .int .i64 (x.f : Int)] 104 (0, 0))) := by rw [← HW.out]; exact bx_new _ _ _ rfl
  have HSZ : Hid (w0.heap.size = W.heap.size + 1) := by show _ = _; rw [← HW.out]; simp
  have keepF : ∀ w', Below W.heap.size W w' → FMi B fb gt gn gs ra rc K sb cap n val L w' := fun w' hb => ⟨hF.st.keep hb, bx_keep hF.box hb, hF.nf, hF.fbl, hF.rd.below hb⟩
  have HKF := Lib.hid keepF
  have HB0 := Lib.hid hw0
  obtain ⟨av, cv, hval, hv1, hv2, hir⟩ := FM.irow hF hkn
  unfold maxLen at hv2
  have hct := containsI av cv (L k) x (by unfold maxLen; omega)
  have hrow := (hF.st.row k hkn)
  rw [hval] at hrow
  have HOWN : Hid (∀ k', (Value.slice av (L k).length cv).ownBlock = some k' → B ≤ k' ∧ k' < W.heap.size) := hrow.lt
  have HROW := Lib.hid hrow
  have HFS : Hid (∀ w', Below W.heap.size W w' → w'.cell? ⟨fb, 0 + 4, none⟩ = some (.slice (some ⟨sb, 0, none⟩) n cap) ∧ w'.cell? ⟨sb, k, none⟩ = some (.slice av (L k).length cv)) := fun w' hb => by
    have h1 := keepF w' hb
    exact ⟨by simp [World.cell?, h1.box], by rw [h1.st.cell hkn, hval]⟩
  have HCT : Hid (∀ w', Below W.heap.size W w' → Calls Try.prog 110 #[.slice av (L k).length cv, .agg #[.int .i64 (x.r : Int), .int .i64 (x.d : Int), .int .i64 (x.f : Int)]] w' fun e w2 => e = .returned (.bool (decide (x ∈ L k))) ∧ Below w'.heap.size w' w2) := fun w' hb => hct w' ((hir.mono (fun _ _ => trivial)).below hb)
  have HAPP : Hid (∀ w1 w2 v', Below W.heap.size W w1 → w2.ownsRow B 104 3 v' ((L k).length + 1) (flatI (L k) ++ [.int .i64 (x.r : Int), .int .i64 (x.d : Int), .int .i64 (x.f : Int)]) → w1.grownBy w2 (Value.slice av (L k).length cv).ownBlock → (v'.ownBlock = (Value.slice av (L k).length cv).ownBlock ∨ ∃ k', v'.ownBlock = some k' ∧ w1.heap.size ≤ k') → w2.cell? ⟨fb, 0 + 4, none⟩ = some (.slice (some ⟨sb, 0, none⟩) n cap) ∧ w2.cell? ⟨sb, k, none⟩ = some (.slice av (L k).length cv) ∧ w2.frozen? ⟨sb, k, none⟩ = false ∧ ∃ O', FM B fb gt gn gs ra rc K O' n (upL L k (L k ++ [x])) (w2.setCell ⟨sb, k, none⟩ v') ∧ Stp O O' W (w2.setCell ⟨sb, k, none⟩ v')) := by
    intro w1 w2 v' hb ho hg hat
    rw [← hval] at hg hat
    have h1 := keepF w1 hb
    obtain ⟨q0, q1, q2, O', q3, q4⟩ := app_FM h1 (by have := hb.size; omega) hkn (by omega) ho hg hat
    have hO2 : O = OwS fb sb n val := funext fun k => propext (hO k)
    rw [hval] at q1
    refine ⟨q0, q1, q2, O', q3, ?_⟩
    rw [hO2]
    exact (Stp.below hb).trans q4
  obtain ⟨PST, HP⟩ := nameIt (AddPost B fb gt gn gs ra rc K O n (upL L k (addI (L k) x)) W)
  have HNO : Hid (x ∈ L k → ∀ w', Below W.heap.size W w' → PST (.returned (.tuple #[])) w') := by
    intro hx w' hb
    rw [← HP.out]
    have e : addI (L k) x = L k := by unfold addI; rw [if_pos hx]
    rw [e, upL_self]
    exact ⟨rfl, O, ⟨sb, cap, val, keepF w' hb, hO⟩, Stp.below hb⟩
  have HYES : Hid (x ∉ L k → ∀ w', (∃ O', FM B fb gt gn gs ra rc K O' n (upL L k (L k ++ [x])) w' ∧ Stp O O' W w') → PST (.returned (.tuple #[])) w') := by
    intro hx w' hb
    rw [← HP.out]
    have e : addI (L k) x = L k ++ [x] := by unfold addI; rw [if_neg hx]
    rw [e]
    exact ⟨rfl, hb⟩
  rw [HP.out]
  obtain ⟨bq, HBQ⟩ := nameIt (decide (x ∈ L k))
  rw [HBQ.out] at HCT
  have hw1 : IntKind.i64.wrap ((n : Int) - 1) = (k : Int) := by rw [IntWalk.i64_in _ (by omega)]; omega
  have hkn' : (k : Int) < (n : Int) := by omega
  obtain ⟨m, HM⟩ := nameIt (L k).length
  rw [HM.out] at hc hv1 HOWN HROW HFS HCT HAPP
  obtain ⟨xr, HXR⟩ := nameIt x.r
  obtain ⟨xd, HXD⟩ := nameIt x.d
  obtain ⟨xf, HXF⟩ := nameIt x.f
  rw [HXR.out, HXD.out, HXF.out] at HW HI0
  simp only [HXR.out, HXD.out, HXF.out] at HAPP HCT
  rw [HXR.out, HXD.out, HXF.out]
  have HKK := Lib.hid hk
  clear hw0 keepF hF hval hir hct hrow HP HXR HXD HXF hk hO
  obtain ⟨c0, c1⟩ := HFS.out w0 HB0.out
  obtain ⟨y0, y1, y2⟩ := bx_cells3 HI0.out
  go_enter Try.func92, Try.ntmps92
  go_upto_region 1 with fail
  rw [HW.out]
  clear HW
  go_upto_region 2 with fail
  have i0 := aft_cell c0
  have i1 := aft_cell c1
  have i2 := aft_cell y0
  have i3 := aft_cell y1
  have i4 := aft_cell y2
  have HCT0 : Hid (∀ w', Below w0.heap.size w0 w' → Calls Try.prog 110 #[.slice av m cv, .agg #[.int .i64 (xr : Int), .int .i64 (xd : Int), .int .i64 (xf : Int)]] w' fun e w2 => e = .returned (.bool bq) ∧ Below w'.heap.size w' w2) := fun w' hb => HCT.out w' (HB0.out.trans (hb.mono HB0.out.size))
  clear c0 c1 y0 y1 y2
  refine wp_region_after (by kernel_rfl) (by kernel_rfl) ?_
  repeat (go_big_quiet_step (with_reducible exact Calls.after (HCT0.out _ (Aft.bel _))))
  refine wpQuiet_nil ?_
  rintro w1 ⟨⟨_, hb7⟩, rfl⟩
  have HB1 : Hid (Below W.heap.size W w1) := HB0.out.trans (hb7.mono HB0.out.size)
  have HI1 := Lib.hid (bx_keep HI0.out hb7)
  clear hb7 i0 i1 i2 i3 i4
  cases bq with
  | true =>
    have HE := Lib.hid (HNO.out (of_decide_eq_true HBQ.out) w1 HB1.out)
    go_wp2_with fail
    first | exact HE.out | exact bodyPost_end (results_none Try.results92 _ _ _) rfl HE.out
  | false =>
    have HNX : Hid (x ∉ L k) := of_decide_eq_false HBQ.out
    go_upto_region 3 with fail
    have HCS : Hid (∀ w', Below w1.heap.size w1 w' → w'.cell? ⟨fb, 0 + 4, none⟩ = some (.slice (some ⟨sb, 0, none⟩) n cap) ∧ w'.cell? ⟨sb, k, none⟩ = some (.slice av m cv) ∧ w'.cell? ⟨W.heap.size, 0, none⟩ = some (.int .i64 (xr : Int)) ∧ w'.cell? ⟨W.heap.size, 0 + 1, none⟩ = some (.int .i64 (xd : Int)) ∧ w'.cell? ⟨W.heap.size, 0 + 2, none⟩ = some (.int .i64 (xf : Int))) := by
      intro w' hb
      obtain ⟨h1, h2⟩ := HFS.out w' (HB1.out.trans (hb.mono HB1.out.size))
      obtain ⟨h3, h4, h5⟩ := bx_cells3 (bx_keep HI1.out hb)
      exact ⟨h1, h2, h3, h4, h5⟩
    obtain ⟨w2, HW2⟩ := nameIt (w1.alloc (.cells #[.int .i64 (xr : Int), .int .i64 (xd : Int), .int .i64 (xf : Int)] 104)).drew
    have hb2 : Below w1.heap.size w1 w2 := by rw [← HW2.out]; exact ((Below.refl w1.heap.size w1).alloc (Nat.le_refl _) _).drew
    have X2 : Hid (w2.heap[w1.heap.size]? = some (.cells #[.int .i64 (xr : Int), .int .i64 (xd : Int), .int .i64 (xf : Int)] 104 (0, 0))) := by rw [← HW2.out]; exact bx_new w1 _ _ rfl
    have HB2 : Hid (Below W.heap.size W w2) := HB1.out.trans (hb2.mono HB1.out.size)
    have HB12 := Lib.hid hb2
    have HRW2 := Lib.hid (own_keep HROW.out HB2.out)
    obtain ⟨q2, HQ2⟩ := nameIt w1.heap.size
    rw [HQ2.out] at X2
    clear hb2
    refine wp_region_U (S := (fun w' => w'.cell? ⟨fb, 0 + 4, none⟩ = some (.slice (some ⟨sb, 0, none⟩) n cap) ∧ w'.cell? ⟨sb, k, none⟩ = some (.slice av m cv) ∧ w'.cell? ⟨W.heap.size, 0, none⟩ = some (.int .i64 (xr : Int)) ∧ w'.cell? ⟨W.heap.size, 0 + 1, none⟩ = some (.int .i64 (xd : Int)) ∧ w'.cell? ⟨W.heap.size, 0 + 2, none⟩ = some (.int .i64 (xf : Int)))) 15 (by kernel_rfl) (fun inv => ?_)
    refine wpU_take (i := 0) (v := .pointer (some ⟨fb, 0, none⟩)) rfl inv (by kernel_rfl) (by kernel_rfl) (by decide) (by decide) (by kernel_rfl) (by kernel_rfl) (by kernel_rfl) (fun _ _ _ h => h) (Or.inl ⟨by rfl, fun w' hw' => ?_⟩) (HCS.out _ (Below.refl _ _).drew) (fun inv => ?_)
    · obtain ⟨h0, h1, h2, h3, h4⟩ := hw'
      go_simp
    try simp only [Act.put, List.setIfInBounds_toArray, List.set_cons_zero, List.set_cons_succ]
    refine wpU_take (i := 1) (v := .pointer (some ⟨fb, 0, none⟩)) rfl inv (by kernel_rfl) (by kernel_rfl) (by decide) (by decide) (by kernel_rfl) (by kernel_rfl) (by kernel_rfl) (fun _ _ _ h => h) (Or.inl ⟨by rfl, fun w' hw' => ?_⟩) (HCS.out _ (Below.refl _ _).drew) (fun inv => ?_)
    · obtain ⟨h0, h1, h2, h3, h4⟩ := hw'
      go_simp
    try simp only [Act.put, List.setIfInBounds_toArray, List.set_cons_zero, List.set_cons_succ]
    refine wpU_take (i := 2) (v := .pointer (some ⟨fb, 0 + 4, none⟩)) rfl inv (by kernel_rfl) (by kernel_rfl) (by decide) (by decide) (by kernel_rfl) (by kernel_rfl) (by kernel_rfl) (fun _ _ _ h => h) (Or.inl ⟨by rfl, fun w' hw' => ?_⟩) (HCS.out _ (Below.refl _ _).drew) (fun inv => ?_)
    · obtain ⟨h0, h1, h2, h3, h4⟩ := hw'
      go_simp
    try simp only [Act.put, List.setIfInBounds_toArray, List.set_cons_zero, List.set_cons_succ]
    refine wpU_take (i := 3) (v := .slice (some ⟨sb, 0, none⟩) n cap) rfl inv (by kernel_rfl) (by kernel_rfl) (by decide) (by decide) (by kernel_rfl) (by kernel_rfl) (by kernel_rfl) (fun _ _ _ h => h) (Or.inl ⟨by rfl, fun w' hw' => ?_⟩) (HCS.out _ (Below.refl _ _).drew) (fun inv => ?_)
    · obtain ⟨h0, h1, h2, h3, h4⟩ := hw'
      go_simp
    try simp only [Act.put, List.setIfInBounds_toArray, List.set_cons_zero, List.set_cons_succ]
    refine wpU_take (i := 4) (v := .int .i64 (k : Int)) rfl inv (by kernel_rfl) (by kernel_rfl) (by decide) (by decide) (by kernel_rfl) (by kernel_rfl) (by kernel_rfl) (fun _ _ _ h => h) (Or.inl ⟨by rfl, fun w' hw' => ?_⟩) (HCS.out _ (Below.refl _ _).drew) (fun inv => ?_)
    · obtain ⟨h0, h1, h2, h3, h4⟩ := hw'
      go_simp
    try simp only [Act.put, List.setIfInBounds_toArray, List.set_cons_zero, List.set_cons_succ]
    refine wpU_take (i := 5) (v := .pointer (some ⟨fb, 0, none⟩)) rfl inv (by kernel_rfl) (by kernel_rfl) (by decide) (by decide) (by kernel_rfl) (by kernel_rfl) (by kernel_rfl) (fun _ _ _ h => h) (Or.inl ⟨by rfl, fun w' hw' => ?_⟩) (HCS.out _ (Below.refl _ _).drew) (fun inv => ?_)
    · obtain ⟨h0, h1, h2, h3, h4⟩ := hw'
      go_simp
    try simp only [Act.put, List.setIfInBounds_toArray, List.set_cons_zero, List.set_cons_succ]
    refine wpU_take (i := 6) (v := .pointer (some ⟨fb, 0, none⟩)) rfl inv (by kernel_rfl) (by kernel_rfl) (by decide) (by decide) (by kernel_rfl) (by kernel_rfl) (by kernel_rfl) (fun _ _ _ h => h) (Or.inl ⟨by rfl, fun w' hw' => ?_⟩) (HCS.out _ (Below.refl _ _).drew) (fun inv => ?_)
    · obtain ⟨h0, h1, h2, h3, h4⟩ := hw'
      go_simp
    try simp only [Act.put, List.setIfInBounds_toArray, List.set_cons_zero, List.set_cons_succ]
    refine wpU_take (i := 7) (v := .pointer (some ⟨fb, 0 + 4, none⟩)) rfl inv (by kernel_rfl) (by kernel_rfl) (by decide) (by decide) (by kernel_rfl) (by kernel_rfl) (by kernel_rfl) (fun _ _ _ h => h) (Or.inl ⟨by rfl, fun w' hw' => ?_⟩) (HCS.out _ (Below.refl _ _).drew) (fun inv => ?_)
    · obtain ⟨h0, h1, h2, h3, h4⟩ := hw'
      go_simp
    try simp only [Act.put, List.setIfInBounds_toArray, List.set_cons_zero, List.set_cons_succ]
    refine wpU_take (i := 8) (v := .slice (some ⟨sb, 0, none⟩) n cap) rfl inv (by kernel_rfl) (by kernel_rfl) (by decide) (by decide) (by kernel_rfl) (by kernel_rfl) (by kernel_rfl) (fun _ _ _ h => h) (Or.inl ⟨by rfl, fun w' hw' => ?_⟩) (HCS.out _ (Below.refl _ _).drew) (fun inv => ?_)
    · obtain ⟨h0, h1, h2, h3, h4⟩ := hw'
      go_simp
    try simp only [Act.put, List.setIfInBounds_toArray, List.set_cons_zero, List.set_cons_succ]
    refine wpU_take (i := 9) (v := .int .i64 (k : Int)) rfl inv (by kernel_rfl) (by kernel_rfl) (by decide) (by decide) (by kernel_rfl) (by kernel_rfl) (by kernel_rfl) (fun _ _ _ h => h) (Or.inl ⟨by rfl, fun w' hw' => ?_⟩) (HCS.out _ (Below.refl _ _).drew) (fun inv => ?_)
    · obtain ⟨h0, h1, h2, h3, h4⟩ := hw'
      go_simp
    try simp only [Act.put, List.setIfInBounds_toArray, List.set_cons_zero, List.set_cons_succ]
    refine wpU_take (i := 10) (v := .pointer (some ⟨sb, k, none⟩)) rfl inv (by kernel_rfl) (by kernel_rfl) (by decide) (by decide) (by kernel_rfl) (by kernel_rfl) (by kernel_rfl) (fun _ _ _ h => h) (Or.inl ⟨by rfl, fun w' hw' => ?_⟩) (HCS.out _ (Below.refl _ _).drew) (fun inv => ?_)
    · obtain ⟨h0, h1, h2, h3, h4⟩ := hw'
      go_simp
    try simp only [Act.put, List.setIfInBounds_toArray, List.set_cons_zero, List.set_cons_succ]
    refine wpU_take (i := 11) (v := .slice av m cv) rfl inv (by kernel_rfl) (by kernel_rfl) (by decide) (by decide) (by kernel_rfl) (by kernel_rfl) (by kernel_rfl) (fun _ _ _ h => h) (Or.inl ⟨by rfl, fun w' hw' => ?_⟩) (HCS.out _ (Below.refl _ _).drew) (fun inv => ?_)
    · obtain ⟨h0, h1, h2, h3, h4⟩ := hw'
      go_simp
    try simp only [Act.put, List.setIfInBounds_toArray, List.set_cons_zero, List.set_cons_succ]
    refine wpU_take (i := 12) (v := .agg #[.int .i64 (xr : Int), .int .i64 (xd : Int), .int .i64 (xf : Int)]) rfl inv (by kernel_rfl) (by kernel_rfl) (by decide) (by decide) (by kernel_rfl) (by kernel_rfl) (by kernel_rfl) (fun _ _ _ h => h) (Or.inl ⟨by rfl, fun w' hw' => ?_⟩) (HCS.out _ (Below.refl _ _).drew) (fun inv => ?_)
    · obtain ⟨h0, h1, h2, h3, h4⟩ := hw'
      go_simp
    try simp only [Act.put, List.setIfInBounds_toArray, List.set_cons_zero, List.set_cons_succ]
    refine wpU_one (i := 13) (by kernel_rfl) rfl (fun K hK => ?_)
    replace inv := inv_setc (i := 13) inv (by kernel_rfl) (by decide)
    go_simp
    rw [HW2.out, HQ2.out]
    refine hK.out _ _ (fun _ => HCS.out _ HB12.out) ?_
    clear hK K
    try simp only [Act.put, List.setIfInBounds_toArray, List.set_cons_zero, List.set_cons_succ]
    refine wpU_one (i := 14) (by kernel_rfl) rfl (fun K hK => ?_)
    replace inv := inv_setc (i := 14) inv (by kernel_rfl) (by decide)
    refine step_appB elItem (by rfl) _ _ (by rfl) HRW2.out (by rfl) (by rfl) X2.out (by rfl) (by rfl) (by omega) (by unfold maxLen; omega) (by have := HB2.out.size; omega) ?_
    intro g4 c4 w4 ho4 hg4 hat4 hlt4
    have happ := HAPP.out w2 w4 (.slice (some ⟨g4, 0, none⟩) (m + 1) c4) HB2.out ho4 hg4 (at_lies hat4)
    have hii := (hg4.block W.heap.size (by have h1 := HB2.out.size; have h2 := bx_lt (bx_keep HI1.out HB12.out); omega) (fun e => by have := (HOWN.out W.heap.size e.symm).2; omega)).trans (bx_keep HI1.out HB12.out)
    obtain ⟨a0, a1, a2, a3⟩ := happ
    have HA0 := Lib.hid a0
    have HA1 := Lib.hid a1
    have HA2 := Lib.hid a2
    have HA3 := Lib.hid a3
    have HII := Lib.hid hii
    clear a0 a1 a2 a3 ho4 hg4 hat4 hlt4 hii
    refine hK.out _ _ (fun _ => ⟨HA0.out, HA1.out, (bx_cells3 HII.out).1, (bx_cells3 HII.out).2.1, (bx_cells3 HII.out).2.2⟩) ?_
    clear hK K
    try simp only [Act.put, List.setIfInBounds_toArray, List.set_cons_zero, List.set_cons_succ]
    refine wpU_one (i := 15) (by kernel_rfl) rfl (fun K hK => ?_)
    go_simp
    refine hK.out _ _ (fun h => absurd (show true = false from h) (by decide)) ?_
    clear hK K
    try simp only [Act.put, List.setIfInBounds_toArray, List.set_cons_zero, List.set_cons_succ]
    have d1 := HA1.out
    have d2 := HA2.out
    have HE := Lib.hid (HYES.out HNX.out _ HA3.out)
    refine wpU_one (i := 16) (by kernel_rfl) rfl (fun K hK => ?_)
    go_simp
    refine hK.out _ _ (fun h => absurd (show true = false from h) (by decide)) ?_
    clear hK K
    try simp only [Act.put, List.setIfInBounds_toArray, List.set_cons_zero, List.set_cons_succ]
    refine wpU_done (by kernel_rfl) ?_ _
    go_wp2_with fail
    first | exact HE.out | exact bodyPost_end (results_none Try.results92 _ _ _) rfl HE.out
end Ho
end Go.Proofs.Ytjpmebppdcclbaa
namespace Go.Proofs.Ytjpmebppdcclbaa
open Go.RowKit
namespace Ho
open Rp Hl
open Ht hiding D
theorem putI_len (c : List Itm) : ∀ o, (putI c o).length ≤ c.length + 1
  | none => by simp [putI]
  | some x => by
    show (addI c x).length ≤ _
    unfold addI
    split <;> simp
theorem addF_len {α : Type} {P : α → Option Itm} : ∀ {ys : List α} {c : List Itm}, (addF P c ys).length ≤ c.length + ys.length
  | [], c => by simp [addF]
  | y :: ys, c => by
    have h1 := addF_len (P := P) (ys := ys) (c := putI c (P y))
    have h2 := putI_len c (P y)
    rw [List.length_cons]
    exact Nat.le_trans h1 (by omega)
section
variable {B fb : Nat} {gt gn gs : Int} {ra : Option Addr} {rc : Nat} {K : List Rule} {O O' : Nat → Prop} {n : Nat} {L : Nat → List Itm} {w w' : World}
theorem _root_.Go.Proofs.Ytjpmebppdcclbaa.Ht.FM.sets (h : FM B fb gt gn gs ra rc K O n L w) : ∃ sb cap, w.cell? ⟨fb, 0 + 4, none⟩ = some (.slice (some ⟨sb, 0, none⟩) n cap) := by
  obtain ⟨sb, cap, val, h1, h2⟩ := h
  exact ⟨sb, cap, by simp [World.cell?, h1.box]⟩
theorem _root_.Go.Proofs.Ytjpmebppdcclbaa.Ht.FM.rules (h : FM B fb gt gn gs ra rc K O n L w) : w.cell? ⟨fb, 0 + 3, none⟩ = some (.slice ra K.length rc) := by
  obtain ⟨sb, cap, val, h1, h2⟩ := h
  simp [World.cell?, h1.box]
theorem _root_.Go.Proofs.Ytjpmebppdcclbaa.Ht.FM.rd (h : FM B fb gt gn gs ra rc K O n L w) : Rd (fun k => k < B) w (.sl (K.map Rule.d)) [.slice ra K.length rc] := by
  obtain ⟨sb, cap, val, h1, h2⟩ := h
  exact h1.rd
end
theorem upL_at (L : Nat → List Itm) (k : Nat) (c : List Itm) : upL L k c k = c := by unfold upL; rw [if_pos rfl]
theorem upL_up (L : Nat → List Itm) (k : Nat) (c d : List Itm) : upL (upL L k c) k d = upL L k d := by
  funext j
  unfold upL
  split <;> rfl
set_option maxHeartbeats 16000000 in
set_option maxRecDepth 100000 in
theorem predictE {B fb : Nat} {gt gn gs : Int} {ra : Option Addr} {rc : Nat} {K : List Rule} {O : Nat → Prop} {n : Nat} {L : Nat → List Itm} (W : World) (h : FM B fb gt gn gs ra rc K O n L W) (k : Nat) (hk : n = k + 1) (hn : n ≤ 100) (s : Sym) (hkl : K.length ≤ 100) (hc : (L k).length ≤ 900000) :
    Calls Try.prog 59 #[.pointer (some ⟨fb, 0, none⟩), .agg #[.bool s.term, .int .i64 s.n]] W (AddPost B fb gt gn gs ra rc K O n (upL L k (prF K s k (L k))) W) := by
  obtain ⟨w0, HW⟩ := nameIt (W.alloc (.cells #[.bool s.term, .int .i64 s.n] 44))
  have hw0 : Below W.heap.size W w0 := by rw [← HW.out]; exact (Below.refl _ _).alloc (Nat.le_refl _) _
  have HI0 : Hid (w0.heap[W.heap.size]? = some (.cells #[.bool s.term, .int .i64 s.n] 44 (0, 0))) := by rw [← HW.out]; exact bx_new _ _ _ rfl
  have HNO : Hid (¬ O W.heap.size) := FM.new h (Nat.le_refl _)
  have HF0 := Lib.hid (h.keep hw0)
  have HS0 : Hid (Stp O O W w0) := Stp.below hw0
  have HKK := Lib.hid hk
  have HC := Lib.hid hc
  obtain ⟨PST, HP⟩ := nameIt (AddPost B fb gt gn gs ra rc K O n (upL L k (prF K s k (L k))) W)
  have HFIN : Hid (∀ O' w', FM B fb gt gn gs ra rc K O' n (upL L k (prF K s k (L k))) w' → Stp O O' W w' → PST (.returned (.tuple #[])) w') := by
    intro O' w' h1 h2
    rw [← HP.out]
    exact ⟨rfl, O', h1, h2⟩
  rw [HP.out]
  have HCB := Lib.hid h.rd.bounds.2
  have HSY : Hid (∀ i (r : Rule), K[i]? = some r → prP K s k i = if (s.term == false && s.n == r.left) then some ⟨i, 0, k⟩ else none) := by
    intro i r hr
    unfold prP
    rw [hr]
    simp only [Option.any_some]
    have : decide (s = ⟨false, r.left⟩) = (s.term == false && s.n == r.left) := by
      obtain ⟨a, b⟩ := s
      rw [Bool.eq_iff_iff]
      simp
    simp only [this]
  obtain ⟨kn, HKN⟩ := nameIt K.length
  have HPF : Hid (prF K s k (L k) = addF (prP K s k) (L k) ((List.range kn).take kn)) := by
    show _ = _
    unfold prF
    rw [HKN.out, List.take_of_length_le (by simp)]
  obtain ⟨st, HST⟩ := nameIt s.term
  obtain ⟨sn, HSN⟩ := nameIt s.n
  rw [HST.out, HSN.out] at HW HI0
  simp only [HST.out, HSN.out] at HSY
  rw [HST.out, HSN.out]
  rw [HKN.out] at hkl HCB
  have hcb := HCB.out
  unfold maxLen at hcb
  obtain ⟨hcb1, hcb2⟩ := hcb
  have x3 := HF0.out.rules
  rw [HKN.out] at x3
  clear h hw0 hk hc HP
  go_enter Try.func59, Try.ntmps59
  go_upto_region 1 with fail
  rw [HW.out]
  clear HW
  go_wp2_with fail
  go_loopg [4, 5, 12] kn (fun gg v4 v5 v12 wr => ∃ (i : Nat) (O' : Nat → Prop), i ≤ kn ∧ kn - i ≤ gg ∧ v12 = .int .i64 (i : Int) ∧ Hid (FM B fb gt gn gs ra rc K O' n (upL L k (addF (prP K s k) (L k) ((List.range kn).take i))) wr) ∧ Hid (Stp O O' W wr) ∧ Hid (wr.heap[W.heap.size]? = some (.cells #[.bool st, .int .i64 sn] 44 (0, 0)) ∧ ¬ O' W.heap.size))
  case atStart => exact ⟨0, O, by omega, by omega, rfl, by rw [List.take_zero, show addF (prP K s k) (L k) [] = L k from rfl, upL_self]; exact HF0, HS0, ⟨HI0.out, HNO.out⟩⟩
  case round =>
    clear x3
    obtain ⟨i, O', hi, hgg, rfl, HF, HSP, HBX⟩ := hrel
    obtain ⟨wi, rfl⟩ : ∃ ww : World, ww = wr := ⟨_, rfl⟩
    by_cases hik : i < kn
    · have hik' : (i : Int) < (kn : Int) := by omega
      have hiK : i < K.length := by rw [HKN.out]; exact hik
      obtain ⟨bk, ro, v, hae, -, hbk, s0, s1, hrr⟩ := HF.out.rd.rule_at hiK
      have hsy := HSY.out i K[i] (List.getElem?_eq_getElem hiK)
      obtain ⟨av, cv, rfl, -, -⟩ := hrr.form
      obtain ⟨r, HRN⟩ := nameIt (K[i]'hiK)
      rw [HRN.out] at s0 s1 hsy
      obtain ⟨lf, RL⟩ := r
      dsimp only at s0 s1 hsy
      obtain ⟨rl, HRL⟩ := nameIt (RL.map Sym.d).length
      rw [HRL.out] at s1
      have hsucc := addF_succ (P := prP K s k) (c := L k) (ys := List.range kn) (j := i) (by simpa using hik)
      rw [List.getElem_range, hsy] at hsucc
      have hlen : (addF (prP K s k) (L k) ((List.range kn).take i)).length ≤ 900000 + 100 := by
        refine Nat.le_trans addF_len ?_
        have := HC.out
        rw [List.length_take, List.length_range]; omega
      obtain ⟨bq, HBQ⟩ := nameIt (st == false && sn == lf)
      have he := symEq st false sn lf
      rw [HBQ.out] at hsucc he
      obtain ⟨C, HCN⟩ := nameIt (addF (prP K s k) (L k) ((List.range kn).take i))
      rw [HCN.out] at hsucc hlen HF
      obtain ⟨w1, HW1⟩ := nameIt (wi.alloc (.cells #[.int .i64 lf, .slice av rl cv] 69))
      have hb1 : Below wi.heap.size wi w1 := by rw [← HW1.out]; exact (Below.refl _ _).alloc (Nat.le_refl _) _
      have X1 : Hid (w1.heap[wi.heap.size]? = some (.cells #[.int .i64 lf, .slice av rl cv] 69 (0, 0))) := by rw [← HW1.out]; exact bx_new _ _ _ rfl
      have HI1 := Lib.hid (bx_keep HBX.out.1 hb1)
      have HB1 := Lib.hid hb1
      have HSU := Lib.hid hsucc
      have HLE := Lib.hid hlen
      obtain ⟨q1, HQ1⟩ := nameIt wi.heap.size
      rw [HQ1.out] at X1
      subst hae
      clear hb1 hrr hsy hsucc hlen HRN
      go_upto_region 4 with fail
      rw [HW1.out, HQ1.out]
      clear HW1 s0 s1
      obtain ⟨y0, y1⟩ := bx_cells2 HI1.out
      obtain ⟨r0, -⟩ := bx_cells2 X1.out
      have i0 := aft_cell y0
      have i1 := aft_cell y1
      have i2 := aft_cell r0
      have HGN : Hid (∀ W2, Below w1.heap.size w1 W2 → Calls Try.prog 60 #[.int .i64 lf] W2 fun e w' => e = .returned (.agg #[.bool false, .int .i64 lf]) ∧ Below W2.heap.size W2 w') := fun W2 _ => gramN lf W2
      clear y0 y1 r0
      refine wp_region_after (by kernel_rfl) (by kernel_rfl) ?_
      repeat (go_big_quiet_step (with_reducible exact Calls.after (HGN.out _ (Aft.bel _))))
      refine wpQuiet_nil ?_
      rintro w2 ⟨⟨_, hb2⟩, rfl⟩
      have HB2 : Hid (Below wi.heap.size wi w2) := HB1.out.trans (hb2.mono HB1.out.size)
      have HF2 := Lib.hid (HF.out.keep HB2.out)
      have HSP2 : Hid (Stp O O' W w2) := HSP.out.trans (Stp.below HB2.out)
      have HBX2 : Hid (w2.heap[W.heap.size]? = some (.cells #[.bool st, .int .i64 sn] 44 (0, 0)) ∧ ¬ O' W.heap.size) := ⟨bx_keep HBX.out.1 HB2.out, HBX.out.2⟩
      clear hb2 i0 i1 i2 he
      cases bq with
      | false =>
        have hC : addF (prP K s k) (L k) ((List.range kn).take (i + 1)) = C := by rw [HSU.out]; rfl
        have HF3 : Hid (FM B fb gt gn gs (some ⟨bk, ro, none⟩) rc K O' n (upL L k (addF (prP K s k) (L k) ((List.range kn).take (i + 1)))) w2) := by rw [hC]; exact HF2.out
        clear hC
        go_wp2_with fail
        go_roundg (kn - (i + 1))
        case measure => omega
        case rel => exact ⟨i + 1, O', by omega, by omega, by go_num, HF3, HSP2, HBX2⟩
      | true =>
        have hC : addF (prP K s k) (L k) ((List.range kn).take (i + 1)) = addI C ⟨i, 0, k⟩ := by rw [HSU.out]; rfl
        have hadd := addE w2 HF2.out k HKK.out hn ⟨i, 0, k⟩ (by rw [upL_at]; have := HLE.out; omega)
        rw [upL_at, upL_up, ← hC] at hadd
        have HAD := Lib.hid hadd
        obtain ⟨sb, cap, c4⟩ := HF2.out.sets
        have hw1 : IntKind.i64.wrap ((n : Int) - 1) = (k : Int) := by have := HKK.out; rw [IntWalk.i64_in _ (by omega)]; omega
        clear hadd hC
        go_wp2_with fail
        refine HAD.out.mono ?_
        rintro e w3 ⟨rfl, O3, hf3, hs3⟩
        have HF3 := Lib.hid hf3
        have HSP3 : Hid (Stp O O3 W w3) := HSP2.out.trans hs3
        have HBX3 := Lib.hid (hs3.box HBX2.out.1 HBX2.out.2)
        clear hf3 hs3 c4
        go_wp2_with fail
        go_roundg (kn - (i + 1))
        case measure => omega
        case rel => exact ⟨i + 1, O3, by omega, by omega, by go_num, HF3, HSP3, HBX3⟩
    · have hik' : ¬ (i : Int) < (kn : Int) := by omega
      obtain rfl : i = kn := by omega
      rw [← HPF.out] at HF
      have HE := Lib.hid (HFIN.out O' wi HF.out HSP.out)
      go_wp2_with fail
      first | exact HE.out | exact bodyPost_end (results_none Try.results59 _ _ _) rfl HE.out
end Ho
end Go.Proofs.Ytjpmebppdcclbaa
namespace Go.Proofs.Ytjpmebppdcclbaa
namespace Ht
open Rp Hl
structure QOk (K : List Rule) (k : Nat) (L : Nat → List Itm) (Q : Itm → Prop) : Prop where
  ok : ∀ x, Q x → okI K k x
  start : ∀ x ∈ L k, Q x
  pred : ∀ x s i y, Q x → nxt K x = some s → prP K s k i = some y → Q y
  comp : ∀ x y z r, Q x → nxt K x = none → K[x.r]? = some r → (x.f < k ∧ y ∈ L x.f ∨ x.f = k ∧ Q y) → coP K r.left y = some z → Q z
structure CoI (k : Nat) (L : Nat → List Itm) (Q : Itm → Prop) (c : List Itm) : Prop where
  pre : L k <+: c
  nd : c.Nodup
  q : ∀ x ∈ c, Q x
section
variable {K : List Rule} {k : Nat} {L : Nat → List Itm} {Q : Itm → Prop} {c c' c0 : List Itm}
theorem CoI.start (hQ : QOk K k L Q) (hn : (L k).Nodup) : CoI k L Q (L k) := ⟨List.prefix_refl _, hn, hQ.start⟩
theorem CoI.pred (hQ : QOk K k L Q) (h : CoI k L Q c) {x : Itm} (hx : x ∈ c) {s : Sym} (hs : nxt K x = some s) : CoI k L Q (prF K s k c) := by
  refine ⟨h.pre.trans pre_addF, nodup_addF h.nd, fun y hy => ?_⟩
  rcases mem_addF.1 hy with hy | ⟨i, _, hi⟩
  · exact h.q y hy
  · exact hQ.pred x s i y (h.q x hx) hs hi
theorem CoI.comp (hQ : QOk K k L Q) (h : CoI k L Q c) {x : Itm} (hx : x ∈ c) {r : Rule} (hr : K[x.r]? = some r) (hs : nxt K x = none) : CoI k L Q (addF (coP K r.left) c (upL L k c x.f)) := by
  refine ⟨h.pre.trans pre_addF, nodup_addF h.nd, fun z hz => ?_⟩
  rcases mem_addF.1 hz with hz | ⟨y, hy, hi⟩
  · exact h.q z hz
  · have hf := (hQ.ok x (h.q x hx)).1
    refine hQ.comp x y z r (h.q x hx) hs hr ?_ hi
    unfold upL at hy
    split at hy
    · rename_i e; exact .inr ⟨e, h.q y hy⟩
    · exact .inl ⟨by omega, hy⟩
theorem clo_pred {x : Itm} {s : Sym} (hs : nxt K x = some s) (he : prF K s k c = c) : Clo K k (upL L k c) x := by
  unfold Clo
  rw [hs]
  show PrC K k (upL L k c k) s
  rw [Ho.upL_at]
  intro i r hr hsr
  rw [← he]
  refine mem_addF.2 (.inr ⟨i, ?_, prP_some.2 ⟨r, hr, hsr, rfl⟩⟩)
  rw [List.mem_range]
  rcases Nat.lt_or_ge i K.length with h | h
  · exact h
  · rw [List.getElem?_eq_none h] at hr; cases hr
theorem clo_comp {x : Itm} {r : Rule} (hr : K[x.r]? = some r) (hs : nxt K x = none) (he : addF (coP K r.left) c (upL L k c x.f) = c) : Clo K k (upL L k c) x := by
  unfold Clo
  rw [hs]
  show ∀ r', K[x.r]? = some r' → ∀ y ∈ upL L k c x.f, nxt K y = some ⟨false, r'.left⟩ → (⟨y.r, y.d + 1, y.f⟩ : Itm) ∈ upL L k c k
  intro r' hr' y hy hn
  rw [hr] at hr'
  cases hr'
  rw [Ho.upL_at, ← he]
  exact mem_addF.2 (.inr ⟨y, hy, coP_some.2 ⟨hn, rfl⟩⟩)
def Thr (K : List Rule) (k : Nat) (L : Nat → List Itm) (c0 c : List Itm) (i : Nat) : Prop := c0 <+: c ∧ (c.length = c0.length → ∀ x ∈ c.take i, Clo K k (upL L k c) x)
theorem Thr.start : Thr K k L c0 c0 0 := ⟨List.prefix_refl _, fun _ x hx => by simp at hx⟩
theorem Thr.step {i : Nat} (hi : i < c.length) (h : Thr K k L c0 c i) (hp : c <+: c') (hc : c' = c → Clo K k (upL L k c) c[i]) : Thr K k L c0 c' (i + 1) := by
  refine ⟨h.1.trans hp, fun hl x hx => ?_⟩
  have h1 := h.1.length_le
  have h2 := hp.length_le
  have e : c' = c := pre_eq hp (by omega)
  subst e
  rw [List.take_succ_eq_append_getElem hi, List.mem_append] at hx
  rcases hx with hx | hx
  · exact h.2 hl x hx
  · simp at hx
    rw [hx]
    exact hc rfl
theorem Thr.done {i : Nat} (hi : c.length ≤ i) (h : Thr K k L c0 c i) (hl : c.length = c0.length) : ∀ x ∈ c, Clo K k (upL L k c) x := by
  have := h.2 hl
  rw [List.take_of_length_le hi] at this
  exact this
theorem CoI.len (hr4 : ∀ r ∈ K, r.right.length ≤ 4) (hQ : QOk K k L Q) (h : CoI k L Q c) : c.length ≤ K.length * 5 * (k + 1) := items_le hr4 (fun x hx => hQ.ok x (h.q x hx)) h.nd
end
/-! the items of a set are sound: what complete and scan keep -/
theorem qok_sd {K : List Rule} {lf : Sym → Nat → Prop} {S : Int} {k : Nat} {L : Nat → List Itm} (hs : ∀ j, j ≤ k → ∀ x ∈ L j, Sd K lf S j x) : QOk K k L (fun x => Sd K lf S k x ∧ x.f ≤ k) := by
  have hle : ∀ x, Sd K lf S k x → x.f ≤ k := fun x ⟨r, _, _, _, h4⟩ => R0.le (fun s i j hp => Dx.le hp) h4
  refine ⟨fun x hx => ?_, fun x hx => ⟨hs k (Nat.le_refl _) x hx, hle x (hs k (Nat.le_refl _) x hx)⟩, fun x s i y hx hn hp => ?_, fun x y z r hx hn hr hy hz => ?_⟩
  · obtain ⟨r, h1, h2, _⟩ := hx.1
    exact ⟨hx.2, r, h1, h2⟩
  · obtain ⟨r, h1, h2, rfl⟩ := prP_some.1 hp
    rw [h2] at hn
    have := sd_pred hx.1 hn h1 rfl
    exact ⟨this, Nat.le_refl _⟩
  · obtain ⟨h1, rfl⟩ := coP_some.1 hz
    have hyS : Sd K lf S x.f y := by
      rcases hy with ⟨h2, h3⟩ | ⟨h2, h3⟩
      · exact hs x.f (by omega) y h3
      · rw [h2]; exact h3.1
    have := sd_comp hx.1 hn hr hyS h1
    exact ⟨this, hle _ this⟩
end Ht
end Go.Proofs.Ytjpmebppdcclbaa
namespace Go.Proofs.Ytjpmebppdcclbaa
namespace Ht
open Rp Hl
theorem plan_closed {K : List Rule} {lf : Sym → Nat → Nat → Option Val} {em : Nat → Nat → Option Val} {n : Nat} {ok : Sym → Prop} {M : Nat} {I : Tb → Prop} {mu : Tb → Nat} (P : Plan K lf em n ok M (fun _ _ _ T => I T) mu) : ∃ T, I T ∧ ClosedT K lf em n T := by
  have key : ∀ m T, I T → mu T ≤ m → ∃ T, I T ∧ ClosedT K lf em n T := by
    intro m
    induction m with
    | zero =>
      intro T hT hm
      refine ⟨T, hT, fun r hr i j hij hj => ?_⟩
      obtain ⟨a, ha, e⟩ := List.mem_iff_getElem.1 hr
      cases hb : better lf em T r i j with
      | false => rfl
      | true => have := (P.yes a i j T r (by rw [List.getElem?_eq_getElem ha, e]) hij hj hT hb).2; omega
    | succ m ih =>
      intro T hT hm
      by_cases hc : ClosedT K lf em n T
      · exact ⟨T, hT, hc⟩
      · unfold ClosedT at hc
        simp only [Classical.not_forall] at hc
        obtain ⟨r, hr, i, j, hij, hj, hb⟩ := hc
        obtain ⟨a, ha, e⟩ := List.mem_iff_getElem.1 hr
        have hb' : better lf em T r i j = true := by simpa using hb
        obtain ⟨h1, h2⟩ := P.yes a i j T r (by rw [List.getElem?_eq_getElem ha, e]) hij hj hT hb'
        exact ih _ h1 (by omega)
  exact key (mu _) _ P.start (Nat.le_refl _)
theorem sh_ex {K : List Rule} {N tm : Nat} (hN : N ≤ 10) (hK : KG N K (Hl.okS N tm)) (hr4 : ∀ r ∈ K, r.right.length ≤ 4) : ∃ S, CG leafS emS 0 N K (GS tm) S ∧ JS N S ∧ ClosedT K leafS emS 0 S := by
  obtain ⟨T, ⟨h1, h2⟩, h3⟩ := plan_closed (planSh hN hK hr4)
  exact ⟨T, h1, h2, h3⟩
structure NI (K : List Rule) (lf : Sym → Nat → Prop) (S : Int) (j : Nat) (L : Nat → List Itm) : Prop where
  gs : GS2 K lf S j L
  sd : ∀ i, i ≤ j → ∀ x ∈ L i, Sd K lf S i x
  nd : ∀ i, i ≤ j → (L i).Nodup
  em : ∀ i, j < i → L i = []
section
variable {K : List Rule} {lf : Sym → Nat → Prop} {S : Int} {j : Nat} {L : Nat → List Itm}
theorem sd_ok {k : Nat} {x : Itm} (h : Sd K lf S k x) : okI K k x := by
  obtain ⟨r, h1, h2, _, h4⟩ := h
  exact ⟨R0.le (fun s i j hp => Dx.le hp) h4, r, h1, h2⟩
theorem NI.len (h : NI K lf S j L) (hr4 : ∀ r ∈ K, r.right.length ≤ 4) (hk : K.length ≤ 100) (hj : j ≤ 50) : ∀ i, i ≤ j → (L i).length ≤ 50000 := by
  intro i hi
  have h1 := items_le hr4 (fun x hx => sd_ok (h.sd i hi x hx)) (h.nd i hi)
  have h2 : K.length * 5 * (i + 1) ≤ 100 * 5 * 100 := Nat.mul_le_mul (Nat.mul_le_mul_right _ hk) (by omega)
  omega
theorem ok_lt {k : Nat} {x : Itm} (h : okI K k x) : x.r < K.length := by
  obtain ⟨_, r, h2, _⟩ := h
  rcases Nat.lt_or_ge x.r K.length with h | h
  · exact h
  · rw [List.getElem?_eq_none h] at h2; cases h2
theorem NI.rule (h : NI K lf S j L) : ∀ i, i ≤ j → ∀ y ∈ L i, y.r < K.length := fun i hi y hy => ok_lt (sd_ok (h.sd i hi y hy))
theorem upL_at' (L : Nat → List Itm) (k : Nat) (c : List Itm) : upL L k c k = c := by unfold upL; rw [if_pos rfl]
theorem upL_ne (L : Nat → List Itm) {k i : Nat} (c : List Itm) (h : i ≠ k) : upL L k c i = L i := by unfold upL; rw [if_neg h]
theorem start_qok : QOk K 0 (upL (fun _ => []) 0 (prF K ⟨false, S⟩ 0 [])) (fun x => Sd K lf S 0 x ∧ x.f ≤ 0) := by
  refine qok_sd fun i hi x hx => ?_
  obtain rfl : i = 0 := by omega
  rw [upL_at'] at hx
  rcases mem_addF.1 hx with h | ⟨a, _, h⟩
  · cases h
  · obtain ⟨r, h1, h2, rfl⟩ := prP_some.1 h
    exact sd_start h1 (by cases h2; rfl)
theorem ni_start {c : List Itm} (h : CoI 0 (upL (fun _ => []) 0 (prF K ⟨false, S⟩ 0 [])) (fun x => Sd K lf S 0 x ∧ x.f ≤ 0) c) (hc : ∀ x ∈ c, Clo K 0 (upL (fun _ => []) 0 c) x) : NI K lf S 0 (upL (fun _ => []) 0 c) := by
  refine ⟨⟨?_, fun k hk x hx => ?_, fun k hk => by omega⟩, fun i hi x hx => ?_, fun i hi => ?_, fun i hi => upL_ne _ _ (by omega)⟩
  · rw [upL_at']
    intro i r hr hs
    have h1 := h.pre
    rw [upL_at'] at h1
    refine h1.subset (mem_addF.2 (.inr ⟨i, ?_, prP_some.2 ⟨r, hr, hs, rfl⟩⟩))
    rw [List.mem_range]
    rcases Nat.lt_or_ge i K.length with h | h
    · exact h
    · rw [List.getElem?_eq_none h] at hr; cases hr
  · obtain rfl : k = 0 := by omega
    rw [upL_at'] at hx
    exact hc x hx
  · obtain rfl : i = 0 := by omega
    rw [upL_at'] at hx
    exact (h.q x hx).1
  · obtain rfl : i = 0 := by omega
    rw [upL_at']; exact h.nd
theorem step_qok {cell : Sym} (h : NI K lf S j L) (hlf : ∀ x ∈ L j, ∀ s, nxt K x = some s → (lf s j ↔ fitB s cell = true)) : QOk K (j + 1) (upL L (j + 1) (addF (scP K cell) [] (L j))) (fun x => Sd K lf S (j + 1) x ∧ x.f ≤ j + 1) := by
  refine qok_sd fun i hi x hx => ?_
  by_cases e : i = j + 1
  · subst e
    rw [upL_at'] at hx
    rcases mem_addF.1 hx with h1 | ⟨y, hy, h1⟩
    · cases h1
    · obtain ⟨s, h2, h3, rfl⟩ := scP_some.1 h1
      exact sd_adv (h.sd j (Nat.le_refl _) y hy) h2 ⟨0, rfl, (hlf y hy s h2).2 h3⟩
  · rw [upL_ne _ _ e] at hx
    exact h.sd i (by omega) x hx
theorem ni_step {cell : Sym} {c : List Itm} (h : NI K lf S j L) (hlf : ∀ x ∈ L j, ∀ s, nxt K x = some s → (lf s j ↔ fitB s cell = true)) (hc : CoI (j + 1) (upL L (j + 1) (addF (scP K cell) [] (L j))) (fun x => Sd K lf S (j + 1) x ∧ x.f ≤ j + 1) c) (hcl : ∀ x ∈ c, Clo K (j + 1) (upL L (j + 1) c) x) : NI K lf S (j + 1) (upL L (j + 1) c) := by
  refine ⟨⟨?_, fun k hk x hx => ?_, fun k hk x hx s hs hl => ?_⟩, fun i hi x hx => ?_, fun i hi => ?_, fun i hi => ?_⟩
  · rw [upL_ne _ _ (by omega)]; exact h.gs.start
  · by_cases e : k = j + 1
    · subst e
      rw [upL_at'] at hx
      exact hcl x hx
    · rw [upL_ne _ _ e] at hx
      have h1 := h.gs.clo k (by omega) x hx
      have h2 := (sd_ok (h.sd k (by omega) x hx)).1
      unfold Clo at h1 ⊢
      rw [upL_ne _ _ e, upL_ne _ _ (show x.f ≠ j + 1 by omega)]
      exact h1
  · by_cases e : k = j
    · subst e
      rw [upL_ne _ _ (by omega)] at hx
      rw [upL_at']
      have h1 := hc.pre
      rw [upL_at'] at h1
      exact h1.subset (mem_addF.2 (.inr ⟨x, hx, scP_some.2 ⟨s, hs, (hlf x hx s hs).1 hl, rfl⟩⟩))
    · rw [upL_ne _ _ (by omega)] at hx
      rw [upL_ne _ _ (by omega)]
      exact h.gs.scan k (by omega) x hx s hs hl
  · by_cases e : i = j + 1
    · subst e
      rw [upL_at'] at hx
      exact (hc.q x hx).1
    · rw [upL_ne _ _ e] at hx
      exact h.sd i (by omega) x hx
  · by_cases e : i = j + 1
    · subst e; rw [upL_at']; exact hc.nd
    · rw [upL_ne _ _ e]; exact h.nd i (by omega)
  · rw [upL_ne _ _ (by omega)]; exact h.em i (by omega)
end
theorem kw_cell {K : List Rule} {N : Nat} {hw : Sym → Bool} {l : List Sym} {k : Nat} (hk : k < l.length) {x : Itm} {s : Sym} (hn : nxt (KW K hw) x = some s) : lfB hw N l s k ↔ fitB s l[k] = true := by
  obtain ⟨r, h1, h2⟩ := nxt_some.1 hn
  have h3 := (mem_KW.1 (List.mem_of_getElem? h1)).2 s (List.mem_of_getElem? h2)
  have e : l.getD k ⟨true, 0⟩ = l[k] := by rw [List.getD_eq_getElem?_getD, List.getElem?_eq_getElem hk]; rfl
  unfold lfB
  rw [e]
  constructor
  · exact fun h => h.2.1
  · intro h
    refine ⟨hk, h, ?_⟩
    unfold hwS at h3
    rw [Bool.or_eq_true] at h3
    exact h3.elim .inl (fun h => .inr (.inr h))
theorem next_it {K : List Rule} {N tm : Nat} {hw : Sym → Bool} {l : List Sym} {S t : Int} (hK : KG N K (Hl.okS N tm)) (hH : HW K hw) (hl : ∀ c ∈ l, cellOk N tm c) (hS : 0 ≤ S) (ht : 0 ≤ t) :
    (hw ⟨false, S⟩ = true ∧ Dx (KO K N hw) (lfB hw N (l ++ [⟨true, t⟩])) ⟨false, S + N⟩ 0 (l.length + 1)) ↔ It (KW K hw) (lfB hw N l) S l.length t := by
  have hc : ∀ s i, i < l.length → (lfB hw N (l ++ [⟨true, t⟩]) s i ↔ lfB hw N l s i) := fun s i hi => lf_cells hi
  constructor
  · rintro ⟨_, h⟩
    exact it_cells hc ((begins_iff hK hH hl hS ht).1 h)
  · intro h
    refine ⟨?_, (begins_iff hK hH hl hS ht).2 (it_cells (fun s i hi => (hc s i hi).symm) h)⟩
    cases e : hw ⟨false, S⟩ with
    | true => rfl
    | false => exact absurd h (it_none hH e)
theorem next_set {K : List Rule} {N : Nat} {hw : Sym → Bool} {l : List Sym} {S t : Int} {L : Nat → List Itm} (h : NI (KW K hw) (lfB hw N l) S l.length L) : It (KW K hw) (lfB hw N l) S l.length t ↔ ∃ x ∈ L l.length, nxt (KW K hw) x = some ⟨true, t⟩ :=
  gs_it (fun _ _ h => h.1) h.gs (h.sd _ (Nat.le_refl _)) t
end Ht
end Go.Proofs.Ytjpmebppdcclbaa
namespace Go.Proofs.Ytjpmebppdcclbaa
open Go.RowKit
inductive Pth (E : List (Nat × Nat)) : Nat → Nat → Prop
  | one {i j : Nat} : (i, j) ∈ E → Pth E i j
  | cons {i j k : Nat} : (i, j) ∈ E → Pth E j k → Pth E i k
theorem Pth.trans {E : List (Nat × Nat)} {i j k : Nat} (h : Pth E i j) (h2 : Pth E j k) : Pth E i k := by
  induction h with
  | one h => exact .cons h h2
  | cons h _ ih => exact .cons h (ih h2)
theorem Pth.snoc {E : List (Nat × Nat)} {i j k : Nat} (h : Pth E i j) (h2 : (j, k) ∈ E) : Pth E i k := h.trans (.one h2)
def fw (E : List (Nat × Nat)) : Nat → Nat → Nat → Bool
  | 0, i, j => decide ((i, j) ∈ E)
  | k + 1, i, j => fw E k i j || (fw E k i k && fw E k k j)
def stp (U : Nat → Bool) (e : Nat × Nat) : Nat → Bool := if U e.1 then (fun x => x == e.2 || U x) else U
def cnt (N : Nat) (U : Nat → Bool) : Nat := ((List.range N).filter U).length
theorem filter_lt {l : List Nat} {U V : Nat → Bool} (h : ∀ x ∈ l, U x = true → V x = true) : (l.filter U).length ≤ (l.filter V).length ∧ (∀ x ∈ l, V x = true → U x = false → (l.filter U).length < (l.filter V).length) := by
  induction l with
  | nil => simp
  | cons a l ih =>
    obtain ⟨h1, h2⟩ := ih fun x hx => h x (List.mem_cons_of_mem _ hx)
    have ha := h a List.mem_cons_self
    simp only [List.filter_cons]
    constructor
    · cases hu : U a <;> cases hv : V a <;> simp_all <;> omega
    · intro x hx hv hu
      rcases List.mem_cons.1 hx with rfl | hx
      · rw [hu, hv]; simp; omega
      · have := h2 x hx hv hu
        cases hu' : U a <;> cases hv' : V a <;> simp_all <;> omega
end Go.Proofs.Ytjpmebppdcclbaa
namespace Go.Proofs.Ytjpmebppdcclbaa
open Go.RowKit
namespace Cs
def hasK (S : Nat → Nat → Bool) (s : Sym) (k : Nat) : Bool := if s.term then decide (k = 1) else S s.n.toNat k
def canK (S : Nat → Nat → Bool) : List Sym → Nat → Bool
  | [], k => decide (k = 0)
  | s :: l, k => (List.range (k + 1)).any fun i => hasK S s i && canK S l (k - i)
def splitK (S : Nat → Nat → Bool) (a b : List Sym) (k : Nat) : Bool := (List.range (k + 1)).any fun i => canK S a i && canK S b (k - i)
theorem canK_cons {S : Nat → Nat → Bool} {s : Sym} {l : List Sym} {k : Nat} : canK S (s :: l) k = true ↔ ∃ i, i ≤ k ∧ hasK S s i = true ∧ canK S l (k - i) = true := by
  rw [canK, List.any_eq_true]
  constructor
  · rintro ⟨i, hi, h⟩
    rw [Bool.and_eq_true] at h
    exact ⟨i, by have := List.mem_range.1 hi; omega, h⟩
  · rintro ⟨i, hi, h1, h2⟩
    exact ⟨i, List.mem_range.2 (by omega), by rw [h1, h2]; rfl⟩
def Fine (S : Nat → Nat → Bool) (G : Nat → Nat → Prop) (l : List Sym) (k : Nat) : Prop :=
  ∀ (p : Nat) (s : Sym) (i a : Nat), l[p]? = some s → s.term = false → S s.n.toNat i = true → a + i ≤ k → canK S (l.take p) a = true → canK S (l.drop (p + 1)) (k - a - i) = true → G s.n.toNat i
theorem Fine.tail {S : Nat → Nat → Bool} {G : Nat → Nat → Prop} {s : Sym} {l : List Sym} {k i : Nat} (h : Fine S G (s :: l) k) (hi : i ≤ k) (h1 : hasK S s i = true) : Fine S G l (k - i) := by
  intro p s' j a hp ht hS ha h2 h3
  refine h (p + 1) s' j (i + a) hp ht hS (by omega) ?_ ?_
  · rw [List.take_succ_cons, canK_cons]
    exact ⟨i, by omega, h1, by rw [Nat.add_sub_cancel_left]; exact h2⟩
  · rw [List.drop_succ_cons]
    have : k - (i + a) - j = k - i - a - j := by omega
    rw [this]; exact h3
def reachN (T : Nat → Nat → Bool) (size u : Nat) : Nat := ((List.range size).filter fun v => T u v).length
def edg (size : Nat) (F : Nat → Nat → Bool) : List (Nat × Nat) := (List.range size).flatMap fun i => ((List.range size).filter fun j => F i j).map fun j => (i, j)
def clo (size : Nat) (F : Nat → Nat → Bool) (i j : Nat) : Bool := fw (edg size F) size i j
def manyK (T : Nat → Nat → Bool) (jm u : Nat) : Bool := (List.range jm).any fun j => (u == j || T u j) && T j j
def listStep (cap : Int) (sum o l : Int) : Int := min (IntKind.i64.wrap (sum + IntKind.i64.wrap (o * l))) cap
def listV (S : Nat → Nat → Bool) (cap : Int) (o : Sym → Nat → Int) : List Sym → Nat → Int
  | [], k => if k = 0 then 1 else 0
  | s :: l, k => (List.range (k + 1)).foldl (fun sum i => if (hasK S s i && canK S l (k - i)) = true then listStep cap sum (o s i) (listV S cap o l (k - i)) else sum) 0
def symV (S : Nat → Nat → Bool) (f : Nat → Nat → Int) (s : Sym) (k : Nat) : Int := if hasK S s k = false then 0 else if s.term then 1 else f s.n.toNat k
def ofF (rules : List Rule) (S M : Nat → Nat → Bool) (cap many : Int) : Nat → Nat → Nat → Int
  | 0, _, _ => 0
  | f + 1, A, k => if S A k = false then 0 else if M A k then many else rules.foldl (fun sum r => if r.left = (A : Int) then min (IntKind.i64.wrap (sum + listV S cap (symV S (ofF rules S M cap many f)) r.right k)) cap else sum) 0
def okK (T M : Nat → Nat → Bool) (n size f A k : Nat) : Prop := M A k = true ∨ reachN T size (A * (n + 1) + k) < f
section
variable {rules : List Rule} {S M T : Nat → Nat → Bool} {N n size : Nat} {cap many : Int}
theorem okK.mono {f f' A k : Nat} (h : okK T M n size f A k) (hf : f ≤ f') : okK T M n size f' A k := h.imp id fun h => by omega
def valK (rules : List Rule) (S M : Nat → Nat → Bool) (cap many : Int) (size : Nat) (A k : Nat) : Int := ofF rules S M cap many (size + 2) A k
end
end Cs
end Go.Proofs.Ytjpmebppdcclbaa
namespace Go.Proofs.Ytjpmebppdcclbaa
open Go.RowKit
namespace Cs
def updB (F : Nat → Nat → Bool) (a b : Nat) : Nat → Nat → Bool := fun k l => if k = a ∧ l = b then true else F k l
def e1 (S : Nat → Nat → Bool) (n : Nat) (r : Rule) (k i : Nat) (F : Nat → Nat → Bool) (j : Nat) : Nat → Nat → Bool :=
  if (S ((r.right.getD i ⟨true, 0⟩).n.toNat) j && splitK S (r.right.take i) (r.right.drop (i + 1)) (k - j)) = true then updB F (r.left.toNat * (n + 1) + k) ((r.right.getD i ⟨true, 0⟩).n.toNat * (n + 1) + j) else F
def e2 (S : Nat → Nat → Bool) (n : Nat) (r : Rule) (k i : Nat) (F : Nat → Nat → Bool) (jm : Nat) : Nat → Nat → Bool := (List.range jm).foldl (e1 S n r k i) F
def e3 (S : Nat → Nat → Bool) (n : Nat) (r : Rule) (k : Nat) (F : Nat → Nat → Bool) (im : Nat) : Nat → Nat → Bool := (List.range im).foldl (fun F i => if (r.right.getD i ⟨true, 0⟩).term then F else e2 S n r k i F (k + 1)) F
def e4 (S : Nat → Nat → Bool) (n : Nat) (r : Rule) (F : Nat → Nat → Bool) (km : Nat) : Nat → Nat → Bool := (List.range km).foldl (fun F k => e3 S n r k F r.right.length) F
def e5 (S : Nat → Nat → Bool) (n : Nat) (l : List Rule) : Nat → Nat → Bool := l.foldl (fun F r => e4 S n r F (n + 1)) (fun _ _ => false)
section
variable {S : Nat → Nat → Bool} {n : Nat} {u v : Nat}
end
def sizeK (N n : Nat) : Nat := N * (n + 1)
def clK (rules : List Rule) (S : Nat → Nat → Bool) (N n : Nat) : Nat → Nat → Bool := clo (sizeK N n) (e5 S n rules)
def MK (rules : List Rule) (S : Nat → Nat → Bool) (N n : Nat) : Nat → Nat → Bool := fun A k => manyK (clK rules S N n) (sizeK N n) (A * (n + 1) + k)
def p1 (r : Rule) (st : (Nat → Nat → Bool) × Bool) (k : Nat) : (Nat → Nat → Bool) × Bool := if (!st.1 r.left.toNat k && canK st.1 r.right k) = true then (updB st.1 r.left.toNat k, true) else st
def p2 (n : Nat) (st : (Nat → Nat → Bool) × Bool) (r : Rule) : (Nat → Nat → Bool) × Bool := (List.range (n + 1)).foldl (p1 r) st
def p3 (n : Nat) (l : List Rule) (S : Nat → Nat → Bool) : (Nat → Nat → Bool) × Bool := l.foldl (p2 n) (S, false)
end Cs
end Go.Proofs.Ytjpmebppdcclbaa
namespace Go.Proofs.Ytjpmebppdcclbaa
open Go.RowKit
namespace Cs
def enL (S : Nat → Nat → Bool) (o : Sym → Nat → List Tree) : List Sym → Nat → List (List Tree)
  | [], k => if k = 0 then [[]] else []
  | s :: l, k => (List.range (k + 1)).flatMap fun i => if (hasK S s i && canK S l (k - i)) = true then (o s i).flatMap fun x => (enL S o l (k - i)).map (x :: ·) else []
def symE (S : Nat → Nat → Bool) (e : Nat → Nat → List Tree) (s : Sym) (k : Nat) : List Tree := if hasK S s k = false then [] else if s.term then [.node (-1) s.n []] else e s.n.toNat k
def enR (S : Nat → Nat → Bool) (o : Sym → Nat → List Tree) (A : Int) (k : Nat) : List Rule → Nat → List Tree
  | [], _ => []
  | r :: rs, j => (if r.left = A then (enL S o r.right k).map fun ks => Tree.node (j : Int) 0 ks else []) ++ enR S o A k rs (j + 1)
def enF (rules : List Rule) (S : Nat → Nat → Bool) : Nat → Nat → Nat → List Tree
  | 0, _, _ => []
  | f + 1, A, k => if S A k = false then [] else enR S (symE S (enF rules S f)) (A : Int) k rules 0
def Gd (M T : Nat → Nat → Bool) (N n size f A k : Nat) : Prop := A < N ∧ k ≤ n ∧ M A k = false ∧ reachN T size (A * (n + 1) + k) < f
theorem Fine.mono {S : Nat → Nat → Bool} {G G' : Nat → Nat → Prop} {l : List Sym} {k : Nat} (h : Fine S G l k) (hg : ∀ A i, G A i → G' A i) : Fine S G' l k := fun p s i a h1 h2 h3 h4 h5 h6 => hg _ _ (h p s i a h1 h2 h3 h4 h5 h6)
section
variable {rules : List Rule} {S M T : Nat → Nat → Bool} {N n size : Nat} {cap many : Int}
theorem Gd.mono {f f' A k : Nat} (h : Gd M T N n size f A k) (hf : f ≤ f') : Gd M T N n size f' A k := ⟨h.1, h.2.1, h.2.2.1, Nat.lt_of_lt_of_le h.2.2.2 hf⟩
def EN (rules : List Rule) (S : Nat → Nat → Bool) (size : Nat) : Nat → Nat → List Tree := enF rules S (size + 2)
end
def prodL (xs : List Tree) (ys : List (List Tree)) : List (List Tree) := xs.flatMap fun x => ys.map (x :: ·)
def blk (S : Nat → Nat → Bool) (o : Sym → Nat → List Tree) (s : Sym) (l : List Sym) (k i : Nat) : List (List Tree) := if (hasK S s i && canK S l (k - i)) = true then prodL (o s i) (enL S o l (k - i)) else []
def pre (S : Nat → Nat → Bool) (o : Sym → Nat → List Tree) (s : Sym) (l : List Sym) (k m : Nat) : List (List Tree) := (List.range m).flatMap (blk S o s l k)
section
variable {rules : List Rule} {S M T : Nat → Nat → Bool} {N n size : Nat} {cap many : Int}
end
end Cs
end Go.Proofs.Ytjpmebppdcclbaa
namespace Go.Proofs.Ytjpmebppdcclbaa
open Go.RowKit
namespace Cs
section
variable {rules : List Rule} {S M T : Nat → Nat → Bool} {N n size : Nat} {cap many : Int}
end
end Cs
end Go.Proofs.Ytjpmebppdcclbaa
namespace Go.Proofs.Ytjpmebppdcclbaa
open Go.RowKit
theorem made_at (z : Value) (n j : Nat) (h : j < n) : (madeCells #[z] n)[j]? = some z := by
  simp [madeCells, h, Nat.mod_one]
structure Tab (B bt n m : Nat) (rb : Nat → Nat) (lo : Nat) (val : Nat → Nat → Int) (wr : World) : Prop where
  tb : ∃ cs, wr.heap[bt]? = some (.cells cs 25 (0, 0)) ∧ cs.size = n + 1 ∧ ∀ k, lo ≤ k → k ≤ n → cs[k]? = some (.slice (some ⟨rb k, 0, none⟩) (m + 1) (m + 1))
  row : ∀ k, lo ≤ k → k ≤ n → ∃ cs, wr.heap[rb k]? = some (.cells cs 3 (0, 0)) ∧ cs.size = m + 1 ∧ ∀ j, j ≤ m → cs[j]? = some (.int .i64 (val k j))
  inj : ∀ k k', lo ≤ k → k ≤ n → lo ≤ k' → k' ≤ n → rb k = rb k' → k = k'
  ne : ∀ k, lo ≤ k → k ≤ n → rb k ≠ bt ∧ B ≤ rb k
  bB : B ≤ bt
section
variable {B bt n m : Nat} {rb : Nat → Nat} {lo : Nat} {val : Nat → Nat → Int} {wr w' : World}
theorem Tab.keep (h : Tab B bt n m rb lo val wr) (hb : Below wr.heap.size wr w') : Tab B bt n m rb lo val w' := by
  obtain ⟨⟨cs, h1, h2, h3⟩, h4, h5, h6, h7⟩ := h
  refine ⟨⟨cs, bx_keep h1 hb, h2, h3⟩, fun k hk hn => ?_, h5, h6, h7⟩
  obtain ⟨rs, r1, r2⟩ := h4 k hk hn
  exact ⟨rs, bx_keep r1 hb, r2⟩
theorem Tab.grown {row : Option Nat} (h : Tab B bt n m rb lo val wr) (hg : wr.grownBy w' row) (hr : ∀ k, row = some k → k ≠ bt ∧ ∀ i, lo ≤ i → i ≤ n → rb i ≠ k) : Tab B bt n m rb lo val w' := by
  obtain ⟨⟨cs, h1, h2, h3⟩, h4, h5, h6, h7⟩ := h
  refine ⟨⟨cs, ?_, h2, h3⟩, fun k hk hn => ?_, h5, h6, h7⟩
  · rw [hg.block bt (Array.getElem?_eq_some_iff.1 h1).1 (fun e => (hr bt e.symm).1 rfl)]; exact h1
  · obtain ⟨rs, r1, r2⟩ := h4 k hk hn
    refine ⟨rs, ?_, r2⟩
    rw [hg.block (rb k) (Array.getElem?_eq_some_iff.1 r1).1 (fun e => (hr _ e.symm).2 k hk hn rfl)]; exact r1
theorem Tab.cell (h : Tab B bt n m rb lo val wr) {k j : Nat} (hk : lo ≤ k) (hn : k ≤ n) (hj : j ≤ m) : wr.cell? ⟨rb k, j, none⟩ = some (.int .i64 (val k j)) := by
  obtain ⟨cs, h1, h2, h3⟩ := h.row k hk hn
  simp [World.cell?, h1, h3 j hj]
theorem Tab.free (h : Tab B bt n m rb lo val wr) {k : Nat} (hk : lo ≤ k) (hn : k ≤ n) (j : Nat) : wr.frozen? ⟨rb k, j, none⟩ = false := by
  obtain ⟨cs, h1, h2, h3⟩ := h.row k hk hn
  simp [World.frozen?, h1]
theorem Tab.lt (h : Tab B bt n m rb lo val wr) : bt < wr.heap.size := by
  obtain ⟨cs, h1, _⟩ := h.tb
  exact (Array.getElem?_eq_some_iff.1 h1).1
theorem Tab.rlt (h : Tab B bt n m rb lo val wr) {k : Nat} (hk : lo ≤ k) (hn : k ≤ n) : rb k < wr.heap.size := by
  obtain ⟨cs, h1, _⟩ := h.row k hk hn
  exact (Array.getElem?_eq_some_iff.1 h1).1
theorem Tab.set (h : Tab B bt n m rb lo val wr) {i j : Nat} (hi : lo ≤ i) (hin : i ≤ n) (hj : j ≤ m) (x : Int) : Tab B bt n m rb lo (fun k l => if k = i ∧ l = j then x else val k l) (wr.setCell ⟨rb i, j, none⟩ (.int .i64 x)) := by
  obtain ⟨⟨cs, h1, h2, h3⟩, h4, h5, h6, h7⟩ := h
  refine ⟨⟨cs, bx_other h1 (fun e => (h6 i hi hin).1 e.symm) _ _, h2, h3⟩, fun k hk hn => ?_, h5, h6, h7⟩
  obtain ⟨rs, r1, r2, r3⟩ := h4 k hk hn
  by_cases e : k = i
  · subst e
    refine ⟨rs.setIfInBounds j (.int .i64 x), bx_set r1 _ _, by simpa using r2, fun l hl => ?_⟩
    rw [Array.getElem?_setIfInBounds]
    by_cases e2 : j = l
    · subst e2
      rw [if_pos rfl, if_pos (by omega)]; simp
    · rw [if_neg e2, r3 l hl]
      simp [show ¬ l = j from fun h => e2 h.symm]
  · refine ⟨rs, bx_other r1 (fun e2 => e (h5 k i hk hn hi hin e2)) _ _, r2, fun l hl => ?_⟩
    rw [r3 l hl]; simp [e]
theorem Tab.add {i : Nat} (h : Tab B bt n m rb (i + 1) val wr) (hi : i ≤ n) (hB : B ≤ wr.heap.size) :
    Tab B bt n m (fun k => if k = i then wr.heap.size else rb k) i (fun k l => if k = i then 0 else val k l) ((wr.alloc (.cells (madeCells #[.int .i64 0] (m + 1)) 3)).setCell ⟨bt, i, none⟩ (.slice (some ⟨wr.heap.size, 0, none⟩) (m + 1) (m + 1))) := by
  have hbt := h.lt
  have hrl := fun k hk hn => h.rlt (k := k) hk hn
  obtain ⟨⟨cs, h1, h2, h3⟩, h4, h5, h6, h7⟩ := h
  have hba : Below wr.heap.size wr (wr.alloc (.cells (madeCells #[.int .i64 0] (m + 1)) 3)) := (Below.refl _ _).alloc (Nat.le_refl _) _
  refine ⟨⟨cs.setIfInBounds i (.slice (some ⟨wr.heap.size, 0, none⟩) (m + 1) (m + 1)), bx_set (bx_keep h1 hba) _ _, by simpa using h2, fun k hk hn => ?_⟩, fun k hk hn => ?_, fun k k' hk hn hk' hn' e => ?_, fun k hk hn => ?_, h7⟩
  · rw [Array.getElem?_setIfInBounds]
    by_cases e : i = k
    · subst e
      rw [if_pos rfl, if_pos (by omega)]; simp
    · rw [if_neg e, h3 k (by omega) hn]
      simp [show ¬ k = i from fun h => e h.symm]
  · by_cases e : k = i
    · subst e
      refine ⟨madeCells #[.int .i64 0] (m + 1), ?_, size_madeCells _ _, fun j hj => ?_⟩
      · simp only [if_true]
        exact bx_other (bx_new _ _ _ rfl) (by omega) _ _
      · rw [made_at _ _ _ (by omega)]; simp
    · obtain ⟨rs, r1, r2, r3⟩ := h4 k (by omega) hn
      refine ⟨rs, ?_, r2, fun j hj => by rw [r3 j hj]; simp [e]⟩
      simp only [e, if_false]
      exact bx_other (bx_keep r1 hba) (h6 k (by omega) hn).1 _ _
  · by_cases e1 : k = i <;> by_cases e2 : k' = i <;> simp only [e1, e2, if_true, if_false] at e ⊢
    · have := hrl k' (by omega) hn'; omega
    · have := hrl k (by omega) hn; omega
    · exact h5 k k' (by omega) hn (by omega) hn' e
  · by_cases e : k = i
    · subst e; simp only [if_true]; omega
    · simp only [e, if_false]; exact h6 k (by omega) hn
theorem Tab.eq {val' : Nat → Nat → Int} (h : Tab B bt n m rb lo val wr) (he : ∀ k j, lo ≤ k → k ≤ n → j ≤ m → val k j = val' k j) : Tab B bt n m rb lo val' wr := by
  obtain ⟨h1, h4, h5, h6, h7⟩ := h
  refine ⟨h1, fun k hk hn => ?_, h5, h6, h7⟩
  obtain ⟨rs, r1, r2, r3⟩ := h4 k hk hn
  exact ⟨rs, r1, r2, fun j hj => by rw [r3 j hj, he k j hk hn hj]⟩
end
end Go.Proofs.Ytjpmebppdcclbaa
namespace Go.Proofs.Ytjpmebppdcclbaa
open Go.RowKit
namespace Cs
structure Tb (te : TypeId) (lo hi bt N M : Nat) (rb : Nat → Nat) (val : Nat → Nat → Value) (W : World) : Prop where
  hdr : ∃ cs T, W.heap[bt]? = some (.cells cs T (0, 0)) ∧ ∀ a, a < N → cs[a]? = some (.slice (some ⟨rb a, 0, none⟩) M M)
  row : ∀ a, a < N → ∃ cs, W.heap[rb a]? = some (.cells cs te (0, 0)) ∧ cs.size = M ∧ ∀ k, k < M → cs[k]? = some (val a k)
  inj : ∀ a b, a < N → b < N → rb a = rb b → a = b
  ne : ∀ a, a < N → rb a ≠ bt ∧ lo ≤ rb a ∧ rb a < hi
  pl : lo ≤ bt ∧ bt < hi
section
variable {te : TypeId} {lo hi bt N M : Nat} {rb : Nat → Nat} {val : Nat → Nat → Value} {W W' : World}
theorem Tb.other (h : Tb te lo hi bt N M rb val W) (hs : ∀ k, lo ≤ k → k < hi → W'.heap[k]? = W.heap[k]?) : Tb te lo hi bt N M rb val W' := by
  obtain ⟨⟨cs, T, h1, h2⟩, h3, h4, h5, h6⟩ := h
  refine ⟨⟨cs, T, by rw [hs bt h6.1 h6.2]; exact h1, h2⟩, fun a ha => ?_, h4, h5, h6⟩
  obtain ⟨rs, r1, r2⟩ := h3 a ha
  exact ⟨rs, by rw [hs _ (h5 a ha).2.1 (h5 a ha).2.2]; exact r1, r2⟩
theorem Tb.keep (h : Tb te lo hi bt N M rb val W) (hh : hi ≤ W.heap.size) (hb : Below W.heap.size W W') : Tb te lo hi bt N M rb val W' := h.other fun k _ h2 => hb.block k (by omega)
theorem Tb.cell (h : Tb te lo hi bt N M rb val W) {a k : Nat} (ha : a < N) (hk : k < M) : W.cell? ⟨rb a, k, none⟩ = some (val a k) := by
  obtain ⟨cs, h1, h2, h3⟩ := h.row a ha
  simp [World.cell?, h1, h3 k hk]
theorem Tb.free (h : Tb te lo hi bt N M rb val W) {a : Nat} (ha : a < N) (k : Nat) : W.frozen? ⟨rb a, k, none⟩ = false := by
  obtain ⟨cs, h1, h2, h3⟩ := h.row a ha
  simp [World.frozen?, h1]
theorem Tb.set (h : Tb te lo hi bt N M rb val W) {a k : Nat} (ha : a < N) (hk : k < M) (x : Value) : Tb te lo hi bt N M rb (fun b l => if b = a ∧ l = k then x else val b l) (W.setCell ⟨rb a, k, none⟩ x) := by
  obtain ⟨⟨cs, T, h1, h2⟩, h3, h4, h5, h6⟩ := h
  refine ⟨⟨cs, T, bx_other h1 (fun e => (h5 a ha).1 e.symm) _ _, h2⟩, fun b hb => ?_, h4, h5, h6⟩
  obtain ⟨rs, r1, r2, r3⟩ := h3 b hb
  by_cases e : b = a
  · subst e
    refine ⟨rs.setIfInBounds k x, bx_set r1 _ _, by simpa using r2, fun l hl => ?_⟩
    rw [Array.getElem?_setIfInBounds]
    by_cases e2 : k = l
    · subst e2
      rw [if_pos rfl, if_pos (by omega)]; simp
    · rw [if_neg e2, r3 l hl]
      simp [show ¬ l = k from fun h => e2 h.symm]
  · refine ⟨rs, bx_other r1 (fun e2 => e (h4 b a hb ha e2)) _ _, r2, fun l hl => ?_⟩
    rw [r3 l hl]; simp [e]
theorem Tb.eq {val' : Nat → Nat → Value} (h : Tb te lo hi bt N M rb val W) (he : ∀ a k, a < N → k < M → val a k = val' a k) : Tb te lo hi bt N M rb val' W := by
  obtain ⟨h1, h3, h4, h5, h6⟩ := h
  refine ⟨h1, fun a ha => ?_, h4, h5, h6⟩
  obtain ⟨rs, r1, r2, r3⟩ := h3 a ha
  exact ⟨rs, r1, r2, fun k hk => by rw [r3 k hk, he a k ha hk]⟩
end
structure TbI (te tr : TypeId) (B M : Nat) (x : Value) (L : List Nat) (v : Value) (W : World) : Prop where
  own : W.ownsRow B tr 1 v L.length (L.map fun b => .slice (some ⟨b, 0, none⟩) M M)
  rows : ∀ b ∈ L, B ≤ b ∧ b < W.heap.size ∧ v.ownBlock ≠ some b ∧ ∃ cs, W.heap[b]? = some (.cells cs te (0, 0)) ∧ cs.size = M ∧ ∀ k, k < M → cs[k]? = some x
  nd : L.Nodup
  le : B ≤ W.heap.size
section
variable {te tr : TypeId} {B M : Nat} {x : Value} {L : List Nat} {v : Value} {W W' : World}
theorem TbI.nil (te tr : TypeId) (B M : Nat) (x : Value) (W : World) (h : B ≤ W.heap.size) : TbI te tr B M x [] (.slice none 0 0) W := ⟨World.ownsRow_nil _ _ _ _, (fun b hb => by cases hb), List.nodup_nil, h⟩
theorem TbI.keep (h : TbI te tr B M x L v W) (hb : Below W.heap.size W W') : TbI te tr B M x L v W' := by
  obtain ⟨h1, h2, h3, h4⟩ := h
  refine ⟨own_keep h1 hb, fun b hb' => ?_, h3, Nat.le_trans h4 hb.size⟩
  obtain ⟨k1, k2, k3, cs, k4, k5⟩ := h2 b hb'
  exact ⟨k1, Nat.lt_of_lt_of_le k2 hb.size, k3, cs, bx_keep k4 hb, k5⟩
theorem TbI.add {g : Nat} {v' : Value} {cs : Array Value} (h : TbI te tr B M x L v W) (hg : W.heap[g]? = some (.cells cs te (0, 0))) (hc : cs.size = M) (hx : ∀ k, k < M → cs[k]? = some x) (hgB : B ≤ g) (hgv : v.ownBlock ≠ some g) (hgL : g ∉ L)
    (ho : W'.ownsRow B tr 1 v' (L.length + 1) ((L.map fun b => .slice (some ⟨b, 0, none⟩) M M) ++ [.slice (some ⟨g, 0, none⟩) M M])) (hgr : W.grownBy W' v.ownBlock) (hat : v'.ownBlock = v.ownBlock ∨ ∃ k, v'.ownBlock = some k ∧ W.heap.size ≤ k) : TbI te tr B M x (L ++ [g]) v' W' := by
  obtain ⟨h1, h2, h3, h4⟩ := h
  have hv' : ∀ b, b < W.heap.size → v.ownBlock ≠ some b → v'.ownBlock ≠ some b := by
    intro b hb hv
    rcases hat with e | ⟨j, e, hj⟩
    · rw [e]; exact hv
    · rw [e]; intro e; cases e; omega
  have hgl := (Array.getElem?_eq_some_iff.1 hg).1
  refine ⟨by rw [List.length_append, List.map_append]; exact ho, fun b hb => ?_, ?_, Nat.le_trans h4 hgr.size⟩
  · rcases List.mem_append.1 hb with hb | hb
    · obtain ⟨k1, k2, k3, cs', k4, k5⟩ := h2 b hb
      exact ⟨k1, Nat.lt_of_lt_of_le k2 hgr.size, hv' b k2 k3, cs', (hgr.block b k2 (fun e => k3 e.symm)).trans k4, k5⟩
    · rw [List.mem_singleton] at hb
      subst hb
      exact ⟨hgB, Nat.lt_of_lt_of_le hgl hgr.size, hv' b hgl hgv, cs, (hgr.block b hgl (fun e => hgv e.symm)).trans hg, hc, hx⟩
  · rw [List.nodup_append]
    exact ⟨h3, by simp, fun a ha b hb => by rw [List.mem_singleton] at hb; subst hb; exact fun e => hgL (e ▸ ha)⟩
end
end Cs
end Go.Proofs.Ytjpmebppdcclbaa
