/- slices.Clone of items; hole.follower.add. hole.follower.predict. What a run of hole.follower.complete keeps, in plain Lean. hole.follower.complete. How arguments read: what came in, as plain data. -/
import Derived.Test.YtjpmebppdcclbaaJRepairPrefixRow7
import Derived.Test.YtjpmebppdcclbaaJRepairPrefixRow6
import Derived.Test.YtjpmebppdcclbaaRows
import Derived.Test.YtjpmebppdcclbaaJRepairPrefixRow1
import Derived.ChangeArms
import Derived.ChangeSame
import Derived.SizedLaws
import Derived.Deep.Slices
namespace Go.Proofs.Ytjpmebppdcclbaa
open Go.RowKit
namespace Ho
open Rp Hl
open Ht hiding D
def _root_.Go.Proofs.Ytjpmebppdcclbaa.Ht.Itm.d' (x : Itm) : D := .agg [.int x.r, .int x.d, .int x.f]
theorem rdI {S : Nat → Prop} {w : World} : ∀ c : List Itm, RdAll S w (c.map Itm.d') (flatI c)
  | [] => rfl
  | x :: l => ⟨[.int .i64 x.r, .int .i64 x.d, .int .i64 x.f], flatI l, rfl, ⟨[.int .i64 x.r], [.int .i64 x.d, .int .i64 x.f], rfl, rfl, [.int .i64 x.d], [.int .i64 x.f], rfl, rfl, RdAll.one rfl⟩, rdI l⟩
theorem rdI_eq {S : Nat → Prop} {w : World} : ∀ {c : List Itm} {L : List Value}, RdAll S w (c.map Itm.d') L → L = flatI c
  | [], L, h => h
  | x :: l, L, ⟨c1, c2, e, h1, h2⟩ => by
    obtain ⟨a1, a2, e1, h3, h4⟩ := h1
    obtain ⟨b1, b2, e2, h5, h6⟩ := h4
    have h7 := RdAll.one_iff.1 h6
    rw [e, rdI_eq h2, e1, e2, show a1 = [.int .i64 x.r] from h3, show b1 = [.int .i64 x.d] from h5, show b2 = [.int .i64 x.f] from h7]
    rfl
theorem items_cells (c : List Itm) : ∀ d ∈ c.map Itm.d', d.cells = 3 := by
  intro d hd
  obtain ⟨x, _, rfl⟩ := List.mem_map.1 hd
  rfl
theorem own_irow {w : World} {B : Nat} {v : Value} {c : List Itm} {n : Nat} (hn : n = c.length) (h : w.ownsRow B 104 3 v n (flatI c)) : ∃ a m, v = .slice a n m ∧ n ≤ m ∧ m ≤ maxLen ∧ IRow (fun k => B ≤ k ∧ v.ownBlock = some k) w a c := by
  subst hn
  obtain ⟨a, m, e, e1, e2⟩ := own_len h
  refine ⟨a, m, e, e1, e2, fun i hi => ?_⟩
  have hlt := h.lt
  rcases h.2 with ⟨_, h0⟩ | ⟨g, m', cur, e3, _, _, _⟩
  · omega
  · rw [e] at e3
    cases e3
    rw [e] at h
    obtain ⟨f0, f1, f2⟩ := flatI_get hi
    obtain ⟨h1, h2⟩ := hlt g (by rw [e]; rfl)
    exact ⟨g, rfl, ⟨h1, by rw [e]; rfl⟩, h2, by rw [h.cellAt _ (by omega)]; exact f0, by rw [h.cellAt _ (by omega)]; exact f1, by rw [h.cellAt _ (by omega)]; exact f2⟩
set_option maxHeartbeats 2000000 in
theorem cloneI (c : List Itm) (a : Option Addr) (m : Nat) (w : World) (h : Rd AnyB w (.sl (c.map Itm.d')) [.slice a c.length m]) (hb : c.length ≤ 1000000) :
    Calls Try.prog 93 #[.slice a c.length m] w fun e w' => ∃ a' m', e = .returned (.slice a' c.length m') ∧ IRow (fun k => w.heap.size ≤ k) w' a' c ∧ Below w.heap.size w w' := by
  have hnil := fun (w : World) (a : Option Addr) (n c : Nat) => Lib.run_eql_slice_nil (P := Try.prog) w 102 104 a n c 0 0 Try.underlying102
  have HML : Hid ((c.map Itm.d').length = c.length) := by show _ = _; simp
  cases a with
  | none =>
    have hl : c.length = 0 := by
      obtain ⟨a', cap, L, e, h1, h2, h3, h4, h5⟩ := h
      rw [HML.out] at e h1
      simp at e
      obtain ⟨rfl, rfl⟩ := e
      have := h3 rfl
      omega
    have hc : c = [] := List.eq_nil_of_length_eq_zero hl
    subst hc
    clear h hl
    go_enter Try.func93, Try.ntmps93
    go_wp2
    go_ret
    exact ⟨none, 0, rfl, fun i hi => by simp at hi, Below.refl _ _⟩
  | some x =>
    have hb1 : Below w.heap.size w (w.alloc (.cells #[] 104)) := (Below.refl _ _).alloc (Nat.le_refl _) _
    have HV := Lib.hid (h.below hb1)
    have HO : Hid ((w.alloc (.cells #[] 104)).ownsRow w.heap.size 104 3 (.slice (some ⟨w.heap.size, 0, none⟩) 0 0) 0 []) := World.ownsRow_made w #[] 0 (Nat.le_refl _) (by simp) rfl
    have HB1 := Lib.hid hb1
    obtain ⟨n, HN⟩ := nameIt c.length
    rw [HN.out] at HV HML hb
    rw [HN.out]
    clear h hb1
    go_enter Try.func93, Try.ntmps93
    go_wp2_with (at_builtin; refine wp_appD elItem rfl _ _ rfl HO.out rfl HV.out rfl (items_cells c) (by rw [HML.out]; omega) (by rw [HML.out]; unfold maxLen; omega) (by simp) ?_)
    intro v' w' L hd ho hg hat
    have hL := rdI_eq hd
    subst hL
    have hb2 : Below w.heap.size w w' := HB1.out.trans (below_grown hg (by simp) (fun k hk => by simp [Value.ownBlock] at hk; omega))
    obtain ⟨a', m', rfl, -, -, hir⟩ := own_irow (n := n) HN.out.symm (by simpa [HN.out] using ho)
    have HR := Lib.hid (hir.mono (Q := fun k => w.heap.size ≤ k) (fun k hk => hk.1))
    have HB2 := Lib.hid hb2
    clear hd ho hg hat hb2 hir
    go_wp2
    go_ret
    exact ⟨a', m', rfl, HR.out, HB2.out⟩
theorem upL_self (L : Nat → List Itm) (k : Nat) : upL L k (L k) = L := by
  funext j
  unfold upL
  split
  · rename_i h; rw [h]
  · rfl
theorem app_FM {B fb : Nat} {gt gn gs : Int} {ra : Option Addr} {rc : Nat} {K : List Rule} {sb cap n : Nat} {val : Nat → Value} {L : Nat → List Itm} {w w' : World} (h : FMi B fb gt gn gs ra rc K sb cap n val L w) (hB : B ≤ w.heap.size) {t : Nat} (ht : t < n) (ht1 : t + 1 = n) {v' : Value} {x : Itm} (ho : w'.ownsRow B 104 3 v' ((L t).length + 1) (flatI (L t) ++ [.int .i64 (x.r : Int), .int .i64 (x.d : Int), .int .i64 (x.f : Int)])) (hg : w.grownBy w' (val t).ownBlock)
    (hat : v'.ownBlock = (val t).ownBlock ∨ ∃ k, v'.ownBlock = some k ∧ w.heap.size ≤ k) :
    w'.cell? ⟨fb, 0 + 4, none⟩ = some (.slice (some ⟨sb, 0, none⟩) n cap) ∧ w'.cell? ⟨sb, t, none⟩ = some (val t) ∧ w'.frozen? ⟨sb, t, none⟩ = false ∧ ∃ O', FM B fb gt gn gs ra rc K O' n (upL L t (L t ++ [x])) (w'.setCell ⟨sb, t, none⟩ v') ∧ Stp (OwS fb sb n val) O' w (w'.setCell ⟨sb, t, none⟩ v') := by
  obtain ⟨h1, h2, h3, h3b, h4⟩ := h
  obtain ⟨q1, q2, q3⟩ := h1.app ht ho hg hat
  have hfb := bx_lt h2
  have hsb := h1.out.lt sb rfl
  have hvt := fun k e => (h1.row t ht).lt k e
  have hb1 : w'.heap[fb]? = some (.cells #[.int .i64 gt, .int .i64 gn, .int .i64 gs, .slice ra K.length rc, .slice (some ⟨sb, 0, none⟩) n cap] 99 (0, 0)) := (hg.block fb hfb (fun e => h3 (.inr ⟨t, ht, e.symm⟩))).trans h2
  have hne : fb ≠ sb := fun e => h3 (.inl e)
  have hownS : ∀ k, OwS fb sb n (fun k => if k = t then v' else val k) k → OwS fb sb n val k ∨ w.heap.size ≤ k := by
    rintro k (rfl | rfl | ⟨i, hi, e⟩)
    · exact .inl (.inl rfl)
    · exact .inl (.inr (.inl rfl))
    · have e1 : i = t := by omega
      simp only [e1, if_true] at e
      rcases hat with e2 | ⟨q, e2, hq⟩
      · exact .inl (.inr (.inr ⟨t, ht1, by rw [← e2]; exact e⟩))
      · rw [e2] at e; cases e; exact .inr hq
  have hown : ∀ k, OwA sb n (fun k => if k = t then v' else val k) k → OwA sb n val k ∨ w.heap.size ≤ k := by
    rintro k (rfl | ⟨i, hi, e⟩)
    · exact .inl (.inl rfl)
    · by_cases e1 : i = t
      · simp only [e1, if_true] at e
        rcases hat with e2 | ⟨q, e2, hq⟩
        · exact .inl (.inr ⟨t, ht, by rw [← e2]; exact e⟩)
        · rw [e2] at e; cases e; exact .inr hq
      · simp only [e1, if_false] at e
        exact .inl (.inr ⟨i, hi, e⟩)
  refine ⟨by simp [World.cell?, hb1], q1, q2, OwS fb sb n (fun k => if k = t then v' else val k), ⟨sb, cap, _, ⟨q3, bx_other hb1 hne _ _, ?_, h3b, ?_⟩, fun _ => Iff.rfl⟩, ⟨hg.os, hg.tape, hg.output, by rw [World.size_setCell]; exact hg.size, fun k hk hn => ?_, hownS⟩⟩
  · intro e
    rcases hown fb e with e | e
    · exact h3 e
    · omega
  · refine Rd.keep (fun k hk hlt => ⟨hk, ?_⟩) _ _ h4
    have hk' : k < B := hk
    rw [Below.heap_setCell _ _ _ _ (by simp only; omega)]
    exact hg.block k hlt (fun e => by have := (hvt k e.symm).1; omega)
  · rw [Below.heap_setCell _ _ _ _ (fun e => hn (.inr (.inl e)))]
    exact hg.block k hk (fun e => hn (.inr (.inr ⟨t, ht1, e.symm⟩)))
def AddPost (B fb : Nat) (gt gn gs : Int) (ra : Option Addr) (rc : Nat) (K : List Rule) (O : Nat → Prop) (n : Nat) (L : Nat → List Itm) (W : World) (e : Ending) (w' : World) : Prop := e = .returned (.tuple #[]) ∧ ∃ O', FM B fb gt gn gs ra rc K O' n L w' ∧ Stp O O' W w'
theorem AddPost.eq {B fb : Nat} {gt gn gs : Int} {ra : Option Addr} {rc : Nat} {K : List Rule} {O : Nat → Prop} {n : Nat} {L L' : Nat → List Itm} {W w' : World} {e : Ending} (h : AddPost B fb gt gn gs ra rc K O n L W e w') (hL : L = L') : AddPost B fb gt gn gs ra rc K O n L' W e w' := hL ▸ h
set_option maxHeartbeats 16000000 in
set_option maxRecDepth 100000 in
theorem addE {B fb : Nat} {gt gn gs : Int} {ra : Option Addr} {rc : Nat} {K : List Rule} {O : Nat → Prop} {n : Nat} {L : Nat → List Itm} (W : World) (h : FM B fb gt gn gs ra rc K O n L W) (k : Nat) (hk : n = k + 1) (hn : n ≤ 100) (x : Itm) (hc : (L k).length ≤ 1000000) :
    Calls Try.prog 92 #[.pointer (some ⟨fb, 0, none⟩), .agg #[.int .i64 (x.r : Int), .int .i64 (x.d : Int), .int .i64 (x.f : Int)]] W (AddPost B fb gt gn gs ra rc K O n (upL L k (addI (L k) x)) W) := by
  obtain ⟨sb, cap, val, hF, hO⟩ := h
  have hBW : B ≤ W.heap.size := by have := hF.st.out.lt sb rfl; omega
  have hkn : k < n := by omega
  obtain ⟨w0, HW⟩ := nameIt (W.alloc (.cells #[.int .i64 (x.r : Int), .int .i64 (x.d : Int), .int .i64 (x.f : Int)] 104))
  have hw0 : Below W.heap.size W w0 := by rw [← HW.out]; exact (Below.refl _ _).alloc (Nat.le_refl _) _
  have HI0 : Hid (w0.heap[W.heap.size]? = some (.cells #[.int .i64 (x.r : Int), .int .i64 (x.d : Int), .int .i64 (x.f : Int)] 104 (0, 0))) := by rw [← HW.out]; exact bx_new _ _ _ rfl
  have HSZ : Hid (w0.heap.size = W.heap.size + 1) := by show _ = _; rw [← HW.out]; simp
  have keepF : ∀ w', Below W.heap.size W w' → FMi B fb gt gn gs ra rc K sb cap n val L w' := fun w' hb => ⟨hF.st.keep hb, bx_keep hF.box hb, hF.nf, hF.fbl, hF.rd.below hb⟩
  have HKF := Lib.hid keepF
  have HB0 := Lib.hid hw0
  obtain ⟨av, cv, hval, hv1, hv2, hir⟩ := FM.irow hF hkn
  unfold maxLen at hv2
  have hct := containsI av cv (L k) x (by unfold maxLen; omega)
  have hrow := (hF.st.row k hkn)
  rw [hval] at hrow
  have HOWN : Hid (∀ k', (Value.slice av (L k).length cv).ownBlock = some k' → B ≤ k' ∧ k' < W.heap.size) := hrow.lt
  have HROW := Lib.hid hrow
  have HFS : Hid (∀ w', Below W.heap.size W w' → w'.cell? ⟨fb, 0 + 4, none⟩ = some (.slice (some ⟨sb, 0, none⟩) n cap) ∧ w'.cell? ⟨sb, k, none⟩ = some (.slice av (L k).length cv)) := fun w' hb => by
    have h1 := keepF w' hb
    exact ⟨by simp [World.cell?, h1.box], by rw [h1.st.cell hkn, hval]⟩
  have HCT : Hid (∀ w', Below W.heap.size W w' → Calls Try.prog 110 #[.slice av (L k).length cv, .agg #[.int .i64 (x.r : Int), .int .i64 (x.d : Int), .int .i64 (x.f : Int)]] w' fun e w2 => e = .returned (.bool (decide (x ∈ L k))) ∧ Below w'.heap.size w' w2) := fun w' hb => hct w' ((hir.mono (fun _ _ => trivial)).below hb)
  have HAPP : Hid (∀ w1 w2 v', Below W.heap.size W w1 → w2.ownsRow B 104 3 v' ((L k).length + 1) (flatI (L k) ++ [.int .i64 (x.r : Int), .int .i64 (x.d : Int), .int .i64 (x.f : Int)]) → w1.grownBy w2 (Value.slice av (L k).length cv).ownBlock → (v'.ownBlock = (Value.slice av (L k).length cv).ownBlock ∨ ∃ k', v'.ownBlock = some k' ∧ w1.heap.size ≤ k') → w2.cell? ⟨fb, 0 + 4, none⟩ = some (.slice (some ⟨sb, 0, none⟩) n cap) ∧ w2.cell? ⟨sb, k, none⟩ = some (.slice av (L k).length cv) ∧ w2.frozen? ⟨sb, k, none⟩ = false ∧ ∃ O', FM B fb gt gn gs ra rc K O' n (upL L k (L k ++ [x])) (w2.setCell ⟨sb, k, none⟩ v') ∧ Stp O O' W (w2.setCell ⟨sb, k, none⟩ v')) := by
    intro w1 w2 v' hb ho hg hat
    rw [← hval] at hg hat
    have h1 := keepF w1 hb
    obtain ⟨q0, q1, q2, O', q3, q4⟩ := app_FM h1 (by have := hb.size; omega) hkn (by omega) ho hg hat
    have hO2 : O = OwS fb sb n val := funext fun k => propext (hO k)
    rw [hval] at q1
    refine ⟨q0, q1, q2, O', q3, ?_⟩
    rw [hO2]
    exact (Stp.below hb).trans q4
  obtain ⟨PST, HP⟩ := nameIt (AddPost B fb gt gn gs ra rc K O n (upL L k (addI (L k) x)) W)
  have HNO : Hid (x ∈ L k → ∀ w', Below W.heap.size W w' → PST (.returned (.tuple #[])) w') := by
    intro hx w' hb
    rw [← HP.out]
    have e : addI (L k) x = L k := by unfold addI; rw [if_pos hx]
    rw [e, upL_self]
    exact ⟨rfl, O, ⟨sb, cap, val, keepF w' hb, hO⟩, Stp.below hb⟩
  have HYES : Hid (x ∉ L k → ∀ w', (∃ O', FM B fb gt gn gs ra rc K O' n (upL L k (L k ++ [x])) w' ∧ Stp O O' W w') → PST (.returned (.tuple #[])) w') := by
    intro hx w' hb
    rw [← HP.out]
    have e : addI (L k) x = L k ++ [x] := by unfold addI; rw [if_neg hx]
    rw [e]
    exact ⟨rfl, hb⟩
  rw [HP.out]
  obtain ⟨bq, HBQ⟩ := nameIt (decide (x ∈ L k))
  rw [HBQ.out] at HCT
  have hw1 : IntKind.i64.wrap ((n : Int) - 1) = (k : Int) := by rw [IntWalk.i64_in _ (by omega)]; omega
  have hkn' : (k : Int) < (n : Int) := by omega
  obtain ⟨m, HM⟩ := nameIt (L k).length
  rw [HM.out] at hc hv1 HOWN HROW HFS HCT HAPP
  obtain ⟨xr, HXR⟩ := nameIt x.r
  obtain ⟨xd, HXD⟩ := nameIt x.d
  obtain ⟨xf, HXF⟩ := nameIt x.f
  rw [HXR.out, HXD.out, HXF.out] at HW HI0
  simp only [HXR.out, HXD.out, HXF.out] at HAPP HCT
  rw [HXR.out, HXD.out, HXF.out]
  have HKK := Lib.hid hk
  clear hw0 keepF hF hval hir hct hrow HP HXR HXD HXF hk hO
  obtain ⟨c0, c1⟩ := HFS.out w0 HB0.out
  obtain ⟨y0, y1, y2⟩ := bx_cells3 HI0.out
  go_enter Try.func92, Try.ntmps92
  go_upto_region 1 with fail
  rw [HW.out]
  clear HW
  go_upto_region 2 with fail
  have i0 := aft_cell c0
  have i1 := aft_cell c1
  have i2 := aft_cell y0
  have i3 := aft_cell y1
  have i4 := aft_cell y2
  have HCT0 : Hid (∀ w', Below w0.heap.size w0 w' → Calls Try.prog 110 #[.slice av m cv, .agg #[.int .i64 (xr : Int), .int .i64 (xd : Int), .int .i64 (xf : Int)]] w' fun e w2 => e = .returned (.bool bq) ∧ Below w'.heap.size w' w2) := fun w' hb => HCT.out w' (HB0.out.trans (hb.mono HB0.out.size))
  clear c0 c1 y0 y1 y2
  refine wp_region_after (by kernel_rfl) (by kernel_rfl) ?_
  repeat (go_big_quiet_step (with_reducible exact Calls.after (HCT0.out _ (Aft.bel _))))
  refine wpQuiet_nil ?_
  rintro w1 ⟨⟨_, hb7⟩, rfl⟩
  have HB1 : Hid (Below W.heap.size W w1) := HB0.out.trans (hb7.mono HB0.out.size)
  have HI1 := Lib.hid (bx_keep HI0.out hb7)
  clear hb7 i0 i1 i2 i3 i4
  cases bq with
  | true =>
    have HE := Lib.hid (HNO.out (of_decide_eq_true HBQ.out) w1 HB1.out)
    go_wp2_with fail
    first | exact HE.out | exact bodyPost_end (results_none Try.results92 _ _ _) rfl HE.out
  | false =>
    have HNX : Hid (x ∉ L k) := of_decide_eq_false HBQ.out
    go_upto_region 3 with fail
    have HCS : Hid (∀ w', Below w1.heap.size w1 w' → w'.cell? ⟨fb, 0 + 4, none⟩ = some (.slice (some ⟨sb, 0, none⟩) n cap) ∧ w'.cell? ⟨sb, k, none⟩ = some (.slice av m cv) ∧ w'.cell? ⟨W.heap.size, 0, none⟩ = some (.int .i64 (xr : Int)) ∧ w'.cell? ⟨W.heap.size, 0 + 1, none⟩ = some (.int .i64 (xd : Int)) ∧ w'.cell? ⟨W.heap.size, 0 + 2, none⟩ = some (.int .i64 (xf : Int))) := by
      intro w' hb
      obtain ⟨h1, h2⟩ := HFS.out w' (HB1.out.trans (hb.mono HB1.out.size))
      obtain ⟨h3, h4, h5⟩ := bx_cells3 (bx_keep HI1.out hb)
      exact ⟨h1, h2, h3, h4, h5⟩
    obtain ⟨w2, HW2⟩ := nameIt (w1.alloc (.cells #[.int .i64 (xr : Int), .int .i64 (xd : Int), .int .i64 (xf : Int)] 104)).drew
    have hb2 : Below w1.heap.size w1 w2 := by rw [← HW2.out]; exact ((Below.refl w1.heap.size w1).alloc (Nat.le_refl _) _).drew
    have X2 : Hid (w2.heap[w1.heap.size]? = some (.cells #[.int .i64 (xr : Int), .int .i64 (xd : Int), .int .i64 (xf : Int)] 104 (0, 0))) := by rw [← HW2.out]; exact bx_new w1 _ _ rfl
    have HB2 : Hid (Below W.heap.size W w2) := HB1.out.trans (hb2.mono HB1.out.size)
    have HB12 := Lib.hid hb2
    have HRW2 := Lib.hid (own_keep HROW.out HB2.out)
    obtain ⟨q2, HQ2⟩ := nameIt w1.heap.size
    rw [HQ2.out] at X2
    clear hb2
    refine wp_region_U (S := (fun w' => w'.cell? ⟨fb, 0 + 4, none⟩ = some (.slice (some ⟨sb, 0, none⟩) n cap) ∧ w'.cell? ⟨sb, k, none⟩ = some (.slice av m cv) ∧ w'.cell? ⟨W.heap.size, 0, none⟩ = some (.int .i64 (xr : Int)) ∧ w'.cell? ⟨W.heap.size, 0 + 1, none⟩ = some (.int .i64 (xd : Int)) ∧ w'.cell? ⟨W.heap.size, 0 + 2, none⟩ = some (.int .i64 (xf : Int)))) 15 (by kernel_rfl) (fun inv => ?_)
    refine wpU_take (i := 0) (v := .pointer (some ⟨fb, 0, none⟩)) rfl inv (by kernel_rfl) (by kernel_rfl) (by decide) (by decide) (by kernel_rfl) (by kernel_rfl) (by kernel_rfl) (fun _ _ _ h => h) (Or.inl ⟨by rfl, fun w' hw' => ?_⟩) (HCS.out _ (Below.refl _ _).drew) (fun inv => ?_)
    · obtain ⟨h0, h1, h2, h3, h4⟩ := hw'
      go_simp
    try simp only [Act.put, List.setIfInBounds_toArray, List.set_cons_zero, List.set_cons_succ]
    refine wpU_take (i := 1) (v := .pointer (some ⟨fb, 0, none⟩)) rfl inv (by kernel_rfl) (by kernel_rfl) (by decide) (by decide) (by kernel_rfl) (by kernel_rfl) (by kernel_rfl) (fun _ _ _ h => h) (Or.inl ⟨by rfl, fun w' hw' => ?_⟩) (HCS.out _ (Below.refl _ _).drew) (fun inv => ?_)
    · obtain ⟨h0, h1, h2, h3, h4⟩ := hw'
      go_simp
    try simp only [Act.put, List.setIfInBounds_toArray, List.set_cons_zero, List.set_cons_succ]
    refine wpU_take (i := 2) (v := .pointer (some ⟨fb, 0 + 4, none⟩)) rfl inv (by kernel_rfl) (by kernel_rfl) (by decide) (by decide) (by kernel_rfl) (by kernel_rfl) (by kernel_rfl) (fun _ _ _ h => h) (Or.inl ⟨by rfl, fun w' hw' => ?_⟩) (HCS.out _ (Below.refl _ _).drew) (fun inv => ?_)
    · obtain ⟨h0, h1, h2, h3, h4⟩ := hw'
      go_simp
    try simp only [Act.put, List.setIfInBounds_toArray, List.set_cons_zero, List.set_cons_succ]
    refine wpU_take (i := 3) (v := .slice (some ⟨sb, 0, none⟩) n cap) rfl inv (by kernel_rfl) (by kernel_rfl) (by decide) (by decide) (by kernel_rfl) (by kernel_rfl) (by kernel_rfl) (fun _ _ _ h => h) (Or.inl ⟨by rfl, fun w' hw' => ?_⟩) (HCS.out _ (Below.refl _ _).drew) (fun inv => ?_)
    · obtain ⟨h0, h1, h2, h3, h4⟩ := hw'
      go_simp
    try simp only [Act.put, List.setIfInBounds_toArray, List.set_cons_zero, List.set_cons_succ]
    refine wpU_take (i := 4) (v := .int .i64 (k : Int)) rfl inv (by kernel_rfl) (by kernel_rfl) (by decide) (by decide) (by kernel_rfl) (by kernel_rfl) (by kernel_rfl) (fun _ _ _ h => h) (Or.inl ⟨by rfl, fun w' hw' => ?_⟩) (HCS.out _ (Below.refl _ _).drew) (fun inv => ?_)
    · obtain ⟨h0, h1, h2, h3, h4⟩ := hw'
      go_simp
    try simp only [Act.put, List.setIfInBounds_toArray, List.set_cons_zero, List.set_cons_succ]
    refine wpU_take (i := 5) (v := .pointer (some ⟨fb, 0, none⟩)) rfl inv (by kernel_rfl) (by kernel_rfl) (by decide) (by decide) (by kernel_rfl) (by kernel_rfl) (by kernel_rfl) (fun _ _ _ h => h) (Or.inl ⟨by rfl, fun w' hw' => ?_⟩) (HCS.out _ (Below.refl _ _).drew) (fun inv => ?_)
    · obtain ⟨h0, h1, h2, h3, h4⟩ := hw'
      go_simp
    try simp only [Act.put, List.setIfInBounds_toArray, List.set_cons_zero, List.set_cons_succ]
    refine wpU_take (i := 6) (v := .pointer (some ⟨fb, 0, none⟩)) rfl inv (by kernel_rfl) (by kernel_rfl) (by decide) (by decide) (by kernel_rfl) (by kernel_rfl) (by kernel_rfl) (fun _ _ _ h => h) (Or.inl ⟨by rfl, fun w' hw' => ?_⟩) (HCS.out _ (Below.refl _ _).drew) (fun inv => ?_)
    · obtain ⟨h0, h1, h2, h3, h4⟩ := hw'
      go_simp
    try simp only [Act.put, List.setIfInBounds_toArray, List.set_cons_zero, List.set_cons_succ]
    refine wpU_take (i := 7) (v := .pointer (some ⟨fb, 0 + 4, none⟩)) rfl inv (by kernel_rfl) (by kernel_rfl) (by decide) (by decide) (by kernel_rfl) (by kernel_rfl) (by kernel_rfl) (fun _ _ _ h => h) (Or.inl ⟨by rfl, fun w' hw' => ?_⟩) (HCS.out _ (Below.refl _ _).drew) (fun inv => ?_)
    · obtain ⟨h0, h1, h2, h3, h4⟩ := hw'
      go_simp
    try simp only [Act.put, List.setIfInBounds_toArray, List.set_cons_zero, List.set_cons_succ]
    refine wpU_take (i := 8) (v := .slice (some ⟨sb, 0, none⟩) n cap) rfl inv (by kernel_rfl) (by kernel_rfl) (by decide) (by decide) (by kernel_rfl) (by kernel_rfl) (by kernel_rfl) (fun _ _ _ h => h) (Or.inl ⟨by rfl, fun w' hw' => ?_⟩) (HCS.out _ (Below.refl _ _).drew) (fun inv => ?_)
    · obtain ⟨h0, h1, h2, h3, h4⟩ := hw'
      go_simp
    try simp only [Act.put, List.setIfInBounds_toArray, List.set_cons_zero, List.set_cons_succ]
    refine wpU_take (i := 9) (v := .int .i64 (k : Int)) rfl inv (by kernel_rfl) (by kernel_rfl) (by decide) (by decide) (by kernel_rfl) (by kernel_rfl) (by kernel_rfl) (fun _ _ _ h => h) (Or.inl ⟨by rfl, fun w' hw' => ?_⟩) (HCS.out _ (Below.refl _ _).drew) (fun inv => ?_)
    · obtain ⟨h0, h1, h2, h3, h4⟩ := hw'
      go_simp
    try simp only [Act.put, List.setIfInBounds_toArray, List.set_cons_zero, List.set_cons_succ]
    refine wpU_take (i := 10) (v := .pointer (some ⟨sb, k, none⟩)) rfl inv (by kernel_rfl) (by kernel_rfl) (by decide) (by decide) (by kernel_rfl) (by kernel_rfl) (by kernel_rfl) (fun _ _ _ h => h) (Or.inl ⟨by rfl, fun w' hw' => ?_⟩) (HCS.out _ (Below.refl _ _).drew) (fun inv => ?_)
    · obtain ⟨h0, h1, h2, h3, h4⟩ := hw'
      go_simp
    try simp only [Act.put, List.setIfInBounds_toArray, List.set_cons_zero, List.set_cons_succ]
    refine wpU_take (i := 11) (v := .slice av m cv) rfl inv (by kernel_rfl) (by kernel_rfl) (by decide) (by decide) (by kernel_rfl) (by kernel_rfl) (by kernel_rfl) (fun _ _ _ h => h) (Or.inl ⟨by rfl, fun w' hw' => ?_⟩) (HCS.out _ (Below.refl _ _).drew) (fun inv => ?_)
    · obtain ⟨h0, h1, h2, h3, h4⟩ := hw'
      go_simp
    try simp only [Act.put, List.setIfInBounds_toArray, List.set_cons_zero, List.set_cons_succ]
    refine wpU_take (i := 12) (v := .agg #[.int .i64 (xr : Int), .int .i64 (xd : Int), .int .i64 (xf : Int)]) rfl inv (by kernel_rfl) (by kernel_rfl) (by decide) (by decide) (by kernel_rfl) (by kernel_rfl) (by kernel_rfl) (fun _ _ _ h => h) (Or.inl ⟨by rfl, fun w' hw' => ?_⟩) (HCS.out _ (Below.refl _ _).drew) (fun inv => ?_)
    · obtain ⟨h0, h1, h2, h3, h4⟩ := hw'
      go_simp
    try simp only [Act.put, List.setIfInBounds_toArray, List.set_cons_zero, List.set_cons_succ]
    refine wpU_one (i := 13) (by kernel_rfl) rfl (fun K hK => ?_)
    replace inv := inv_setc (i := 13) inv (by kernel_rfl) (by decide)
    go_simp
    rw [HW2.out, HQ2.out]
    refine hK.out _ _ (fun _ => HCS.out _ HB12.out) ?_
    clear hK K
    try simp only [Act.put, List.setIfInBounds_toArray, List.set_cons_zero, List.set_cons_succ]
    refine wpU_one (i := 14) (by kernel_rfl) rfl (fun K hK => ?_)
    replace inv := inv_setc (i := 14) inv (by kernel_rfl) (by decide)
    refine step_appB elItem (by rfl) _ _ (by rfl) HRW2.out (by rfl) (by rfl) X2.out (by rfl) (by rfl) (by omega) (by unfold maxLen; omega) (by have := HB2.out.size; omega) ?_
    intro g4 c4 w4 ho4 hg4 hat4 hlt4
    have happ := HAPP.out w2 w4 (.slice (some ⟨g4, 0, none⟩) (m + 1) c4) HB2.out ho4 hg4 (at_lies hat4)
    have hii := (hg4.block W.heap.size (by have h1 := HB2.out.size; have h2 := bx_lt (bx_keep HI1.out HB12.out); omega) (fun e => by have := (HOWN.out W.heap.size e.symm).2; omega)).trans (bx_keep HI1.out HB12.out)
    obtain ⟨a0, a1, a2, a3⟩ := happ
    have HA0 := Lib.hid a0
    have HA1 := Lib.hid a1
    have HA2 := Lib.hid a2
    have HA3 := Lib.hid a3
    have HII := Lib.hid hii
    clear a0 a1 a2 a3 ho4 hg4 hat4 hlt4 hii
    refine hK.out _ _ (fun _ => ⟨HA0.out, HA1.out, (bx_cells3 HII.out).1, (bx_cells3 HII.out).2.1, (bx_cells3 HII.out).2.2⟩) ?_
    clear hK K
    try simp only [Act.put, List.setIfInBounds_toArray, List.set_cons_zero, List.set_cons_succ]
    refine wpU_one (i := 15) (by kernel_rfl) rfl (fun K hK => ?_)
    go_simp
    refine hK.out _ _ (fun h => absurd (show true = false from h) (by decide)) ?_
    clear hK K
    try simp only [Act.put, List.setIfInBounds_toArray, List.set_cons_zero, List.set_cons_succ]
    have d1 := HA1.out
    have d2 := HA2.out
    have HE := Lib.hid (HYES.out HNX.out _ HA3.out)
    refine wpU_one (i := 16) (by kernel_rfl) rfl (fun K hK => ?_)
    go_simp
    refine hK.out _ _ (fun h => absurd (show true = false from h) (by decide)) ?_
    clear hK K
    try simp only [Act.put, List.setIfInBounds_toArray, List.set_cons_zero, List.set_cons_succ]
    refine wpU_done (by kernel_rfl) ?_ _
    go_wp2_with fail
    first | exact HE.out | exact bodyPost_end (results_none Try.results92 _ _ _) rfl HE.out
end Ho
end Go.Proofs.Ytjpmebppdcclbaa
namespace Go.Proofs.Ytjpmebppdcclbaa
open Go.RowKit
namespace Ho
open Rp Hl
open Ht hiding D
theorem putI_len (c : List Itm) : ∀ o, (putI c o).length ≤ c.length + 1
  | none => by simp [putI]
  | some x => by
    show (addI c x).length ≤ _
    unfold addI
    split <;> simp
theorem addF_len {α : Type} {P : α → Option Itm} : ∀ {ys : List α} {c : List Itm}, (addF P c ys).length ≤ c.length + ys.length
  | [], c => by simp [addF]
  | y :: ys, c => by
    have h1 := addF_len (P := P) (ys := ys) (c := putI c (P y))
    have h2 := putI_len c (P y)
    rw [List.length_cons]
    exact Nat.le_trans h1 (by omega)
section
variable {B fb : Nat} {gt gn gs : Int} {ra : Option Addr} {rc : Nat} {K : List Rule} {O O' : Nat → Prop} {n : Nat} {L : Nat → List Itm} {w w' : World}
theorem _root_.Go.Proofs.Ytjpmebppdcclbaa.Ht.FM.sets (h : FM B fb gt gn gs ra rc K O n L w) : ∃ sb cap, w.cell? ⟨fb, 0 + 4, none⟩ = some (.slice (some ⟨sb, 0, none⟩) n cap) := by
  obtain ⟨sb, cap, val, h1, h2⟩ := h
  exact ⟨sb, cap, by simp [World.cell?, h1.box]⟩
theorem _root_.Go.Proofs.Ytjpmebppdcclbaa.Ht.FM.rules (h : FM B fb gt gn gs ra rc K O n L w) : w.cell? ⟨fb, 0 + 3, none⟩ = some (.slice ra K.length rc) := by
  obtain ⟨sb, cap, val, h1, h2⟩ := h
  simp [World.cell?, h1.box]
theorem _root_.Go.Proofs.Ytjpmebppdcclbaa.Ht.FM.rd (h : FM B fb gt gn gs ra rc K O n L w) : Rd (fun k => k < B) w (.sl (K.map Rule.d)) [.slice ra K.length rc] := by
  obtain ⟨sb, cap, val, h1, h2⟩ := h
  exact h1.rd
end
theorem upL_at (L : Nat → List Itm) (k : Nat) (c : List Itm) : upL L k c k = c := by unfold upL; rw [if_pos rfl]
theorem upL_up (L : Nat → List Itm) (k : Nat) (c d : List Itm) : upL (upL L k c) k d = upL L k d := by
  funext j
  unfold upL
  split <;> rfl
set_option maxHeartbeats 16000000 in
set_option maxRecDepth 100000 in
theorem predictE {B fb : Nat} {gt gn gs : Int} {ra : Option Addr} {rc : Nat} {K : List Rule} {O : Nat → Prop} {n : Nat} {L : Nat → List Itm} (W : World) (h : FM B fb gt gn gs ra rc K O n L W) (k : Nat) (hk : n = k + 1) (hn : n ≤ 100) (s : Sym) (hkl : K.length ≤ 100) (hc : (L k).length ≤ 900000) :
    Calls Try.prog 59 #[.pointer (some ⟨fb, 0, none⟩), .agg #[.bool s.term, .int .i64 s.n]] W (AddPost B fb gt gn gs ra rc K O n (upL L k (prF K s k (L k))) W) := by
  obtain ⟨w0, HW⟩ := nameIt (W.alloc (.cells #[.bool s.term, .int .i64 s.n] 44))
  have hw0 : Below W.heap.size W w0 := by rw [← HW.out]; exact (Below.refl _ _).alloc (Nat.le_refl _) _
  have HI0 : Hid (w0.heap[W.heap.size]? = some (.cells #[.bool s.term, .int .i64 s.n] 44 (0, 0))) := by rw [← HW.out]; exact bx_new _ _ _ rfl
  have HNO : Hid (¬ O W.heap.size) := FM.new h (Nat.le_refl _)
  have HF0 := Lib.hid (h.keep hw0)
  have HS0 : Hid (Stp O O W w0) := Stp.below hw0
  have HKK := Lib.hid hk
  have HC := Lib.hid hc
  obtain ⟨PST, HP⟩ := nameIt (AddPost B fb gt gn gs ra rc K O n (upL L k (prF K s k (L k))) W)
  have HFIN : Hid (∀ O' w', FM B fb gt gn gs ra rc K O' n (upL L k (prF K s k (L k))) w' → Stp O O' W w' → PST (.returned (.tuple #[])) w') := by
    intro O' w' h1 h2
    rw [← HP.out]
    exact ⟨rfl, O', h1, h2⟩
  rw [HP.out]
  have HCB := Lib.hid h.rd.bounds.2
  have HSY : Hid (∀ i (r : Rule), K[i]? = some r → prP K s k i = if (s.term == false && s.n == r.left) then some ⟨i, 0, k⟩ else none) := by
    intro i r hr
    unfold prP
    rw [hr]
    simp only [Option.any_some]
    have : decide (s = ⟨false, r.left⟩) = (s.term == false && s.n == r.left) := by
      obtain ⟨a, b⟩ := s
      rw [Bool.eq_iff_iff]
      simp
    simp only [this]
  obtain ⟨kn, HKN⟩ := nameIt K.length
  have HPF : Hid (prF K s k (L k) = addF (prP K s k) (L k) ((List.range kn).take kn)) := by
    show _ = _
    unfold prF
    rw [HKN.out, List.take_of_length_le (by simp)]
  obtain ⟨st, HST⟩ := nameIt s.term
  obtain ⟨sn, HSN⟩ := nameIt s.n
  rw [HST.out, HSN.out] at HW HI0
  simp only [HST.out, HSN.out] at HSY
  rw [HST.out, HSN.out]
  rw [HKN.out] at hkl HCB
  have hcb := HCB.out
  unfold maxLen at hcb
  obtain ⟨hcb1, hcb2⟩ := hcb
  have x3 := HF0.out.rules
  rw [HKN.out] at x3
  clear h hw0 hk hc HP
  go_enter Try.func59, Try.ntmps59
  go_upto_region 1 with fail
  rw [HW.out]
  clear HW
  go_wp2_with fail
  go_loopg [4, 5, 12] kn (fun gg v4 v5 v12 wr => ∃ (i : Nat) (O' : Nat → Prop), i ≤ kn ∧ kn - i ≤ gg ∧ v12 = .int .i64 (i : Int) ∧ Hid (FM B fb gt gn gs ra rc K O' n (upL L k (addF (prP K s k) (L k) ((List.range kn).take i))) wr) ∧ Hid (Stp O O' W wr) ∧ Hid (wr.heap[W.heap.size]? = some (.cells #[.bool st, .int .i64 sn] 44 (0, 0)) ∧ ¬ O' W.heap.size))
  case atStart => exact ⟨0, O, by omega, by omega, rfl, by rw [List.take_zero, show addF (prP K s k) (L k) [] = L k from rfl, upL_self]; exact HF0, HS0, ⟨HI0.out, HNO.out⟩⟩
  case round =>
    clear x3
    obtain ⟨i, O', hi, hgg, rfl, HF, HSP, HBX⟩ := hrel
    obtain ⟨wi, rfl⟩ : ∃ ww : World, ww = wr := ⟨_, rfl⟩
    by_cases hik : i < kn
    · have hik' : (i : Int) < (kn : Int) := by omega
      have hiK : i < K.length := by rw [HKN.out]; exact hik
      obtain ⟨bk, ro, v, hae, -, hbk, s0, s1, hrr⟩ := HF.out.rd.rule_at hiK
      have hsy := HSY.out i K[i] (List.getElem?_eq_getElem hiK)
      obtain ⟨av, cv, rfl, -, -⟩ := hrr.form
      obtain ⟨r, HRN⟩ := nameIt (K[i]'hiK)
      rw [HRN.out] at s0 s1 hsy
      obtain ⟨lf, RL⟩ := r
      dsimp only at s0 s1 hsy
      obtain ⟨rl, HRL⟩ := nameIt (RL.map Sym.d).length
      rw [HRL.out] at s1
      have hsucc := addF_succ (P := prP K s k) (c := L k) (ys := List.range kn) (j := i) (by simpa using hik)
      rw [List.getElem_range, hsy] at hsucc
      have hlen : (addF (prP K s k) (L k) ((List.range kn).take i)).length ≤ 900000 + 100 := by
        refine Nat.le_trans addF_len ?_
        have := HC.out
        rw [List.length_take, List.length_range]; omega
      obtain ⟨bq, HBQ⟩ := nameIt (st == false && sn == lf)
      have he := symEq st false sn lf
      rw [HBQ.out] at hsucc he
      obtain ⟨C, HCN⟩ := nameIt (addF (prP K s k) (L k) ((List.range kn).take i))
      rw [HCN.out] at hsucc hlen HF
      obtain ⟨w1, HW1⟩ := nameIt (wi.alloc (.cells #[.int .i64 lf, .slice av rl cv] 69))
      have hb1 : Below wi.heap.size wi w1 := by rw [← HW1.out]; exact (Below.refl _ _).alloc (Nat.le_refl _) _
      have X1 : Hid (w1.heap[wi.heap.size]? = some (.cells #[.int .i64 lf, .slice av rl cv] 69 (0, 0))) := by rw [← HW1.out]; exact bx_new _ _ _ rfl
      have HI1 := Lib.hid (bx_keep HBX.out.1 hb1)
      have HB1 := Lib.hid hb1
      have HSU := Lib.hid hsucc
      have HLE := Lib.hid hlen
      obtain ⟨q1, HQ1⟩ := nameIt wi.heap.size
      rw [HQ1.out] at X1
      subst hae
      clear hb1 hrr hsy hsucc hlen HRN
      go_upto_region 4 with fail
      rw [HW1.out, HQ1.out]
      clear HW1 s0 s1
      obtain ⟨y0, y1⟩ := bx_cells2 HI1.out
      obtain ⟨r0, -⟩ := bx_cells2 X1.out
      have i0 := aft_cell y0
      have i1 := aft_cell y1
      have i2 := aft_cell r0
      have HGN : Hid (∀ W2, Below w1.heap.size w1 W2 → Calls Try.prog 60 #[.int .i64 lf] W2 fun e w' => e = .returned (.agg #[.bool false, .int .i64 lf]) ∧ Below W2.heap.size W2 w') := fun W2 _ => gramN lf W2
      clear y0 y1 r0
      refine wp_region_after (by kernel_rfl) (by kernel_rfl) ?_
      repeat (go_big_quiet_step (with_reducible exact Calls.after (HGN.out _ (Aft.bel _))))
      refine wpQuiet_nil ?_
      rintro w2 ⟨⟨_, hb2⟩, rfl⟩
      have HB2 : Hid (Below wi.heap.size wi w2) := HB1.out.trans (hb2.mono HB1.out.size)
      have HF2 := Lib.hid (HF.out.keep HB2.out)
      have HSP2 : Hid (Stp O O' W w2) := HSP.out.trans (Stp.below HB2.out)
      have HBX2 : Hid (w2.heap[W.heap.size]? = some (.cells #[.bool st, .int .i64 sn] 44 (0, 0)) ∧ ¬ O' W.heap.size) := ⟨bx_keep HBX.out.1 HB2.out, HBX.out.2⟩
      clear hb2 i0 i1 i2 he
      cases bq with
      | false =>
        have hC : addF (prP K s k) (L k) ((List.range kn).take (i + 1)) = C := by rw [HSU.out]; rfl
        have HF3 : Hid (FM B fb gt gn gs (some ⟨bk, ro, none⟩) rc K O' n (upL L k (addF (prP K s k) (L k) ((List.range kn).take (i + 1)))) w2) := by rw [hC]; exact HF2.out
        clear hC
        go_wp2_with fail
        go_roundg (kn - (i + 1))
        case measure => omega
        case rel => exact ⟨i + 1, O', by omega, by omega, by go_num, HF3, HSP2, HBX2⟩
      | true =>
        have hC : addF (prP K s k) (L k) ((List.range kn).take (i + 1)) = addI C ⟨i, 0, k⟩ := by rw [HSU.out]; rfl
        have hadd := addE w2 HF2.out k HKK.out hn ⟨i, 0, k⟩ (by rw [upL_at]; have := HLE.out; omega)
        rw [upL_at, upL_up, ← hC] at hadd
        have HAD := Lib.hid hadd
        obtain ⟨sb, cap, c4⟩ := HF2.out.sets
        have hw1 : IntKind.i64.wrap ((n : Int) - 1) = (k : Int) := by have := HKK.out; rw [IntWalk.i64_in _ (by omega)]; omega
        clear hadd hC
        go_wp2_with fail
        refine HAD.out.mono ?_
        rintro e w3 ⟨rfl, O3, hf3, hs3⟩
        have HF3 := Lib.hid hf3
        have HSP3 : Hid (Stp O O3 W w3) := HSP2.out.trans hs3
        have HBX3 := Lib.hid (hs3.box HBX2.out.1 HBX2.out.2)
        clear hf3 hs3 c4
        go_wp2_with fail
        go_roundg (kn - (i + 1))
        case measure => omega
        case rel => exact ⟨i + 1, O3, by omega, by omega, by go_num, HF3, HSP3, HBX3⟩
    · have hik' : ¬ (i : Int) < (kn : Int) := by omega
      obtain rfl : i = kn := by omega
      rw [← HPF.out] at HF
      have HE := Lib.hid (HFIN.out O' wi HF.out HSP.out)
      go_wp2_with fail
      first | exact HE.out | exact bodyPost_end (results_none Try.results59 _ _ _) rfl HE.out
end Ho
end Go.Proofs.Ytjpmebppdcclbaa
namespace Go.Proofs.Ytjpmebppdcclbaa
namespace Ht
open Rp Hl
structure QOk (K : List Rule) (k : Nat) (L : Nat → List Itm) (Q : Itm → Prop) : Prop where
  ok : ∀ x, Q x → okI K k x
  start : ∀ x ∈ L k, Q x
  pred : ∀ x s i y, Q x → nxt K x = some s → prP K s k i = some y → Q y
  comp : ∀ x y z r, Q x → nxt K x = none → K[x.r]? = some r → (x.f < k ∧ y ∈ L x.f ∨ x.f = k ∧ Q y) → coP K r.left y = some z → Q z
structure CoI (k : Nat) (L : Nat → List Itm) (Q : Itm → Prop) (c : List Itm) : Prop where
  pre : L k <+: c
  nd : c.Nodup
  q : ∀ x ∈ c, Q x
section
variable {K : List Rule} {k : Nat} {L : Nat → List Itm} {Q : Itm → Prop} {c c' c0 : List Itm}
theorem CoI.start (hQ : QOk K k L Q) (hn : (L k).Nodup) : CoI k L Q (L k) := ⟨List.prefix_refl _, hn, hQ.start⟩
theorem CoI.pred (hQ : QOk K k L Q) (h : CoI k L Q c) {x : Itm} (hx : x ∈ c) {s : Sym} (hs : nxt K x = some s) : CoI k L Q (prF K s k c) := by
  refine ⟨h.pre.trans pre_addF, nodup_addF h.nd, fun y hy => ?_⟩
  rcases mem_addF.1 hy with hy | ⟨i, _, hi⟩
  · exact h.q y hy
  · exact hQ.pred x s i y (h.q x hx) hs hi
theorem CoI.comp (hQ : QOk K k L Q) (h : CoI k L Q c) {x : Itm} (hx : x ∈ c) {r : Rule} (hr : K[x.r]? = some r) (hs : nxt K x = none) : CoI k L Q (addF (coP K r.left) c (upL L k c x.f)) := by
  refine ⟨h.pre.trans pre_addF, nodup_addF h.nd, fun z hz => ?_⟩
  rcases mem_addF.1 hz with hz | ⟨y, hy, hi⟩
  · exact h.q z hz
  · have hf := (hQ.ok x (h.q x hx)).1
    refine hQ.comp x y z r (h.q x hx) hs hr ?_ hi
    unfold upL at hy
    split at hy
    · rename_i e; exact .inr ⟨e, h.q y hy⟩
    · exact .inl ⟨by omega, hy⟩
theorem clo_pred {x : Itm} {s : Sym} (hs : nxt K x = some s) (he : prF K s k c = c) : Clo K k (upL L k c) x := by
  unfold Clo
  rw [hs]
  show PrC K k (upL L k c k) s
  rw [Ho.upL_at]
  intro i r hr hsr
  rw [← he]
  refine mem_addF.2 (.inr ⟨i, ?_, prP_some.2 ⟨r, hr, hsr, rfl⟩⟩)
  rw [List.mem_range]
  rcases Nat.lt_or_ge i K.length with h | h
  · exact h
  · rw [List.getElem?_eq_none h] at hr; cases hr
theorem clo_comp {x : Itm} {r : Rule} (hr : K[x.r]? = some r) (hs : nxt K x = none) (he : addF (coP K r.left) c (upL L k c x.f) = c) : Clo K k (upL L k c) x := by
  unfold Clo
  rw [hs]
  show ∀ r', K[x.r]? = some r' → ∀ y ∈ upL L k c x.f, nxt K y = some ⟨false, r'.left⟩ → (⟨y.r, y.d + 1, y.f⟩ : Itm) ∈ upL L k c k
  intro r' hr' y hy hn
  rw [hr] at hr'
  cases hr'
  rw [Ho.upL_at, ← he]
  exact mem_addF.2 (.inr ⟨y, hy, coP_some.2 ⟨hn, rfl⟩⟩)
def Thr (K : List Rule) (k : Nat) (L : Nat → List Itm) (c0 c : List Itm) (i : Nat) : Prop := c0 <+: c ∧ (c.length = c0.length → ∀ x ∈ c.take i, Clo K k (upL L k c) x)
theorem Thr.start : Thr K k L c0 c0 0 := ⟨List.prefix_refl _, fun _ x hx => by simp at hx⟩
theorem Thr.step {i : Nat} (hi : i < c.length) (h : Thr K k L c0 c i) (hp : c <+: c') (hc : c' = c → Clo K k (upL L k c) c[i]) : Thr K k L c0 c' (i + 1) := by
  refine ⟨h.1.trans hp, fun hl x hx => ?_⟩
  have h1 := h.1.length_le
  have h2 := hp.length_le
  have e : c' = c := pre_eq hp (by omega)
  subst e
  rw [List.take_succ_eq_append_getElem hi, List.mem_append] at hx
  rcases hx with hx | hx
  · exact h.2 hl x hx
  · simp at hx
    rw [hx]
    exact hc rfl
theorem Thr.done {i : Nat} (hi : c.length ≤ i) (h : Thr K k L c0 c i) (hl : c.length = c0.length) : ∀ x ∈ c, Clo K k (upL L k c) x := by
  have := h.2 hl
  rw [List.take_of_length_le hi] at this
  exact this
theorem CoI.len (hr4 : ∀ r ∈ K, r.right.length ≤ 4) (hQ : QOk K k L Q) (h : CoI k L Q c) : c.length ≤ K.length * 5 * (k + 1) := items_le hr4 (fun x hx => hQ.ok x (h.q x hx)) h.nd
end
/-! the items of a set are sound: what complete and scan keep -/
theorem qok_sd {K : List Rule} {lf : Sym → Nat → Prop} {S : Int} {k : Nat} {L : Nat → List Itm} (hs : ∀ j, j ≤ k → ∀ x ∈ L j, Sd K lf S j x) : QOk K k L (fun x => Sd K lf S k x ∧ x.f ≤ k) := by
  have hle : ∀ x, Sd K lf S k x → x.f ≤ k := fun x ⟨r, _, _, _, h4⟩ => R0.le (fun s i j hp => Dx.le hp) h4
  refine ⟨fun x hx => ?_, fun x hx => ⟨hs k (Nat.le_refl _) x hx, hle x (hs k (Nat.le_refl _) x hx)⟩, fun x s i y hx hn hp => ?_, fun x y z r hx hn hr hy hz => ?_⟩
  · obtain ⟨r, h1, h2, _⟩ := hx.1
    exact ⟨hx.2, r, h1, h2⟩
  · obtain ⟨r, h1, h2, rfl⟩ := prP_some.1 hp
    rw [h2] at hn
    have := sd_pred hx.1 hn h1 rfl
    exact ⟨this, Nat.le_refl _⟩
  · obtain ⟨h1, rfl⟩ := coP_some.1 hz
    have hyS : Sd K lf S x.f y := by
      rcases hy with ⟨h2, h3⟩ | ⟨h2, h3⟩
      · exact hs x.f (by omega) y h3
      · rw [h2]; exact h3.1
    have := sd_comp hx.1 hn hr hyS h1
    exact ⟨this, hle _ this⟩
end Ht
end Go.Proofs.Ytjpmebppdcclbaa
namespace Go.Proofs.Ytjpmebppdcclbaa
open Go.RowKit
namespace Ho
open Rp Hl
open Ht hiding D
theorem _root_.Go.Proofs.Ytjpmebppdcclbaa.Ht.FM.lens {B fb : Nat} {gt gn gs : Int} {ra : Option Addr} {rc : Nat} {K : List Rule} {O : Nat → Prop} {n : Nat} {L : Nat → List Itm} {w : World} (h : FM B fb gt gn gs ra rc K O n L w) {j : Nat} (hj : j < n) : ∃ sb cap a m, w.cell? ⟨fb, 0 + 4, none⟩ = some (.slice (some ⟨sb, 0, none⟩) n cap) ∧ w.cell? ⟨sb, j, none⟩ = some (.slice a (L j).length m) ∧ IRow (fun _ => True) w a (L j) ∧ Rd AnyB w (.sl ((L j).map Itm.d')) [.slice a (L j).length m] := by
  obtain ⟨sb, cap, val, h1, h2⟩ := h
  obtain ⟨a, m, e, e1, e2, hir⟩ := FM.irow h1 hj
  have hc := h1.st.cell hj
  rw [e] at hc
  have hro := h1.st.row j hj
  have hrd := rd_of_own (S := AnyB) hro (rdI (L j)) (by simp) (fun _ _ => trivial)
  rw [e] at hrd
  exact ⟨sb, cap, a, m, by simp [World.cell?, h1.box], hc, hir.mono (fun _ _ => trivial), hrd⟩
theorem _root_.Go.Proofs.Ytjpmebppdcclbaa.Ho.IRow.stp {O O' : Nat → Prop} {w w' : World} {a : Option Addr} {c : List Itm} (h : IRow (fun q => ¬ O q) w a c) (hs : Stp O O' w w') : IRow (fun q => ¬ O' q) w' a c := by
  intro i hi
  obtain ⟨g, h1, h2, h3, h4, h5, h6⟩ := h i hi
  have e := hs.same g h3 h2
  refine ⟨g, h1, fun e2 => (hs.own g e2).elim h2 (fun h7 => by omega), Nat.lt_of_lt_of_le h3 hs.size, ?_, ?_, ?_⟩ <;> (rw [World.cell?_of_block (w := w) (by exact e)]; assumption)
def ComPost (B fb : Nat) (gt gn gs : Int) (ra : Option Addr) (rc : Nat) (K : List Rule) (O : Nat → Prop) (n : Nat) (L : Nat → List Itm) (k : Nat) (Q : Itm → Prop) (W : World) (e : Ending) (w' : World) : Prop := e = .returned (.tuple #[]) ∧ ∃ O' c, FM B fb gt gn gs ra rc K O' n (upL L k c) w' ∧ Stp O O' W w' ∧ CoI k L Q c ∧ ∀ x ∈ c, Clo K k (upL L k c) x
set_option maxHeartbeats 16000000 in
set_option maxRecDepth 100000 in
theorem completeF {B fb : Nat} {gt gn gs : Int} {ra : Option Addr} {rc : Nat} {K : List Rule} {O : Nat → Prop} {n : Nat} {L : Nat → List Itm} (W : World) (h : FM B fb gt gn gs ra rc K O n L W) (k : Nat) (hk : n = k + 1) (hn : n ≤ 100) (hkl : K.length ≤ 100) (hr4 : ∀ r ∈ K, r.right.length ≤ 4) (Q : Itm → Prop) (hQ : QOk K k L Q) (hnd : (L k).Nodup) (hLL : ∀ j, j < k → (L j).length ≤ 50000) (hLr : ∀ j, j < k → ∀ y ∈ L j, y.r < K.length) :
    Calls Try.prog 61 #[.pointer (some ⟨fb, 0, none⟩)] W (ComPost B fb gt gn gs ra rc K O n L k Q W) := by
  obtain ⟨PST, HP⟩ := nameIt (ComPost B fb gt gn gs ra rc K O n L k Q W)
  have HFIN : Hid (∀ O' c w', FM B fb gt gn gs ra rc K O' n (upL L k c) w' → Stp O O' W w' → CoI k L Q c → (∀ x ∈ c, Clo K k (upL L k c) x) → PST (.returned (.tuple #[])) w') := by
    intro O' c w' h1 h2 h3 h4
    rw [← HP.out]
    exact ⟨rfl, O', c, h1, h2, h3, h4⟩
  rw [HP.out]
  have HLN : Hid (∀ c, CoI k L Q c → c.length ≤ 50000) := by
    intro c hc
    have h1 := hc.len hr4 hQ
    have h2 : K.length * 5 * (k + 1) ≤ 100 * 5 * 100 := Nat.mul_le_mul (Nat.mul_le_mul_right _ hkl) (by omega)
    omega
  have HKK := Lib.hid hk
  have hkn : k < n := by omega
  have hkn' : (k : Int) < (n : Int) := by omega
  have HC0 : Hid (CoI k L Q (L k)) := CoI.start hQ hnd
  have HQ := Lib.hid hQ
  have HKL := Lib.hid hkl
  have HLJ := Lib.hid hLL
  have HLR := Lib.hid hLr
  have HR4 := Lib.hid hr4
  have HF0 : Hid (FM B fb gt gn gs ra rc K O n (upL L k (L k)) W) := by rw [upL_self]; exact h
  have hw1 : IntKind.i64.wrap ((n : Int) - 1) = (k : Int) := by rw [IntWalk.i64_in _ (by omega)]; omega
  obtain ⟨sb, cap, c4⟩ := h.sets
  clear hk hQ hnd hr4 HP hkl h hLL hLr
  go_enter Try.func61, Try.ntmps61
  go_wp2_with fail
  go_loopg [3, 4, 5, 6, 7, 9, 10, 11] 50001 (fun gg v3 v4 v5 v6 v7 v9 v10 v11 wr => ∃ (nn : Int) (O' : Nat → Prop) (c : List Itm), v3 = .int .i64 nn ∧ -1 ≤ nn ∧ nn ≤ (c.length : Int) ∧ (50000 - nn).toNat ≤ gg ∧ Hid (FM B fb gt gn gs ra rc K O' n (upL L k c) wr) ∧ Hid (Stp O O' W wr) ∧ Hid (CoI k L Q c) ∧ Hid (nn = (c.length : Int) → ∀ x ∈ c, Clo K k (upL L k c) x))
  case atStart => exact ⟨-1, O, L k, rfl, by omega, by omega, by omega, HF0, Stp.below (Below.refl _ _), HC0, fun e => by omega⟩
  case round =>
    clear c4
    obtain ⟨nn, O', c, rfl, hn1, hn2, hgg, HF, HSP, HC, HCL⟩ := hrel
    obtain ⟨sb1, cap1, a1, m1, c4, c5, -, -⟩ := HF.out.lens hkn
    rw [upL_at] at c5
    have hcl := HLN.out c HC.out
    obtain ⟨cl, HCLN⟩ := nameIt c.length
    rw [HCLN.out] at c5 hcl hn2 HCL
    by_cases he : nn = (cl : Int)
    · have hne : (nn != (cl : Int)) = false := by simp [he]
      have HE := Lib.hid (HFIN.out O' c wr HF.out HSP.out HC.out (HCL.out he))
      clear he
      go_wp2_with fail
      first | exact HE.out | exact bodyPost_end (results_none Try.results61 _ _ _) rfl HE.out
    · have hne : (nn != (cl : Int)) = true := by simp [he]
      have HTH0 : Hid (Thr K k L c c 0) := Thr.start
      have HNE := Lib.hid he
      clear he
      go_wp2_with fail
      go_loopg [4, 5, 6, 7, 9, 10, 11] 50001 (fun gg v4 v5 v6 v7 v9 v10 v11 wr => ∃ (i : Nat) (O2 : Nat → Prop) (c2 : List Itm), v4 = .int .i64 (i : Int) ∧ i ≤ c2.length ∧ 50000 - i ≤ gg ∧ Hid (FM B fb gt gn gs ra rc K O2 n (upL L k c2) wr) ∧ Hid (Stp O O2 W wr) ∧ Hid (CoI k L Q c2) ∧ Hid (Thr K k L c c2 i))
      case atStart => exact ⟨0, O', c, rfl, by omega, by omega, HF, HSP, HC, HTH0⟩
      case round =>
        clear c4 c5 HF HSP HC HCL HTH0
        obtain ⟨i, O2, c2, rfl, hi, hgg2, HF, HSP, HC, HTH⟩ := hrel
        obtain ⟨sb2, cap2, a2, m2, c4, c5, hir, -⟩ := HF.out.lens hkn
        rw [upL_at] at c5 hir
        have hcl2 := HLN.out c2 HC.out
        obtain ⟨l2, HL2⟩ := nameIt c2.length
        rw [HL2.out] at c5 hcl2 hi
        by_cases hil : i < l2
        · have hil' : (i : Int) < (l2 : Int) := by omega
          have hiL : i < c2.length := by rw [HL2.out]; exact hil
          obtain ⟨g2, hae, hOg, hgl, q0, q1, q2⟩ := hir i hiL
          have hxm : c2[i] ∈ c2 := List.getElem_mem hiL
          have hok := HQ.out.ok _ (HC.out.q _ hxm)
          have HTS : Hid (∀ c', c2 <+: c' → (c' = c2 → Clo K k (upL L k c2) c2[i]) → Thr K k L c c' (i + 1)) := fun c' h1 h2 => Thr.step hiL HTH.out h1 h2
          obtain ⟨x, HX⟩ := nameIt (c2[i]'hiL)
          rw [HX.out] at q0 q1 q2 hxm hok HTS
          obtain ⟨hxf, r, hxr, hxd⟩ := hok
          have hxK : x.r < K.length := by
            rcases Nat.lt_or_ge x.r K.length with h | h
            · exact h
            · rw [List.getElem?_eq_none h] at hxr; cases hxr
          have HXM := Lib.hid hxm
          have HXR := Lib.hid hxr
          have HXF := Lib.hid hxf
          have HXK := Lib.hid hxK
          obtain ⟨w1, HW1⟩ := nameIt (wr.alloc (.cells #[.int .i64 (x.r : Int), .int .i64 (x.d : Int), .int .i64 (x.f : Int)] 104))
          have hb1 : Below wr.heap.size wr w1 := by rw [← HW1.out]; exact (Below.refl _ _).alloc (Nat.le_refl _) _
          have X1 : Hid (w1.heap[wr.heap.size]? = some (.cells #[.int .i64 (x.r : Int), .int .i64 (x.d : Int), .int .i64 (x.f : Int)] 104 (0, 0))) := by rw [← HW1.out]; exact bx_new _ _ _ rfl
          have HNB : Hid (¬ O2 wr.heap.size) := FM.new HF.out (Nat.le_refl _)
          have HF1 := Lib.hid (HF.out.keep hb1)
          have HNX := Lib.hid (nextE w1 HF1.out x hxK)
          have HB1 := Lib.hid hb1
          obtain ⟨ns, HNS⟩ := nameIt (nxtV K x)
          have HNV : Hid ((nxt K x).isSome = true → nxt K x = some ns) := by
            intro h
            rw [← HNS.out]
            unfold nxtV
            obtain ⟨s, hs⟩ := Option.isSome_iff_exists.1 h
            rw [hs]; rfl
          have HNN : Hid ((nxt K x).isSome = false → nxt K x = none) := by
            intro h
            cases e : nxt K x with
            | none => rfl
            | some s => rw [e] at h; cases h
          obtain ⟨okb, HOKB⟩ := nameIt (nxt K x).isSome
          rw [HNS.out, HOKB.out] at HNX
          rw [HOKB.out] at HNV HNN
          obtain ⟨st, HSTN⟩ := nameIt ns.term
          obtain ⟨sn, HSNN⟩ := nameIt ns.n
          rw [HSTN.out, HSNN.out] at HNX
          obtain ⟨xr, HXRN⟩ := nameIt x.r
          obtain ⟨xd, HXDN⟩ := nameIt x.d
          obtain ⟨xf, HXFN⟩ := nameIt x.f
          rw [HXRN.out] at q0 HW1 X1 HNX
          rw [HXDN.out] at q1 HW1 X1 HNX
          rw [HXFN.out] at q2 HW1 X1 HNX
          obtain ⟨bx, HBXN⟩ := nameIt wr.heap.size
          rw [HBXN.out] at X1 HNB
          subst hae
          clear hb1 hir hxm hxr hxd hxK hxf
          go_upto_region 8 with fail
          rw [HW1.out, HBXN.out]
          clear HW1 q0 q1 q2 c4 c5
          obtain ⟨y0, y1, y2⟩ := bx_cells3 X1.out
          go_wp2_with fail
          refine HNX.out.mono ?_
          rintro e w2 ⟨rfl, hb2⟩
          have HB2 : Hid (Below wr.heap.size wr w2) := HB1.out.trans (hb2.mono HB1.out.size)
          obtain ⟨w3, HW3⟩ := nameIt (w2.alloc (.cells #[.bool st, .int .i64 sn] 44))
          have hb3 : Below w2.heap.size w2 w3 := by rw [← HW3.out]; exact (Below.refl _ _).alloc (Nat.le_refl _) _
          have X3 : Hid (w3.heap[w2.heap.size]? = some (.cells #[.bool st, .int .i64 sn] 44 (0, 0))) := by rw [← HW3.out]; exact bx_new _ _ _ rfl
          have HB3 : Hid (Below wr.heap.size wr w3) := HB2.out.trans (hb3.mono HB2.out.size)
          have HF3 := Lib.hid (HF.out.keep HB3.out)
          have HSP3 : Hid (Stp O O2 W w3) := HSP.out.trans (Stp.below HB3.out)
          have HX3 : Hid (w3.heap[bx]? = some (.cells #[.int .i64 (xr : Int), .int .i64 (xd : Int), .int .i64 (xf : Int)] 104 (0, 0)) ∧ ¬ O2 bx) := ⟨bx_keep (bx_keep X1.out hb2) hb3, HNB.out⟩
          obtain ⟨bs, HBSN⟩ := nameIt w2.heap.size
          rw [HBSN.out] at X3
          clear hb2 hb3 y0 y1 y2
          go_upto_region 9 with fail
          rw [HW3.out, HBSN.out]
          clear HW3
          cases okb with
          | true =>
            have hns := HNV.out rfl
            have hpr := predictE w3 HF3.out k HKK.out hn ns HKL.out (by rw [upL_at]; have := HLN.out c2 HC.out; omega)
            rw [upL_at, upL_up, HSTN.out, HSNN.out] at hpr
            have HPR := Lib.hid hpr
            have HC' := Lib.hid (HC.out.pred HQ.out HXM.out hns)
            have HT' := Lib.hid (HTS.out (prF K ns k c2) pre_addF (fun e => clo_pred hns e))
            have hc2 := HLN.out _ HC'.out
            obtain ⟨s0, s1⟩ := bx_cells2 X3.out
            have hpl : c2.length ≤ (prF K ns k c2).length := pre_addF.length_le
            clear hpr hns
            go_wp2_with fail
            refine HPR.out.mono ?_
            rintro e w4 ⟨rfl, O4, hf4, hs4⟩
            have HF4 := Lib.hid hf4
            have HSP4 : Hid (Stp O O4 W w4) := HSP3.out.trans hs4
            clear hf4 hs4 s0 s1
            go_wp2_with fail
            go_roundg (50000 - (i + 1))
            case measure => omega
            case rel => exact ⟨i + 1, O4, _, by go_num, by omega, by omega, HF4, HSP4, HC', HT'⟩
          | false =>
            have hns := HNN.out rfl
            have hfk := HXF.out
            have hfn : x.f < n := by have := HKK.out; omega
            obtain ⟨sb3, cap3, a3, m3, c4, c5, -, hrd3⟩ := HF3.out.lens hfn
            have hyl : (upL L k c2 x.f).length ≤ 50000 := by
              unfold upL
              split
              · exact HLN.out c2 HC.out
              · exact HLJ.out _ (by omega)
            have HCM := Lib.hid (fun (r : Rule) (hr : K[x.r]? = some r) => HC.out.comp HQ.out HXM.out hr hns)
            have HCX := Lib.hid (fun (r : Rule) (hr : K[x.r]? = some r) => clo_comp (L := L) (k := k) (c := c2) hr hns)
            obtain ⟨ys, HYS⟩ := nameIt (upL L k c2 x.f)
            rw [HYS.out] at c5 hrd3 hyl
            simp only [HYS.out] at HCM HCX
            rw [HXFN.out] at c5 hfn
            have hfn' : (xf : Int) < (n : Int) := by omega
            have HCL : Hid (∀ W', Below w3.heap.size w3 W' → Calls Try.prog 93 #[.slice a3 ys.length m3] W' fun e w' => ∃ a' m', e = .returned (.slice a' ys.length m') ∧ IRow (fun k => W'.heap.size ≤ k) w' a' ys ∧ Below W'.heap.size W' w') := fun W' hb => cloneI ys a3 m3 W' (hrd3.below hb) (by omega)
            obtain ⟨yl, HYL⟩ := nameIt ys.length
            rw [HYL.out] at c5 hyl
            simp only [HYL.out] at HCL
            have HS : Hid (∀ W', Below w3.heap.size w3 W' → W'.cell? ⟨fb, 0 + 4, none⟩ = some (.slice (some ⟨sb3, 0, none⟩) n cap3) ∧ W'.cell? ⟨sb3, xf, none⟩ = some (.slice a3 yl m3) ∧ W'.cell? ⟨bx, 0 + 2, none⟩ = some (.int .i64 (xf : Int))) := fun W' hb => ⟨(hb.cell (lt_of_cell c4)).trans c4, (hb.cell (lt_of_cell c5)).trans c5, (bx_cells3 (bx_keep HX3.out.1 hb)).2.2⟩
            clear hrd3 c4 c5 hns hfk
            go_upto_region 11 with fail
            go_cut [76, 77, 78] (fun v76 v77 v78 wx => ∃ a' m', v76 = .slice a' yl m' ∧ v77 = .int .i64 (yl : Int) ∧ v78 = .int .i64 0 ∧ Hid (IRow (fun k => w3.heap.size ≤ k) wx a' ys) ∧ Hid (Below w3.heap.size w3 wx))
            case first =>
              obtain ⟨c4, c5, c6⟩ := HS.out w3 (Below.refl _ _)
              go_region_held3 (fun w' => w'.cell? ⟨fb, 0 + 4, none⟩ = some (.slice (some ⟨sb3, 0, none⟩) n cap3) ∧ w'.cell? ⟨sb3, xf, none⟩ = some (.slice a3 yl m3) ∧ w'.cell? ⟨bx, 0 + 2, none⟩ = some (.int .i64 (xf : Int)))
                (first | exact HS.out _ (Below.refl _ _).drew | exact HS.out _ HB5.out | fail)
                (first
                  | (go_at_call 93; (with_reducible refine (HCL.out _ (Below.refl _ _).drew).mono ?_); rintro e w5 ⟨a5, m5, rfl, hir5, hb5⟩; have HB5 : Hid (Below w3.heap.size w3 w5) := (Below.refl _ _).drew.trans hb5; have HIR5 : Hid (IRow (fun k => w3.heap.size ≤ k) w5 a5 ys) := hir5; clear hir5 hb5)
                  | fail)
              all_goals
                go_wp2_with fail
                go_meet
                exact ⟨a5, m5, rfl, rfl, rfl, HIR5, HB5⟩
            case rest =>
            obtain ⟨a5, m5, rfl, rfl, rfl, HIR5, HB5⟩ := hcut
            obtain ⟨ws, rfl⟩ : ∃ ww : World, ww = wc := ⟨_, rfl⟩
            have HF5 := Lib.hid (HF3.out.keep HB5.out)
            have HSP5 : Hid (Stp O O2 W ws) := HSP3.out.trans (Stp.below HB5.out)
            have HX5 : Hid (ws.heap[bx]? = some (.cells #[.int .i64 (xr : Int), .int .i64 (xd : Int), .int .i64 (xf : Int)] 104 (0, 0)) ∧ ¬ O2 bx) := ⟨bx_keep HX3.out.1 HB5.out, HX3.out.2⟩
            have HI5 : Hid (IRow (fun q => ¬ O2 q) ws a5 ys) := HIR5.out.mono (fun q hq => FM.new HF3.out hq)
            obtain ⟨lf, HLF⟩ := nameIt r.left
            have HYR : Hid (∀ y ∈ ys, y.r < K.length) := by
              intro y hy
              rw [← HYS.out] at hy
              unfold upL at hy
              split at hy
              · obtain ⟨_, r', h1, _⟩ := HQ.out.ok y (HC.out.q y hy)
                rcases Nat.lt_or_ge y.r K.length with h | h
                · exact h
                · rw [List.getElem?_eq_none h] at h1; cases h1
              · have := HXF.out
                exact HLR.out x.f (by omega) y hy
            clear HIR5 HS HCL hfn hfn'
            go_upto_region 12 with fail
            go_loopg [9, 10, 11, 78] yl (fun gg v9 v10 v11 v78 wr2 => ∃ (j : Nat) (O5 : Nat → Prop), j ≤ yl ∧ yl - j ≤ gg ∧ v78 = .int .i64 (j : Int) ∧ Hid (FM B fb gt gn gs ra rc K O5 n (upL L k (addF (coP K lf) c2 (ys.take j))) wr2) ∧ Hid (Stp O O5 W wr2) ∧ Hid (wr2.heap[bx]? = some (.cells #[.int .i64 (xr : Int), .int .i64 (xd : Int), .int .i64 (xf : Int)] 104 (0, 0)) ∧ ¬ O5 bx) ∧ Hid (IRow (fun q => ¬ O5 q) wr2 a5 ys))
            case atStart => exact ⟨0, O2, by omega, by omega, rfl, by rw [List.take_zero]; exact HF5, HSP5, HX5, HI5⟩
            case round =>
              clear HF5 HSP5 HX5 HI5
              obtain ⟨j, O5, hj, hgg3, rfl, HFY, HSY, HXY, HIY⟩ := hrel
              by_cases hjl : j < yl
              · have hjl' : (j : Int) < (yl : Int) := by omega
                obtain ⟨wy, rfl⟩ : ∃ ww : World, ww = wr := ⟨_, rfl⟩
                have hjL : j < ys.length := by rw [HYL.out]; exact hjl
                obtain ⟨g5, hae5, hOg5, hgl5, q0, q1, q2⟩ := HIY.out j hjL
                have hyr := HYR.out _ (List.getElem_mem hjL)
                have hsucc := addF_succ (P := coP K lf) (c := c2) (ys := ys) (j := j) hjL
                have hcl5 : (addF (coP K lf) c2 (ys.take j)).length ≤ 100000 := by
                  refine Nat.le_trans addF_len ?_
                  have := HLN.out c2 HC.out
                  rw [List.length_take]; omega
                obtain ⟨y, HYN⟩ := nameIt (ys[j]'hjL)
                rw [HYN.out] at q0 q1 q2 hyr hsucc
                obtain ⟨cj, HCJ⟩ := nameIt (addF (coP K lf) c2 (ys.take j))
                rw [HCJ.out] at hsucc hcl5 HFY
                obtain ⟨w6, HW6⟩ := nameIt (wy.alloc (.cells #[.int .i64 (y.r : Int), .int .i64 (y.d : Int), .int .i64 (y.f : Int)] 104))
                have hb6 : Below wy.heap.size wy w6 := by rw [← HW6.out]; exact (Below.refl _ _).alloc (Nat.le_refl _) _
                have X6 : Hid (w6.heap[wy.heap.size]? = some (.cells #[.int .i64 (y.r : Int), .int .i64 (y.d : Int), .int .i64 (y.f : Int)] 104 (0, 0))) := by rw [← HW6.out]; exact bx_new _ _ _ rfl
                have HNB6 : Hid (¬ O5 wy.heap.size) := FM.new HFY.out (Nat.le_refl _)
                have HF6 := Lib.hid (HFY.out.keep hb6)
                have HNX6 := Lib.hid (nextE w6 HF6.out y hyr)
                have HB6 := Lib.hid hb6
                have HSU := Lib.hid hsucc
                have HCL5 := Lib.hid hcl5
                obtain ⟨ns2, HNS2⟩ := nameIt (nxtV K y)
                have HNV2 : Hid ((nxt K y).isSome = true → nxt K y = some ns2) := by
                  intro h
                  rw [← HNS2.out]
                  unfold nxtV
                  obtain ⟨s, hs⟩ := Option.isSome_iff_exists.1 h
                  rw [hs]; rfl
                have HNN2 : Hid ((nxt K y).isSome = false → nxt K y = none) := by
                  intro h
                  cases e : nxt K y with
                  | none => rfl
                  | some s => rw [e] at h; cases h
                obtain ⟨okb2, HOKB2⟩ := nameIt (nxt K y).isSome
                rw [HNS2.out, HOKB2.out] at HNX6
                rw [HOKB2.out] at HNV2 HNN2
                obtain ⟨⟨st2, sn2⟩, HNS3⟩ := nameIt ns2
                rw [HNS3.out] at HNX6 HNV2
                dsimp only at HNX6
                obtain ⟨yr, HYRN⟩ := nameIt y.r
                obtain ⟨yd, HYDN⟩ := nameIt y.d
                obtain ⟨yf, HYFN⟩ := nameIt y.f
                rw [HYRN.out] at q0 HW6 X6 HNX6
                rw [HYDN.out] at q1 HW6 X6 HNX6
                rw [HYFN.out] at q2 HW6 X6 HNX6
                obtain ⟨by6, HBY6⟩ := nameIt wy.heap.size
                rw [HBY6.out] at X6 HNB6
                subst hae5
                clear hb6 hyr hsucc hcl5 hOg5 hgl5
                go_upto_region 14 with fail
                rw [HW6.out, HBY6.out]
                clear HW6 q0 q1 q2
                obtain ⟨y0, y1, y2⟩ := bx_cells3 X6.out
                go_wp2_with fail
                refine HNX6.out.mono ?_
                rintro e w7 ⟨rfl, hb7⟩
                obtain ⟨w8, HW8⟩ := nameIt (w7.alloc (.cells #[.bool st2, .int .i64 sn2] 44))
                have hb8 : Below w7.heap.size w7 w8 := by rw [← HW8.out]; exact (Below.refl _ _).alloc (Nat.le_refl _) _
                have X8 : Hid (w8.heap[w7.heap.size]? = some (.cells #[.bool st2, .int .i64 sn2] 44 (0, 0))) := by rw [← HW8.out]; exact bx_new _ _ _ rfl
                have HB8 : Hid (Below wy.heap.size wy w8) := (HB6.out.trans (hb7.mono HB6.out.size)).trans (hb8.mono (HB6.out.trans (hb7.mono HB6.out.size)).size)
                have X68 := Lib.hid (bx_keep (bx_keep X6.out hb7) hb8)
                have HF8 := Lib.hid (HFY.out.keep HB8.out)
                obtain ⟨bs8, HBS8⟩ := nameIt w7.heap.size
                rw [HBS8.out] at X8
                clear hb7 hb8 y0 y1 y2
                go_upto_region 15 with fail
                rw [HW8.out, HBS8.out]
                clear HW8
                have hxk := HXK.out
                obtain ⟨bk8, ro8, v8, hae8, -, -, s0, -, -⟩ := HF8.out.rd.rule_at hxk
                have hxr8 := HXR.out
                rw [List.getElem?_eq_getElem hxk] at hxr8
                have hkl8 : K[x.r].left = lf := by rw [Option.some.inj hxr8]; exact HLF.out
                rw [hkl8, HXRN.out] at s0
                have hru := HF8.out.rules
                obtain ⟨kn, HKN⟩ := nameIt K.length
                have hxkn : xr < kn := by rw [← HXRN.out, ← HKN.out]; exact hxk
                have hxkn' : (xr : Int) < (kn : Int) := by omega
                rw [HKN.out] at hru
                obtain ⟨z0, z1⟩ := bx_cells2 X8.out
                obtain ⟨x0, -, -⟩ := bx_cells3 (bx_keep HXY.out.1 HB8.out)
                have he := symEq st2 false sn2 lf
                obtain ⟨bq, HBQ⟩ := nameIt (st2 == false && sn2 == lf)
                rw [HBQ.out] at he
                have HCO : Hid (coP K lf y = if okb2 && bq then some ⟨yr, yd + 1, yf⟩ else none) := by
                  show _ = _
                  unfold coP
                  rw [HYRN.out, HYDN.out, HYFN.out]
                  have e1 : decide (nxt K y = some ⟨false, lf⟩) = (okb2 && bq) := by
                    cases okb2 with
                    | false => rw [HNN2.out rfl]; simp
                    | true =>
                      rw [HNV2.out rfl, ← HBQ.out, Bool.eq_iff_iff]
                      simp
                  rw [← e1]
                  simp
                have i0 := aft_cell s0
                have i1 := aft_cell hru
                have i2 := aft_cell z0
                have i3 := aft_cell z1
                have i4 := aft_cell x0
                have HGN : Hid (∀ W2, Below w8.heap.size w8 W2 → Calls Try.prog 60 #[.int .i64 lf] W2 fun e w' => e = .returned (.agg #[.bool false, .int .i64 lf]) ∧ Below W2.heap.size W2 w') := fun W2 _ => gramN lf W2
                subst hae8
                clear s0 hru z0 z1 x0 hkl8 hxr8 hxk
                cases okb2 with
                | false =>
                  refine wp_region_after (by kernel_rfl) (by kernel_rfl) ?_
                  repeat (go_big_quiet_step (with_reducible exact Calls.after (HGN.out _ (Aft.bel _))))
                  refine wpQuiet_nil ?_
                  rintro w9 ⟨⟨_, hb9⟩, rfl⟩
                  have HB9 : Hid (Below wy.heap.size wy w9) := HB8.out.trans (hb9.mono HB8.out.size)
                  have HF9 := Lib.hid (HF8.out.keep hb9)
                  have X69 := Lib.hid (bx_keep X68.out hb9)
                  have HSP9 : Hid (Stp O O5 W w9) := HSY.out.trans (Stp.below HB9.out)
                  have HX9 : Hid (w9.heap[bx]? = some (.cells #[.int .i64 (xr : Int), .int .i64 (xd : Int), .int .i64 (xf : Int)] 104 (0, 0)) ∧ ¬ O5 bx) := ⟨bx_keep HXY.out.1 HB9.out, HXY.out.2⟩
                  have HI9 := Lib.hid (HIY.out.below HB9.out)
                  clear hb9 i0 i1 i2 i3 i4 he
                  have hC : addF (coP K lf) c2 (ys.take (j + 1)) = cj := by rw [HSU.out, HCO.out]; rfl
                  have HF10 : Hid (FM B fb gt gn gs (some ⟨bk8, ro8, none⟩) rc K O5 n (upL L k (addF (coP K lf) c2 (ys.take (j + 1)))) w9) := by rw [hC]; exact HF9.out
                  clear hC
                  go_wp2_with fail
                  go_roundg (yl - (j + 1))
                  case measure => omega
                  case rel => exact ⟨j + 1, O5, by omega, by omega, by go_num, HF10, HSP9, HX9, HI9⟩
                | true =>
                cases bq with
                | false =>
                  refine wp_region_after (by kernel_rfl) (by kernel_rfl) ?_
                  repeat (go_big_quiet_step (with_reducible exact Calls.after (HGN.out _ (Aft.bel _))))
                  refine wpQuiet_nil ?_
                  rintro w9 ⟨⟨_, hb9⟩, rfl⟩
                  have HB9 : Hid (Below wy.heap.size wy w9) := HB8.out.trans (hb9.mono HB8.out.size)
                  have HF9 := Lib.hid (HF8.out.keep hb9)
                  have X69 := Lib.hid (bx_keep X68.out hb9)
                  have HSP9 : Hid (Stp O O5 W w9) := HSY.out.trans (Stp.below HB9.out)
                  have HX9 : Hid (w9.heap[bx]? = some (.cells #[.int .i64 (xr : Int), .int .i64 (xd : Int), .int .i64 (xf : Int)] 104 (0, 0)) ∧ ¬ O5 bx) := ⟨bx_keep HXY.out.1 HB9.out, HXY.out.2⟩
                  have HI9 := Lib.hid (HIY.out.below HB9.out)
                  clear hb9 i0 i1 i2 i3 i4 he
                  have hC : addF (coP K lf) c2 (ys.take (j + 1)) = cj := by rw [HSU.out, HCO.out]; rfl
                  have HF10 : Hid (FM B fb gt gn gs (some ⟨bk8, ro8, none⟩) rc K O5 n (upL L k (addF (coP K lf) c2 (ys.take (j + 1)))) w9) := by rw [hC]; exact HF9.out
                  clear hC
                  go_wp2_with fail
                  go_roundg (yl - (j + 1))
                  case measure => omega
                  case rel => exact ⟨j + 1, O5, by omega, by omega, by go_num, HF10, HSP9, HX9, HI9⟩
                | true =>
                  refine wp_region_after (by kernel_rfl) (by kernel_rfl) ?_
                  repeat (go_big_quiet_step (with_reducible exact Calls.after (HGN.out _ (Aft.bel _))))
                  refine wpQuiet_nil ?_
                  rintro w9 ⟨⟨_, hb9⟩, rfl⟩
                  have HB9 : Hid (Below wy.heap.size wy w9) := HB8.out.trans (hb9.mono HB8.out.size)
                  have HF9 := Lib.hid (HF8.out.keep hb9)
                  have X69 := Lib.hid (bx_keep X68.out hb9)
                  have HSP9 : Hid (Stp O O5 W w9) := HSY.out.trans (Stp.below HB9.out)
                  have HX9 : Hid (w9.heap[bx]? = some (.cells #[.int .i64 (xr : Int), .int .i64 (xd : Int), .int .i64 (xf : Int)] 104 (0, 0)) ∧ ¬ O5 bx) := ⟨bx_keep HXY.out.1 HB9.out, HXY.out.2⟩
                  have HI9 := Lib.hid (HIY.out.below HB9.out)
                  clear hb9 i0 i1 i2 i3 i4 he
                  have hyd : yd < 4 := by
                    obtain ⟨r9, h1, h2⟩ := nxt_some.1 (HNV2.out rfl)
                    have h3 := HR4.out r9 (List.mem_of_getElem? h1)
                    have h4 := d_lt h2
                    rw [HYDN.out] at h4
                    omega
                  obtain ⟨yd1, HYD1⟩ := nameIt (yd + 1)
                  have hwd : IntKind.i64.wrap ((yd : Int) + 1) = (yd1 : Int) := by have := HYD1.out; rw [IntWalk.i64_in _ (by omega)]; omega
                  have hC : addF (coP K lf) c2 (ys.take (j + 1)) = addI cj ⟨yr, yd1, yf⟩ := by rw [HSU.out, HCO.out, HYD1.out]; rfl
                  have hadd := addE w9 HF9.out k HKK.out hn ⟨yr, yd1, yf⟩ (by rw [upL_at]; have := HCL5.out; omega)
                  rw [upL_at, upL_up, ← hC] at hadd
                  have HAD := Lib.hid hadd
                  obtain ⟨y0, y1, y2⟩ := bx_cells3 X69.out
                  clear hadd hC hyd
                  go_wp2_with fail
                  refine HAD.out.mono ?_
                  rintro e wz ⟨rfl, O6, hf6, hs6⟩
                  have HF10 := Lib.hid hf6
                  have HSP10 : Hid (Stp O O6 W wz) := HSP9.out.trans hs6
                  have HX10 := Lib.hid (hs6.box HX9.out.1 HX9.out.2)
                  have HI10 : Hid (IRow (fun q => ¬ O6 q) wz (some ⟨g5, 0, none⟩) ys) := HI9.out.stp hs6
                  clear hf6 hs6 y0 y1 y2
                  go_wp2_with fail
                  go_roundg (yl - (j + 1))
                  case measure => omega
                  case rel => exact ⟨j + 1, O6, by omega, by omega, by go_num, HF10, HSP10, HX10, HI10⟩
              · have hjl' : ¬ (j : Int) < (yl : Int) := by omega
                have htk : ys.take j = ys := List.take_of_length_le (by rw [HYL.out]; omega)
                rw [htk, ← HLF.out] at HFY
                have HC' := Lib.hid (HCM.out r HXR.out)
                have HT' := Lib.hid (HTS.out _ pre_addF (HCX.out r HXR.out))
                have hc2 := HLN.out _ HC'.out
                have hpl : c2.length ≤ (addF (coP K r.left) c2 ys).length := pre_addF.length_le
                clear htk
                go_wp2_with fail
                go_roundg (50000 - (i + 1))
                case measure => omega
                case rel => exact ⟨i + 1, O5, _, by go_num, by omega, by omega, HFY, HSY, HC', HT'⟩
        · have hil' : ¬ (i : Int) < (l2 : Int) := by omega
          have HPR := Lib.hid HTH.out.1.length_le
          have HCL2 : Hid ((cl : Int) = (c2.length : Int) → ∀ x ∈ c2, Clo K k (upL L k c2) x) := fun e => HTH.out.done (by rw [HL2.out]; omega) (by rw [HCLN.out]; omega)
          go_wp2_with fail
          go_roundg (50000 - (cl : Int)).toNat
          case measure => have := HNE.out; omega
          case rel => exact ⟨(cl : Int), O2, c2, rfl, by omega, by have := HPR.out; rw [HCLN.out] at this; omega, by omega, HF, HSP, HC, HCL2⟩
end Ho
end Go.Proofs.Ytjpmebppdcclbaa
namespace Go.Proofs.Ytjpmebppdcclbaa
open Go.RowKit Go.ChangeShapes Go.WideShapes Go.Deep
def OpensF {α : Type} (P : Program) (t : TypeId) (e : α → D) (sz : α → Nat) (ok lim : α → Prop) (N : Nat) : Prop :=
  ∀ (H : Type) (enc : TypeId × Value → H) (w : World) (n : Nat) (cs : List Value) (x : DataW H × List MemPlace), n ≤ N → DataW.trod enc P w 0 (fun _ => true) true n t cs = some x →
    ∃ a : α, Rd AnyB w (e a) cs ∧ sz a ≤ Rows.uptoBulk x.1 ∧ ok a ∧ ((∀ y ∈ DataW.weights P t x.1, y ≤ reachBytes) → lim a)
def Opens {α : Type} (P : Program) (t : TypeId) (e : α → D) (sz : α → Nat) (ok lim : α → Prop) : Prop := ∀ N, OpensF P t e sz ok lim N
def i64 (n : Int) : Prop := -9223372036854775808 ≤ n ∧ n ≤ 9223372036854775807
def one {α : Type} (_ : α) : Nat := 1
def any {α : Type} (_ : α) : Prop := True
theorem opens_int {P : Program} {t : TypeId} (ht : P.underlying t = some (.int .i64)) : Opens P t D.int one i64 any := by
  intro N H enc w n cs x _ h
  obtain ⟨z, h1, h2, h3⟩ := DataW.trod_int ht h
  subst h1 h2
  refine ⟨z, rfl, by simp [Rows.uptoBulk, one], ?_, fun _ => trivial⟩
  simpa [Lit.wf, IntKind.min, IntKind.max, IntKind.signed, IntKind.bits, i64] using h3
theorem opens_bool {P : Program} {t : TypeId} (ht : P.underlying t = some .bool) : Opens P t D.bool one any any := by
  intro N H enc w n cs x _ h
  obtain ⟨z, h1, h2⟩ := DataW.trod_bool ht h
  subst h1 h2
  exact ⟨z, rfl, by simp [Rows.uptoBulk, one], trivial, fun _ => trivial⟩
theorem bulkAll_append {H : Type} (l r : List (DataW H)) : Rows.uptoBulkAll (l ++ r) = Rows.uptoBulkAll l + Rows.uptoBulkAll r := by
  induction l with
  | nil => simp [Rows.uptoBulkAll]
  | cons x l ih => simp only [List.cons_append, Rows.uptoBulkAll, ih]; omega
theorem weightsAll_append {H : Type} (P : Program) (e : TypeId) (l r : List (DataW H)) : DataW.weightsAll P e (l ++ r) = DataW.weightsAll P e l ++ DataW.weightsAll P e r := by
  induction l with
  | nil => simp [DataW.weightsAll]
  | cons x l ih => simp [DataW.weightsAll, ih]
def slD {α : Type} (e : α → D) (l : List α) : D := .sl (l.map e)
def slSz {α : Type} (sz : α → Nat) (l : List α) : Nat := (l.map sz).sum + 1
def slOk {α : Type} (ok : α → Prop) (l : List α) : Prop := ∀ a ∈ l, ok a
def slLim {α : Type} (b : Nat) (lim : α → Prop) (l : List α) : Prop := l.length * b ≤ reachBytes ∧ ∀ a ∈ l, lim a
theorem opens_slice {α : Type} {P : Program} {t el : TypeId} {e : α → D} {sz : α → Nat} {ok lim : α → Prop} {N b : Nat} (ht : P.underlying t = some (.slice el)) (hby : P.bytesOf el = b) (ho : OpensF P el e sz ok lim N) :
    OpensF P t (slD e) (slSz sz) (slOk ok) (slLim b lim) N := by
  intro H enc w n cs x hn h
  rcases DataW.trod_slice ht h with ⟨rfl, rfl⟩ | ⟨a, len, cap, elems, rest, n', hf, rfl, rfl, hb, hl, hm, hlen, hel, _, _⟩
  · exact ⟨[], ⟨none, 0, [], rfl, by simp, by simp [maxLen], fun _ => rfl, fun i hi => by simp at hi, rfl⟩, by simp [Rows.uptoBulk, slSz], by simp [slOk], fun _ => ⟨by simp, by simp⟩⟩
  · have key : ∀ k, k ≤ len → ∃ (l : List α) (L : List Value), l.length = k ∧ RdAll AnyB w (l.map e) L ∧ L.length = k * P.cellsOf el ∧ (∀ j (hj : j < L.length), w.cell? (a.add j) = some L[j]) ∧
        (l.map sz).sum ≤ Rows.uptoBulkAll ((elems.take k).map (·.1)) ∧ slOk ok l ∧ ((∀ y ∈ DataW.weightsAll P el ((elems.take k).map (·.1)), y ≤ reachBytes) → ∀ a ∈ l, lim a) := by
      intro k
      induction k with
      | zero => intro _; exact ⟨[], [], rfl, by simp [RdAll], by simp, fun j hj => by simp at hj, by simp, by simp [slOk], fun _ => by simp⟩
      | succ k ih =>
        intro hk
        obtain ⟨l, L, h1, h2, h3, h4, h5, h6, h7⟩ := ih (by omega)
        have hk' : k < elems.length := by omega
        have he := hel k (by omega)
        rw [List.getElem?_eq_getElem hk'] at he
        obtain ⟨cs', hc1, hc2⟩ := Option.bind_eq_some_iff.1 he
        obtain ⟨a', r1, r2, r3, r4⟩ := ho H enc w n' cs' elems[k] (by omega) hc2
        obtain ⟨_, hcl, hcc⟩ := World.cells?_some hc1
        refine ⟨l ++ [a'], L ++ cs', by simp [h1], by rw [List.map_append]; exact RdAll.append h2 (RdAll.one r1), by simp [h3, hcl, Nat.add_mul], ?_, ?_, ?_, ?_⟩
        · intro j hj
          by_cases hjl : j < L.length
          · rw [List.getElem_append_left hjl]; exact h4 j hjl
          · simp at hj
            rw [List.getElem_append_right (by omega)]
            have := hcc (j - L.length) (by omega)
            rw [Deep.add_add, ← h3, show L.length + (j - L.length) = j by omega] at this
            rw [this, List.getElem?_eq_getElem (by omega)]
        · rw [List.take_succ_eq_append_getElem hk', List.map_append, List.map_append, bulkAll_append]
          simp [Rows.uptoBulkAll]
          simp at h5
          omega
        · intro y hy
          rcases List.mem_append.1 hy with h | h
          · exact h6 y h
          · simp at h; subst h; exact r3
        · intro hw y hy
          rw [List.take_succ_eq_append_getElem hk', List.map_append, weightsAll_append] at hw
          rcases List.mem_append.1 hy with h | h
          · exact h7 (fun z hz => hw z (List.mem_append_left _ hz)) y h
          · simp at h; subst h
            exact r4 (fun z hz => hw z (List.mem_append_right _ (by simpa [DataW.weightsAll] using hz)))
    obtain ⟨l, L, h1, h2, h3, h4, h5, h6, h7⟩ := key len (Nat.le_refl _)
    rw [List.take_of_length_le (by omega)] at h5 h7
    refine ⟨l, ⟨some a, cap, L, by simp [h1], by simpa [h1] using hl, hm, (fun h => by cases h), fun i hi => ⟨a, rfl, trivial, h4 i hi⟩, h2⟩, ?_, h6, ?_⟩
    · simp only [Rows.uptoBulk, slSz]; omega
    · intro hw
      simp only [DataW.weights, ht] at hw
      refine ⟨?_, h7 fun y hy => hw y (by simp [hy])⟩
      have := hw ((elems.map (·.1)).length + (rest.map (·.1)).length |>.mul (P.bytesOf el)) (by left)
      rw [h1, ← hlen, ← hby]
      have h8 : elems.length * P.bytesOf el ≤ ((elems.map (·.1)).length + (rest.map (·.1)).length) * P.bytesOf el := Nat.mul_le_mul_right _ (by simp)
      exact Nat.le_trans h8 this
theorem split2 {cs : List Value} {c0 c1 : Nat} (h : cs.length = c0 + c1) : cs = (cs.drop 0).take c0 ++ (cs.drop c0).take c1 := by
  rw [List.drop_zero, List.take_of_length_le (l := cs.drop c0) (by simp; omega), List.take_append_drop]
theorem split3 {cs : List Value} {c0 c1 c2 : Nat} (h : cs.length = c0 + c1 + c2) : cs = (cs.drop 0).take c0 ++ ((cs.drop c0).take c1 ++ (cs.drop (c0 + c1)).take c2) := by
  rw [← List.drop_drop, ← split2' (cs := cs.drop c0) (by simp; omega)]
  simp
where
  split2' {cs : List Value} {c1 c2 : Nat} (h : cs.length = c1 + c2) : cs = cs.take c1 ++ (cs.drop c1).take c2 := by
    have := split2 h
    simpa using this
theorem split4 {cs : List Value} {c0 c1 c2 c3 : Nat} (h : cs.length = c0 + c1 + c2 + c3) : cs = (cs.drop 0).take c0 ++ ((cs.drop c0).take c1 ++ ((cs.drop (c0 + c1)).take c2 ++ (cs.drop (c0 + c1 + c2)).take c3)) := by
  have h3 := split3 (cs := cs.drop c0) (c0 := c1) (c1 := c2) (c2 := c3) (by simp; omega)
  simp only [List.drop_drop, List.drop_zero] at h3 ⊢
  rw [← Nat.add_assoc, Nat.add_zero] at h3
  rw [← h3, List.take_append_drop]
theorem opens_struct2 {α β δ : Type} {P : Program} {t : TypeId} {f0 f1 : Field} {e0 : α → D} {e1 : β → D} {s0 : α → Nat} {s1 : β → Nat} {k0 l0 : α → Prop} {k1 l1 : β → Prop} {N c0 c1 : Nat} (mk : α → β → δ) {e : δ → D} {sz : δ → Nat} {ok lim : δ → Prop}
    (ht : P.underlying t = some (.struct #[f0, f1])) (ho : f0.offset = 0 ∧ f1.offset = c0 ∧ P.cellsOf f0.type = c0 ∧ P.cellsOf f1.type = c1 ∧ P.cellsOf t = c0 + c1)
    (h0 : OpensF P f0.type e0 s0 k0 l0 N) (h1 : OpensF P f1.type e1 s1 k1 l1 N)
    (he : ∀ a b, e (mk a b) = .agg [e0 a, e1 b]) (hs : ∀ a b, sz (mk a b) ≤ s0 a + s1 b + 1) (hk : ∀ a b, k0 a → k1 b → ok (mk a b)) (hl : ∀ a b, l0 a → l1 b → lim (mk a b)) : OpensF P t e sz ok lim (N + 1) := by
  intro H enc w n cs x hn h
  obtain ⟨xs, n', hf, rfl, hcl, hlen, hfs⟩ := DataW.trod_struct ht h
  obtain ⟨o0, o1, p0, p1, p2⟩ := ho
  match xs, hlen with
  | [y0, y1], _ =>
    have g0 : DataW.trod enc P w 0 (fun _ => true) true n' f0.type ((cs.drop f0.offset).take (P.cellsOf f0.type)) = some y0 := by simpa using hfs 0 f0 rfl
    have g1 : DataW.trod enc P w 0 (fun _ => true) true n' f1.type ((cs.drop f1.offset).take (P.cellsOf f1.type)) = some y1 := by simpa using hfs 1 f1 rfl
    obtain ⟨a, r1, r2, r3, r4⟩ := h0 H enc w n' _ _ (by omega) g0
    obtain ⟨b, q1, q2, q3, q4⟩ := h1 H enc w n' _ _ (by omega) g1
    rw [o0, p0] at r1
    rw [o1, p1] at q1
    refine ⟨mk a b, ?_, ?_, hk a b r3 q3, fun hw => ?_⟩
    · rw [he, split2 (hcl.trans p2)]
      exact ⟨_, _, rfl, r1, RdAll.one q1⟩
    · have := hs a b
      simp [Rows.uptoBulk, Rows.uptoBulkAll]; omega
    · simp [DataW.weights, ht, DataW.weightsEach] at hw
      exact hl a b (r4 fun y hy => hw y (by simp [hy])) (q4 fun y hy => hw y (by simp [hy]))
theorem opens_struct4 {α β γ ε δ : Type} {P : Program} {t : TypeId} {f0 f1 f2 f3 : Field} {e0 : α → D} {e1 : β → D} {e2 : γ → D} {e3 : ε → D} {s0 : α → Nat} {s1 : β → Nat} {s2 : γ → Nat} {s3 : ε → Nat} {k0 l0 : α → Prop} {k1 l1 : β → Prop} {k2 l2 : γ → Prop} {k3 l3 : ε → Prop} {N c0 c1 c2 c3 : Nat} (mk : α → β → γ → ε → δ) {e : δ → D} {sz : δ → Nat} {ok lim : δ → Prop}
    (ht : P.underlying t = some (.struct #[f0, f1, f2, f3])) (ho : f0.offset = 0 ∧ f1.offset = c0 ∧ f2.offset = c0 + c1 ∧ f3.offset = c0 + c1 + c2 ∧ P.cellsOf f0.type = c0 ∧ P.cellsOf f1.type = c1 ∧ P.cellsOf f2.type = c2 ∧ P.cellsOf f3.type = c3 ∧ P.cellsOf t = c0 + c1 + c2 + c3)
    (h0 : OpensF P f0.type e0 s0 k0 l0 N) (h1 : OpensF P f1.type e1 s1 k1 l1 N) (h2 : OpensF P f2.type e2 s2 k2 l2 N) (h3 : OpensF P f3.type e3 s3 k3 l3 N)
    (he : ∀ a b c d, e (mk a b c d) = .agg [e0 a, e1 b, e2 c, e3 d]) (hs : ∀ a b c d, sz (mk a b c d) ≤ s0 a + s1 b + s2 c + s3 d + 1) (hk : ∀ a b c d, k0 a → k1 b → k2 c → k3 d → ok (mk a b c d)) (hl : ∀ a b c d, l0 a → l1 b → l2 c → l3 d → lim (mk a b c d)) : OpensF P t e sz ok lim (N + 1) := by
  intro H enc w n cs x hn h
  obtain ⟨xs, n', hf, rfl, hcl, hlen, hfs⟩ := DataW.trod_struct ht h
  obtain ⟨o0, o1, o2, o3, p0, p1, p2, p3, p4⟩ := ho
  match xs, hlen with
  | [y0, y1, y2, y3], _ =>
    have g0 : DataW.trod enc P w 0 (fun _ => true) true n' f0.type ((cs.drop f0.offset).take (P.cellsOf f0.type)) = some y0 := by simpa using hfs 0 f0 rfl
    have g1 : DataW.trod enc P w 0 (fun _ => true) true n' f1.type ((cs.drop f1.offset).take (P.cellsOf f1.type)) = some y1 := by simpa using hfs 1 f1 rfl
    have g2 : DataW.trod enc P w 0 (fun _ => true) true n' f2.type ((cs.drop f2.offset).take (P.cellsOf f2.type)) = some y2 := by simpa using hfs 2 f2 rfl
    have g3 : DataW.trod enc P w 0 (fun _ => true) true n' f3.type ((cs.drop f3.offset).take (P.cellsOf f3.type)) = some y3 := by simpa using hfs 3 f3 rfl
    obtain ⟨a, r1, r2, r3, r4⟩ := h0 H enc w n' _ _ (by omega) g0
    obtain ⟨b, q1, q2, q3, q4⟩ := h1 H enc w n' _ _ (by omega) g1
    obtain ⟨c, u1, u2, u3, u4⟩ := h2 H enc w n' _ _ (by omega) g2
    obtain ⟨d, v1, v2, v3, v4⟩ := h3 H enc w n' _ _ (by omega) g3
    rw [o0, p0] at r1
    rw [o1, p1] at q1
    rw [o2, p2] at u1
    rw [o3, p3] at v1
    refine ⟨mk a b c d, ?_, ?_, hk a b c d r3 q3 u3 v3, fun hw => ?_⟩
    · rw [he, split4 (hcl.trans p4)]
      exact ⟨_, _, rfl, r1, _, _, rfl, q1, _, _, rfl, u1, RdAll.one v1⟩
    · have := hs a b c d
      simp [Rows.uptoBulk, Rows.uptoBulkAll]; omega
    · simp [DataW.weights, ht, DataW.weightsEach] at hw
      exact hl a b c d (r4 fun y hy => hw y (by simp [hy])) (q4 fun y hy => hw y (by simp [hy])) (u4 fun y hy => hw y (by simp [hy])) (v4 fun y hy => hw y (by simp [hy]))
theorem open_arg {α : Type} {P : Program} {t : TypeId} {e : α → D} {sz : α → Nat} {ok lim : α → Prop} (ho : Opens P t e sz ok lim) {H : Type} {enc : TypeId × Value → H} {W : World} {v : Value} {d : DataW H} {p : List MemPlace} (h : DataW.Trod enc P W 0 (fun _ => true) true t v d p) :
    ∃ a : α, Rd AnyB W (e a) v.cells.toList ∧ sz a ≤ Rows.uptoBulk d ∧ ok a ∧ ((∀ y ∈ DataW.weights P t d, y ≤ reachBytes) → lim a) := by
  obtain ⟨n, hn⟩ := h
  exact ho n H enc W n _ _ (Nat.le_refl _) hn
end Go.Proofs.Ytjpmebppdcclbaa
