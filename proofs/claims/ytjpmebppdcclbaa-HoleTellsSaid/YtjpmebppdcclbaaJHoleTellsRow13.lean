/- useful.words. -/
import Derived.Test.YtjpmebppdcclbaaJHoleTellsRow11
import Derived.Test.YtjpmebppdcclbaaJHoleTellsRow6
import Derived.Test.YtjpmebppdcclbaaJHoleTellsRow12
import Derived.Deep.CutBlock
import Derived.Deep.CutRange
namespace Go.Proofs.Ytjpmebppdcclbaa
open Go.RowKit
namespace Hl
open Rp Al
structure WT (W : World) (G0 : Array Value) (N po pk : Nat) (P : Nat → Prop) (Tw : Nat → Option (List Int)) (wr : World) : Prop where
  bel : Below W.heap.size W wr
  gbox : wr.heap[W.heap.size]? = some (.cells G0 24 (0, 0))
  kn : Vrow 4 pk N (fun A => .bool (Tw A).isSome) wr
  out : ∃ u : Nat → Value, Vrow 25 po N u wr ∧ ∀ A, A < N → Rd P wr (D.ints ((Tw A).getD [])) [u A]
  wpo : W.heap.size < po
  wne : po < pk
section
variable {W : World} {G0 : Array Value} {N po pk : Nat} {P P' : Nat → Prop} {Tw : Nat → Option (List Int)} {wr w' : World}
theorem WT.keep (h : WT W G0 N po pk P Tw wr) (hb : Below wr.heap.size wr w') : WT W G0 N po pk P Tw w' := by
  obtain ⟨u, h1, h2⟩ := h.out
  exact ⟨h.bel.trans (hb.mono h.bel.size), bx_keep h.gbox hb, h.kn.keep hb, ⟨u, h1.keep hb, fun A hA => (h2 A hA).below hb⟩, h.wpo, h.wne⟩
theorem WT.mono (h : WT W G0 N po pk P Tw wr) (hp : ∀ k, P k → k < wr.heap.size → P' k) : WT W G0 N po pk P' Tw wr := by
  obtain ⟨u, h1, h2⟩ := h.out
  exact ⟨h.bel, h.gbox, h.kn, ⟨u, h1, fun A hA => (h2 A hA).mono hp⟩, h.wpo, h.wne⟩
theorem WT.grown (h : WT W G0 N po pk P Tw wr) {row : Option Nat} (hg : wr.grownBy w' row) (hr : ∀ k, row = some k → pk < k ∧ ¬ P k) : WT W G0 N po pk P Tw w' := by
  obtain ⟨u, h1, h2⟩ := h.out
  have hp := h.wpo
  have hn := h.wne
  refine ⟨h.bel.grown hg h.bel.size (fun k e => by have := (hr k e).1; omega), (hg.block _ (Array.getElem?_eq_some_iff.1 h.gbox).1 (fun e => by have := (hr _ e.symm).1; omega)).trans h.gbox, h.kn.grown hg (fun e => by have := (hr _ e).1; omega), ⟨u, h1.grown hg (fun e => by have := (hr _ e).1; omega), fun A hA => rd_grown (h2 A hA) hg (fun k e => (hr k e).2)⟩, hp, hn⟩
theorem WT.set (h : WT W G0 N po pk P Tw wr) {A : Nat} (hA : A < N) {w : List Int} {v : Value} (hv : Rd P wr (D.ints w) [v]) (hP1 : ¬ P po) (hP2 : ¬ P pk) : WT W G0 N po pk P (updW Tw A w) ((wr.setCell ⟨po, A, none⟩ v).setCell ⟨pk, A, none⟩ (.bool true)) := by
  obtain ⟨u, h1, h2⟩ := h.out
  have hp := h.wpo
  have hn := h.wne
  have hg1 := grown_cell wr ⟨po, A, none⟩ v
  have hg2 := grown_cell (wr.setCell ⟨po, A, none⟩ v) ⟨pk, A, none⟩ (.bool true)
  have hs1 := hg1.size
  have keepR : ∀ {d : D} {x : Value}, Rd P wr d [x] → Rd P ((wr.setCell ⟨po, A, none⟩ v).setCell ⟨pk, A, none⟩ (.bool true)) d [x] := fun {d x} hr => rd_grown (rd_grown hr hg1 (fun k e h => by cases e; exact hP1 h)) hg2 (fun k e h => by cases e; exact hP2 h)
  have hbel : Below W.heap.size W (wr.setCell ⟨po, A, none⟩ v) := h.bel.setCell (p := ⟨po, A, none⟩) (by show W.heap.size ≤ po; omega) _
  refine ⟨hbel.setCell (p := ⟨pk, A, none⟩) (by show W.heap.size ≤ pk; omega) _, ?_, ?_, ⟨fun B => if B = A then v else u B, ?_, fun B hB => ?_⟩, hp, hn⟩
  · have e1 := (hg1.block _ (Array.getElem?_eq_some_iff.1 h.gbox).1 (by simp; omega)).trans h.gbox
    exact (hg2.block _ (Array.getElem?_eq_some_iff.1 e1).1 (by simp; omega)).trans e1
  · refine (h.kn.other (by omega) _ _).set hA (fun k hk => ?_)
    unfold updW
    by_cases e : k = A
    · rw [if_pos e, if_pos e]; rfl
    · rw [if_neg e, if_neg e]
  · exact (h1.set hA (fun k hk => rfl)).other (by omega) _ _
  · unfold updW
    by_cases e : B = A
    · simp only [e, if_true]
      exact keepR hv
    · simp only [e, if_false]
      exact keepR (h2 B hB)
theorem WT.word (h : WT W G0 N po pk P Tw wr) {A : Nat} (hA : A < N) : ∃ a k, wr.cell? ⟨po, A, none⟩ = some (.slice a ((Tw A).getD []).length k) ∧ Rd P wr (D.ints ((Tw A).getD [])) [.slice a ((Tw A).getD []).length k] := by
  obtain ⟨u, h1, h2⟩ := h.out
  have h3 := h2 A hA
  obtain ⟨a, k, e⟩ := (sl_rd h3).form
  have hc := h1.cell hA
  rw [ints_len] at e
  rw [e] at hc h3
  exact ⟨a, k, hc, h3⟩
end
theorem or_less3 {w u : List Int} (hw : w.length ≤ 2000) (hu : u.length ≤ 2000) : decide (orL [cmp3 (w.length : Int) (u.length : Int), cmpL w u] < 0) = lessB (some (tv w)) (some (tv u)) :=
  or_less2 (a := tv w) (b := tv u) rfl (wf_tv hw) (wf_tv hu)
theorem fold_stop {Tw : Nat → Option (List Int)} {lim : Nat} {l : List Sym} {o : Option (List Int)} {p q : Nat} (hpq : p ≤ q) (h : foldW Tw lim (l.take p) o = none) : foldW Tw lim (l.take q) o = none := by
  obtain ⟨d, rfl⟩ : ∃ d, q = p + d := ⟨q - p, by omega⟩
  rw [List.take_add]
  unfold foldW at h ⊢
  rw [List.foldl_append, h]
  exact foldW_none Tw lim _
theorem fold_len {Tw : Nat → Option (List Int)} {lim : Nat} : ∀ (l : List Sym) (w0 w : List Int), w0.length ≤ lim → foldW Tw lim l (some w0) = some w → w.length ≤ lim
  | [], w0, w, h0, e => by cases e; exact h0
  | s :: l, w0, w, h0, e => by
    have e' : foldW Tw lim l (stepW Tw lim (some w0) s) = some w := e
    unfold stepW at e'
    cases ex : symW Tw s with
    | none => rw [ex] at e'; simp only at e'; rw [foldW_none] at e'; cases e'
    | some x =>
      rw [ex] at e'
      simp only at e'
      by_cases hl : (w0 ++ x).length ≤ lim
      · rw [if_pos hl] at e'; exact fold_len l _ w hl e'
      · rw [if_neg hl, foldW_none] at e'; cases e'
def WdPost (K : List Rule) (N tm : Nat) (X : Nat → Int) (W : World) (e : Ending) (w' : World) : Prop :=
  ∃ po pk Tw, e = .returned (.slice (some ⟨po, 0, none⟩) N N) ∧ WInv K N tm X Tw ∧ ClosedW K X Tw ∧ ∃ G0, WT W G0 N po pk (fun k => pk < k) Tw w'
def DoneW (K : List Rule) (X : Nat → Int) (a : Nat) (Tw : Nat → Option (List Int)) : Prop := ∀ r ∈ K.take a, betW X Tw r = false
set_option maxHeartbeats 16000000 in
set_option maxRecDepth 100000 in
theorem wordsE (g : Gram) (N : Nat) (hN : g.nons = (N : Int)) (hN0 : 0 < N) (hN1 : N ≤ 10) (tm : Nat) (X : Nat → Int) (hK : KG N g.rules (okS N tm)) (hr4 : ∀ r ∈ g.rules, r.right.length ≤ 4) (hL : LeastX g.rules N X) (px : Nat) (ra : Option Addr) (rcap : Nat) (W : World)
    (hr : Rd AnyB W (.sl (g.rules.map Rule.d)) [.slice ra g.rules.length rcap]) (hx : Vrow 3 px N (fun A => .int .i64 (X A)) W) :
    Calls Try.prog 107 #[.agg #[.int .i64 g.terms, .int .i64 g.nons, .int .i64 g.start, .slice ra g.rules.length rcap], .slice (some ⟨px, 0, none⟩) N N] W (WdPost g.rules N tm X W) := by
  have hmkO : ∀ W : World, (Instr.makeSlice 159 (.int .i64 (N : Int)) (.int .i64 (N : Int))).run Try.prog W = .ok (.slice (some ⟨W.heap.size, 0, none⟩) N N) (W.alloc (.cells (madeCells #[.slice none 0 0] N) 25)) := fun W => by
    have := run_make_row' (P := Try.prog) 159 25 (.slice none 0 0) 24 Try.underlying159 (by kernel_rfl) rfl .i64 .i64 N (by omega) (by omega) W
    simpa using this
  have hmkK : ∀ W : World, (Instr.makeSlice 54 (.int .i64 (N : Int)) (.int .i64 (N : Int))).run Try.prog W = .ok (.slice (some ⟨W.heap.size, 0, none⟩) N N) (W.alloc (.cells (madeCells #[.bool false] N) 4)) := fun W => by
    have := run_make_row' (P := Try.prog) 54 4 (.bool false) 1 Try.underlying54 (by kernel_rfl) rfl .i64 .i64 N (by omega) (by omega) W
    simpa using this
  obtain ⟨w0, HW0⟩ := nameIt (((W.alloc (.cells #[.int .i64 g.terms, .int .i64 g.nons, .int .i64 g.start, .slice ra g.rules.length rcap] 24)).alloc (.cells (madeCells #[.slice none 0 0] N) 25)).alloc (.cells (madeCells #[.bool false] N) 4))
  have al : ∀ (w : World) (o : Obj), Below w.heap.size w (w.alloc o) := fun w o => (Below.refl _ _).alloc (Nat.le_refl _) _
  have hw0 : Below W.heap.size W w0 := by
    rw [← HW0.out]
    exact (((Below.refl _ _).alloc (Nat.le_refl _) _).alloc (by simp) _).alloc (by simp; omega) _
  have HWT0 : Hid (WT W #[.int .i64 g.terms, .int .i64 g.nons, .int .i64 g.start, .slice ra g.rules.length rcap] N (W.heap.size + 1) (W.heap.size + 1 + 1) (fun k => W.heap.size + 1 + 1 < k) (fun _ => none) w0) := by
    rw [← HW0.out]
    refine ⟨by rw [HW0.out]; exact hw0, bx_keep (bx_keep (bx_new _ _ _ rfl) (al _ _)) (al _ _), vrow_new _ _ _ _ (by simp), ⟨fun _ => .slice none 0 0, (vrow_new _ _ _ _ (by simp)).keep (al _ _), fun A hA => rd_nil _ _⟩, by omega, by omega⟩
  have HGR := Lib.hid (hr.mono (S' := fun k => k < W.heap.size) (fun k _ hl => hl))
  have HX := Lib.hid hx
  have hpx : px < W.heap.size := hx.lt
  obtain ⟨PST, HP⟩ := nameIt (WdPost g.rules N tm X W)
  have HFIN : Hid (∀ po pk Tw w' G0, WInv g.rules N tm X Tw → ClosedW g.rules X Tw → WT W G0 N po pk (fun k => pk < k) Tw w' → PST (.returned (.slice (some ⟨po, 0, none⟩) N N)) w') := by
    intro po pk Tw w' G0 h1 h2 h3
    rw [← HP.out]
    exact ⟨po, pk, Tw, rfl, h1, h2, G0, h3⟩
  rw [HP.out, hN]
  rw [hN] at HW0 HWT0
  obtain ⟨gt, HGT⟩ := nameIt g.terms
  obtain ⟨gs, HGS⟩ := nameIt g.start
  obtain ⟨rl, HRL⟩ := nameIt g.rules.length
  have hbs := hr.bounds.2
  unfold maxLen at hbs
  obtain ⟨hcv1, hcv2⟩ := hbs
  rw [HGT.out, HGS.out, HRL.out] at HW0 HWT0
  rw [HRL.out] at HGR hcv1
  rw [HGT.out, HGS.out, HRL.out]
  have HKK := Lib.hid hK
  have H4 := Lib.hid hr4
  have HLL := Lib.hid hL
  have HX1 : Hid (∀ A, A < N → -1 ≤ X A) := hL.ge
  have hmo := hmkO (W.alloc (.cells #[.int .i64 gt, .int .i64 (N : Int), .int .i64 gs, .slice ra rl rcap] 24))
  have hmk := hmkK ((W.alloc (.cells #[.int .i64 gt, .int .i64 (N : Int), .int .i64 gs, .slice ra rl rcap] 24)).alloc (.cells (madeCells #[.slice none 0 0] N) 25))
  obtain ⟨po, HPO⟩ := nameIt (W.heap.size + 1)
  obtain ⟨pk, HPK⟩ := nameIt (W.heap.size + 1 + 1)
  rw [HPO.out] at HWT0
  have hpk1 : po + 1 = pk := by have := HPO.out; have := HPK.out; omega
  rw [hpk1] at HWT0
  have HPOW : Hid (W.heap.size < po ∧ po < pk) := ⟨HWT0.out.wpo, HWT0.out.wne⟩
  clear hr hx hK hr4 hL hw0 al hmkO hmkK HP
  go_enter Try.func107, Try.ntmps107
  go_upto_region 3 with fail
  rw [HW0.out, HPK.out, HPO.out]
  clear HW0 hmo hmk
  obtain ⟨fuel, HFU⟩ := nameIt (muW tm N (fun _ => none))
  go_wp2_with fail
  go_loopg [7, 9, 10, 11, 13] (fuel + 1) (fun gg v7 v9 v10 v11 v13 wr => ∃ (b : Bool) (Tw : Nat → Option (List Int)), v7 = .bool b ∧ Hid (WT W #[.int .i64 gt, .int .i64 (N : Int), .int .i64 gs, .slice ra rl rcap] N po pk (fun k => pk < k) Tw wr) ∧ Hid (WInv g.rules N tm X Tw) ∧ Hid (b = true → muW tm N Tw + 1 ≤ gg) ∧ Hid (b = false → ClosedW g.rules X Tw))
  case atStart => exact ⟨true, _, rfl, HWT0, w_none, fun _ => by rw [HFU.out]; exact Nat.le_refl _, fun e => by cases e⟩
  case round =>
    clear HWT0 HFU fuel
    obtain ⟨b, Tw, rfl, HWT, HWI, HLE, HCL⟩ := hrel
    obtain ⟨wo, rfl⟩ : ∃ wo : World, wo = wr := ⟨_, rfl⟩
    cases b with
    | false =>
      have HFI := Lib.hid (HFIN.out po pk Tw wo _ HWI.out (HCL.out rfl) HWT.out)
      go_wp2_with fail
      exact HFI.out
    | true =>
      obtain ⟨m0, HM0⟩ := nameIt (muW tm N Tw)
      have hgg : m0 + 1 ≤ gk := by have := HLE.out rfl; rw [HM0.out] at this; exact this
      obtain ⟨g0, g1, g2, g3⟩ := bx_cells4 HWT.out.gbox
      have HD0 : Hid (DoneW g.rules X 0 Tw) := fun r hr => by simp at hr
      have HML : Hid (muW tm N Tw ≤ m0) := by show _ ≤ _; rw [HM0.out]; exact Nat.le_refl _
      clear HLE HCL HM0
      go_wp2_with fail
      clear g0 g1 g2 g3
      go_loopg [7, 9, 10, 11, 13, 24] rl (fun gg v7 v9 v10 v11 v13 v24 wr => ∃ (a : Nat) (b : Bool) (Tw : Nat → Option (List Int)), a ≤ rl ∧ rl - a ≤ gg ∧ v7 = .bool b ∧ v24 = .int .i64 (a : Nat) ∧ Hid (WT W #[.int .i64 gt, .int .i64 (N : Int), .int .i64 gs, .slice ra rl rcap] N po pk (fun k => pk < k) Tw wr) ∧ Hid (WInv g.rules N tm X Tw) ∧ Hid (muW tm N Tw ≤ m0) ∧ Hid (b = true → muW tm N Tw < m0) ∧ Hid (b = false → DoneW g.rules X a Tw))
      case atStart => exact ⟨0, false, Tw, by omega, by omega, rfl, rfl, HWT, HWI, HML, (fun e => by cases e), fun _ => HD0.out⟩
      case round =>
        clear HWT HWI HML HD0 wo Tw
        obtain ⟨a, b, Tw, ha, hgg2, rfl, rfl, HWT, HWI, HML, HLT, HDN⟩ := hrel
        obtain ⟨w1, rfl⟩ : ∃ wo : World, wo = wr := ⟨_, rfl⟩
        by_cases hlt : a < rl
        · have hlt' : (a : Int) < (rl : Int) := by omega
          have haK : a < g.rules.length := by rw [HRL.out]; exact hlt
          obtain ⟨r, HR⟩ := nameIt (g.rules[a]'haK)
          have hrm : r ∈ g.rules := by rw [← HR.out]; exact List.getElem_mem haK
          obtain ⟨gb0, go0, rsv, hga, -, -, e0, e1, hrr⟩ := (HGR.out.below HWT.out.bel).rule_at haK
          rw [HR.out] at e0 hrr
          obtain ⟨rsa, rsk, hrf, hrc1, hrc2⟩ := hrr.form
          rw [List.length_map] at hrf hrc1
          subst hrf
          have hr4 := H4.out r hrm
          obtain ⟨rn, HRN⟩ := nameIt r.right.length
          rw [HRN.out] at hrr hrc1 e1 hr4
          unfold maxLen at hrc2
          obtain ⟨q1, q2, q3⟩ := HKK.out r hrm
          obtain ⟨la, hla⟩ : ∃ la : Nat, r.left = (la : Int) := ⟨r.left.toNat, by omega⟩
          have hlaN : la < N := by omega
          have HLA : Hid (r.left.toNat = la) := by show _ = _; rw [hla]; simp
          have HQ3 := Lib.hid q3
          rw [hla] at e0
          have HDNX : Hid (betW X Tw r = false → DoneW g.rules X a Tw → DoneW g.rules X (a + 1) Tw) := by
            intro h1 h2 r' hr'
            rw [List.take_succ_eq_append_getElem haK, List.mem_append] at hr'
            rcases hr' with hr' | hr'
            · exact h2 r' hr'
            · simp at hr'; rw [hr', HR.out]; exact h1
          obtain ⟨w2, HW2⟩ := nameIt (w1.alloc (.cells #[.int .i64 (la : Int), .slice rsa rn rsk] 69))
          have hw2 : Below w1.heap.size w1 w2 := by rw [← HW2.out]; exact (Below.refl _ _).alloc (Nat.le_refl _) _
          have HRB2 : Hid (w2.heap[w1.heap.size]? = some (.cells #[.int .i64 (la : Int), .slice rsa rn rsk] 69 (0, 0))) := by rw [← HW2.out]; exact bx_new _ _ _ rfl
          have HSZ2 : Hid (w2.heap.size = w1.heap.size + 1) := by show _ = _; rw [← HW2.out]; simp
          have HRR2 := Lib.hid (hrr.below hw2)
          obtain ⟨B0, HB0N⟩ := nameIt w2.heap.size
          have HPKL : Hid (pk < w1.heap.size) := HWT.out.kn.lt
          have HWT2 : Hid (WT W #[.int .i64 gt, .int .i64 (N : Int), .int .i64 gs, .slice ra rl rcap] N po pk (fun k => pk < k ∧ k < B0) Tw w2) := (HWT.out.keep hw2).mono (fun k hk hl => ⟨hk, by rw [← HB0N.out]; exact hl⟩)
          have hxx := (HX.out.keep HWT.out.bel).keep hw2
          have HXR := Lib.hid hxx
          obtain ⟨b9, HB9⟩ := nameIt w1.heap.size
          rw [HB9.out] at HRB2 HSZ2 HPKL
          have HB9W : Hid (W.heap.size < b9) := by have := HPOW.out; have := HPKL.out; show _ < _; omega
          obtain ⟨x, HXV⟩ := nameIt (X la)
          have hx1 : -1 ≤ x := by rw [← HXV.out]; exact HX1.out la hlaN
          obtain ⟨k0, HK0⟩ : ∃ k0 : Bool, Hid (k0 = (decide (0 ≤ x) && decide (x ≤ 2000))) := ⟨_, rfl⟩
          have HRW0 : Hid (k0 = false → rwW X Tw r = none) := by
            intro e
            unfold rwW
            rw [HLA.out, HXV.out, if_neg (fun h => by rw [HK0.out] at e; simp at e; omega)]
          have HRW1 : Hid (k0 = true → rwW X Tw r = foldW Tw x.toNat (r.right.take rn) (some []) ∧ 0 ≤ x ∧ x ≤ 2000) := by
            intro e
            have h : 0 ≤ x ∧ x ≤ 2000 := by rw [HK0.out] at e; simpa using e
            unfold rwW
            rw [HLA.out, HXV.out, if_pos h, List.take_of_length_le (by rw [HRN.out]; exact Nat.le_refl _)]
            exact ⟨rfl, h⟩
          have hlaN' : (la : Int) < (N : Int) := by omega
          have HCS9 : Hid (∀ w', Below w2.heap.size w2 w' → w'.cell? ⟨b9, 0, none⟩ = some (.int .i64 (la : Int)) ∧ w'.cell? ⟨px, la, none⟩ = some (.int .i64 x)) := by
            intro w' hb'
            have h2 := (HXR.out.keep hb').cell hlaN
            rw [HXV.out] at h2
            exact ⟨(bx_cells2 (bx_keep HRB2.out hb')).1, h2⟩
          subst hga
          clear hw2 hrr hxx q1 q2 q3 hla
          go_upto_region 9 with fail
          rw [HW2.out, HB9.out]
          clear HW2 HB9 e0 e1
          go_cut [10, 11] from 28 to 42 (fun t10 t11 wx => t10 = .slice (some ⟨B0, 0, none⟩) 0 0 ∧ t11 = .bool k0 ∧ Hid (Below w2.heap.size w2 wx) ∧ Hid (wx.ownsRow B0 3 1 (.slice (some ⟨B0, 0, none⟩) 0 0) 0 (ints [])))
          case first =>
            have HBA : Hid (Below w2.heap.size w2 (w2.drew.alloc (.cells #[] 3))) := (Below.refl w2.heap.size w2).drew.alloc (Nat.le_refl _) _
            have HOA : Hid ((w2.drew.alloc (.cells #[] 3)).ownsRow B0 3 1 (.slice (some ⟨B0, 0, none⟩) 0 0) 0 (ints [])) := by
              have := World.ownsRow_lit (base := B0) (e := 3) (size := 1) w2.drew #[] 0 (by rw [← HB0N.out]; exact Nat.le_refl _) (by decide) (by rfl)
              have e : w2.drew.heap.size = B0 := HB0N.out
              rw [e] at this
              exact this
            by_cases h0 : 0 ≤ x
            · have hge : decide ((0 : Int) ≤ x) = true := by simpa using h0
              have hk0 : k0 = decide (x ≤ 2000) := by rw [HK0.out, hge]; simp
              have hle : decide (x ≤ (2000 : Int)) = k0 := hk0.symm
              clear hk0
              refine wp_region_U (S := (fun w' => w'.cell? ⟨b9, 0, none⟩ = some (.int .i64 (la : Int)) ∧ w'.cell? ⟨px, la, none⟩ = some (.int .i64 x))) 16 (by kernel_rfl) (fun inv => ?_)
              refine wpU_take (i := 1) (v := .slice (some ⟨px, 0, none⟩) N N) rfl inv (by kernel_rfl) (by kernel_rfl) (by decide) (by decide) (by kernel_rfl) (by kernel_rfl) (by kernel_rfl) (fun _ _ _ h => h) (Or.inl ⟨by kernel_rfl, fun w' hw' => ?_⟩) (HCS9.out _ (Below.refl _ _).drew) (fun inv => ?_)
              · obtain ⟨h0, h1⟩ := hw'
                go_simp
              try simp only [Act.put, List.setIfInBounds_toArray, List.set_cons_zero, List.set_cons_succ]
              refine wpU_take (i := 2) (v := .pointer (some ⟨b9, 0, none⟩)) rfl inv (by kernel_rfl) (by kernel_rfl) (by decide) (by decide) (by kernel_rfl) (by kernel_rfl) (by kernel_rfl) (fun _ _ _ h => h) (Or.inl ⟨by kernel_rfl, fun w' hw' => ?_⟩) (HCS9.out _ (Below.refl _ _).drew) (fun inv => ?_)
              · obtain ⟨h0, h1⟩ := hw'
                go_simp
              try simp only [Act.put, List.setIfInBounds_toArray, List.set_cons_zero, List.set_cons_succ]
              refine wpU_take (i := 3) (v := .int .i64 (la : Int)) rfl inv (by kernel_rfl) (by kernel_rfl) (by decide) (by decide) (by kernel_rfl) (by kernel_rfl) (by kernel_rfl) (fun _ _ _ h => h) (Or.inl ⟨by kernel_rfl, fun w' hw' => ?_⟩) (HCS9.out _ (Below.refl _ _).drew) (fun inv => ?_)
              · obtain ⟨h0, h1⟩ := hw'
                go_simp
              try simp only [Act.put, List.setIfInBounds_toArray, List.set_cons_zero, List.set_cons_succ]
              refine wpU_take (i := 4) (v := .pointer (some ⟨px, la, none⟩)) rfl inv (by kernel_rfl) (by kernel_rfl) (by decide) (by decide) (by kernel_rfl) (by kernel_rfl) (by kernel_rfl) (fun _ _ _ h => h) (Or.inl ⟨by kernel_rfl, fun w' hw' => ?_⟩) (HCS9.out _ (Below.refl _ _).drew) (fun inv => ?_)
              · obtain ⟨h0, h1⟩ := hw'
                go_simp
              try simp only [Act.put, List.setIfInBounds_toArray, List.set_cons_zero, List.set_cons_succ]
              refine wpU_take (i := 5) (v := .int .i64 x) rfl inv (by kernel_rfl) (by kernel_rfl) (by decide) (by decide) (by kernel_rfl) (by kernel_rfl) (by kernel_rfl) (fun _ _ _ h => h) (Or.inl ⟨by kernel_rfl, fun w' hw' => ?_⟩) (HCS9.out _ (Below.refl _ _).drew) (fun inv => ?_)
              · obtain ⟨h0, h1⟩ := hw'
                go_simp
              try simp only [Act.put, List.setIfInBounds_toArray, List.set_cons_zero, List.set_cons_succ]
              refine wpU_take (i := 6) (v := .bool true) rfl inv (by kernel_rfl) (by kernel_rfl) (by decide) (by decide) (by kernel_rfl) (by kernel_rfl) (by kernel_rfl) (fun _ _ _ h => h) (Or.inl ⟨by kernel_rfl, fun w' hw' => ?_⟩) (HCS9.out _ (Below.refl _ _).drew) (fun inv => ?_)
              · obtain ⟨h0, h1⟩ := hw'
                go_simp
              try simp only [Act.put, List.setIfInBounds_toArray, List.set_cons_zero, List.set_cons_succ]
              refine wpU_take (i := 7) (v := .bool true) rfl inv (by kernel_rfl) (by kernel_rfl) (by decide) (by decide) (by kernel_rfl) (by kernel_rfl) (by kernel_rfl) (fun _ _ _ h => h) (Or.inl ⟨by kernel_rfl, fun w' hw' => ?_⟩) (HCS9.out _ (Below.refl _ _).drew) (fun inv => ?_)
              · obtain ⟨h0, h1⟩ := hw'
                go_simp
              try simp only [Act.put, List.setIfInBounds_toArray, List.set_cons_zero, List.set_cons_succ]
              refine wpU_take (i := 8) (v := .slice (some ⟨px, 0, none⟩) N N) rfl inv (by kernel_rfl) (by kernel_rfl) (by decide) (by decide) (by kernel_rfl) (by kernel_rfl) (by kernel_rfl) (fun _ _ _ h => h) (Or.inl ⟨by kernel_rfl, fun w' hw' => ?_⟩) (HCS9.out _ (Below.refl _ _).drew) (fun inv => ?_)
              · obtain ⟨h0, h1⟩ := hw'
                go_simp
              try simp only [Act.put, List.setIfInBounds_toArray, List.set_cons_zero, List.set_cons_succ]
              refine wpU_take (i := 9) (v := .pointer (some ⟨b9, 0, none⟩)) rfl inv (by kernel_rfl) (by kernel_rfl) (by decide) (by decide) (by kernel_rfl) (by kernel_rfl) (by kernel_rfl) (fun _ _ _ h => h) (Or.inl ⟨by kernel_rfl, fun w' hw' => ?_⟩) (HCS9.out _ (Below.refl _ _).drew) (fun inv => ?_)
              · obtain ⟨h0, h1⟩ := hw'
                go_simp
              try simp only [Act.put, List.setIfInBounds_toArray, List.set_cons_zero, List.set_cons_succ]
              refine wpU_take (i := 10) (v := .int .i64 (la : Int)) rfl inv (by kernel_rfl) (by kernel_rfl) (by decide) (by decide) (by kernel_rfl) (by kernel_rfl) (by kernel_rfl) (fun _ _ _ h => h) (Or.inl ⟨by kernel_rfl, fun w' hw' => ?_⟩) (HCS9.out _ (Below.refl _ _).drew) (fun inv => ?_)
              · obtain ⟨h0, h1⟩ := hw'
                go_simp
              try simp only [Act.put, List.setIfInBounds_toArray, List.set_cons_zero, List.set_cons_succ]
              refine wpU_take (i := 11) (v := .pointer (some ⟨px, la, none⟩)) rfl inv (by kernel_rfl) (by kernel_rfl) (by decide) (by decide) (by kernel_rfl) (by kernel_rfl) (by kernel_rfl) (fun _ _ _ h => h) (Or.inl ⟨by kernel_rfl, fun w' hw' => ?_⟩) (HCS9.out _ (Below.refl _ _).drew) (fun inv => ?_)
              · obtain ⟨h0, h1⟩ := hw'
                go_simp
              try simp only [Act.put, List.setIfInBounds_toArray, List.set_cons_zero, List.set_cons_succ]
              refine wpU_take (i := 12) (v := .int .i64 x) rfl inv (by kernel_rfl) (by kernel_rfl) (by decide) (by decide) (by kernel_rfl) (by kernel_rfl) (by kernel_rfl) (fun _ _ _ h => h) (Or.inl ⟨by kernel_rfl, fun w' hw' => ?_⟩) (HCS9.out _ (Below.refl _ _).drew) (fun inv => ?_)
              · obtain ⟨h0, h1⟩ := hw'
                go_simp
              try simp only [Act.put, List.setIfInBounds_toArray, List.set_cons_zero, List.set_cons_succ]
              refine wpU_take (i := 13) (v := .bool k0) rfl inv (by kernel_rfl) (by kernel_rfl) (by decide) (by decide) (by kernel_rfl) (by kernel_rfl) (by kernel_rfl) (fun _ _ _ h => h) (Or.inl ⟨by kernel_rfl, fun w' hw' => ?_⟩) (HCS9.out _ (Below.refl _ _).drew) (fun inv => ?_)
              · obtain ⟨h0, h1⟩ := hw'
                go_simp
              try simp only [Act.put, List.setIfInBounds_toArray, List.set_cons_zero, List.set_cons_succ]
              refine wpU_take (i := 14) (v := .bool k0) rfl inv (by kernel_rfl) (by kernel_rfl) (by decide) (by decide) (by kernel_rfl) (by kernel_rfl) (by kernel_rfl) (fun _ _ _ h => h) (Or.inl ⟨by kernel_rfl, fun w' hw' => ?_⟩) (HCS9.out _ (Below.refl _ _).drew) (fun inv => ?_)
              · obtain ⟨h0, h1⟩ := hw'
                go_simp
              try simp only [Act.put, List.setIfInBounds_toArray, List.set_cons_zero, List.set_cons_succ]
              refine wpU_one (i := 0) (by kernel_rfl) rfl (fun K hK => ?_)
              replace inv := inv_setc (i := 0) inv (by kernel_rfl) (by decide)
              go_simp
              refine hK.out _ _ (fun _ => HCS9.out _ HBA.out) ?_
              clear hK K
              try simp only [Act.put, List.setIfInBounds_toArray, List.set_cons_zero, List.set_cons_succ]
              refine wpU_one (i := 15) (by kernel_rfl) rfl (fun K hK => ?_)
              replace inv := inv_setc (i := 15) inv (by kernel_rfl) (by decide)
              go_simp
              refine hK.out _ _ (fun _ => HCS9.out _ HBA.out) ?_
              clear hK K
              try simp only [Act.put, List.setIfInBounds_toArray, List.set_cons_zero, List.set_cons_succ]
              refine wpU_one (i := 16) (by kernel_rfl) rfl (fun K hK => ?_)
              go_simp
              refine hK.out _ _ (fun h => absurd (show true = false from h) (by decide)) ?_
              clear hK K
              try simp only [Act.put, List.setIfInBounds_toArray, List.set_cons_zero, List.set_cons_succ]
              refine wpU_done (by kernel_rfl) ?_ _
              go_wp2_with fail
              rw [HB0N.out]
              go_meet
              exact ⟨rfl, rfl, HBA, HOA⟩
            · have hge : decide ((0 : Int) ≤ x) = false := by simpa using h0
              have hk0 : k0 = false := by rw [HK0.out, hge]; simp
              subst hk0
              refine wp_region_U (S := (fun w' => w'.cell? ⟨b9, 0, none⟩ = some (.int .i64 (la : Int)) ∧ w'.cell? ⟨px, la, none⟩ = some (.int .i64 x))) 16 (by kernel_rfl) (fun inv => ?_)
              refine wpU_take (i := 1) (v := .slice (some ⟨px, 0, none⟩) N N) rfl inv (by kernel_rfl) (by kernel_rfl) (by decide) (by decide) (by kernel_rfl) (by kernel_rfl) (by kernel_rfl) (fun _ _ _ h => h) (Or.inl ⟨by kernel_rfl, fun w' hw' => ?_⟩) (HCS9.out _ (Below.refl _ _).drew) (fun inv => ?_)
              · obtain ⟨h0, h1⟩ := hw'
                go_simp
              try simp only [Act.put, List.setIfInBounds_toArray, List.set_cons_zero, List.set_cons_succ]
              refine wpU_take (i := 2) (v := .pointer (some ⟨b9, 0, none⟩)) rfl inv (by kernel_rfl) (by kernel_rfl) (by decide) (by decide) (by kernel_rfl) (by kernel_rfl) (by kernel_rfl) (fun _ _ _ h => h) (Or.inl ⟨by kernel_rfl, fun w' hw' => ?_⟩) (HCS9.out _ (Below.refl _ _).drew) (fun inv => ?_)
              · obtain ⟨h0, h1⟩ := hw'
                go_simp
              try simp only [Act.put, List.setIfInBounds_toArray, List.set_cons_zero, List.set_cons_succ]
              refine wpU_take (i := 3) (v := .int .i64 (la : Int)) rfl inv (by kernel_rfl) (by kernel_rfl) (by decide) (by decide) (by kernel_rfl) (by kernel_rfl) (by kernel_rfl) (fun _ _ _ h => h) (Or.inl ⟨by kernel_rfl, fun w' hw' => ?_⟩) (HCS9.out _ (Below.refl _ _).drew) (fun inv => ?_)
              · obtain ⟨h0, h1⟩ := hw'
                go_simp
              try simp only [Act.put, List.setIfInBounds_toArray, List.set_cons_zero, List.set_cons_succ]
              refine wpU_take (i := 4) (v := .pointer (some ⟨px, la, none⟩)) rfl inv (by kernel_rfl) (by kernel_rfl) (by decide) (by decide) (by kernel_rfl) (by kernel_rfl) (by kernel_rfl) (fun _ _ _ h => h) (Or.inl ⟨by kernel_rfl, fun w' hw' => ?_⟩) (HCS9.out _ (Below.refl _ _).drew) (fun inv => ?_)
              · obtain ⟨h0, h1⟩ := hw'
                go_simp
              try simp only [Act.put, List.setIfInBounds_toArray, List.set_cons_zero, List.set_cons_succ]
              refine wpU_take (i := 5) (v := .int .i64 x) rfl inv (by kernel_rfl) (by kernel_rfl) (by decide) (by decide) (by kernel_rfl) (by kernel_rfl) (by kernel_rfl) (fun _ _ _ h => h) (Or.inl ⟨by kernel_rfl, fun w' hw' => ?_⟩) (HCS9.out _ (Below.refl _ _).drew) (fun inv => ?_)
              · obtain ⟨h0, h1⟩ := hw'
                go_simp
              try simp only [Act.put, List.setIfInBounds_toArray, List.set_cons_zero, List.set_cons_succ]
              refine wpU_take (i := 6) (v := .bool false) rfl inv (by kernel_rfl) (by kernel_rfl) (by decide) (by decide) (by kernel_rfl) (by kernel_rfl) (by kernel_rfl) (fun _ _ _ h => h) (Or.inl ⟨by kernel_rfl, fun w' hw' => ?_⟩) (HCS9.out _ (Below.refl _ _).drew) (fun inv => ?_)
              · obtain ⟨h0, h1⟩ := hw'
                go_simp
              try simp only [Act.put, List.setIfInBounds_toArray, List.set_cons_zero, List.set_cons_succ]
              refine wpU_take (i := 7) (v := .bool false) rfl inv (by kernel_rfl) (by kernel_rfl) (by decide) (by decide) (by kernel_rfl) (by kernel_rfl) (by kernel_rfl) (fun _ _ _ h => h) (Or.inl ⟨by kernel_rfl, fun w' hw' => ?_⟩) (HCS9.out _ (Below.refl _ _).drew) (fun inv => ?_)
              · obtain ⟨h0, h1⟩ := hw'
                go_simp
              try simp only [Act.put, List.setIfInBounds_toArray, List.set_cons_zero, List.set_cons_succ]
              refine wpU_take (i := 8) (v := undef) rfl inv (by kernel_rfl) (by kernel_rfl) (by decide) (by decide) (by kernel_rfl) (by kernel_rfl) (by kernel_rfl) (fun _ _ _ h => h) (Or.inr ⟨by kernel_rfl, rfl⟩) (HCS9.out _ (Below.refl _ _).drew) (fun inv => ?_)
              try simp only [Act.put, List.setIfInBounds_toArray, List.set_cons_zero, List.set_cons_succ]
              refine wpU_take (i := 9) (v := undef) rfl inv (by kernel_rfl) (by kernel_rfl) (by decide) (by decide) (by kernel_rfl) (by kernel_rfl) (by kernel_rfl) (fun _ _ _ h => h) (Or.inr ⟨by kernel_rfl, rfl⟩) (HCS9.out _ (Below.refl _ _).drew) (fun inv => ?_)
              try simp only [Act.put, List.setIfInBounds_toArray, List.set_cons_zero, List.set_cons_succ]
              refine wpU_take (i := 10) (v := undef) rfl inv (by kernel_rfl) (by kernel_rfl) (by decide) (by decide) (by kernel_rfl) (by kernel_rfl) (by kernel_rfl) (fun _ _ _ h => h) (Or.inr ⟨by kernel_rfl, rfl⟩) (HCS9.out _ (Below.refl _ _).drew) (fun inv => ?_)
              try simp only [Act.put, List.setIfInBounds_toArray, List.set_cons_zero, List.set_cons_succ]
              refine wpU_take (i := 11) (v := undef) rfl inv (by kernel_rfl) (by kernel_rfl) (by decide) (by decide) (by kernel_rfl) (by kernel_rfl) (by kernel_rfl) (fun _ _ _ h => h) (Or.inr ⟨by kernel_rfl, rfl⟩) (HCS9.out _ (Below.refl _ _).drew) (fun inv => ?_)
              try simp only [Act.put, List.setIfInBounds_toArray, List.set_cons_zero, List.set_cons_succ]
              refine wpU_take (i := 12) (v := undef) rfl inv (by kernel_rfl) (by kernel_rfl) (by decide) (by decide) (by kernel_rfl) (by kernel_rfl) (by kernel_rfl) (fun _ _ _ h => h) (Or.inr ⟨by kernel_rfl, rfl⟩) (HCS9.out _ (Below.refl _ _).drew) (fun inv => ?_)
              try simp only [Act.put, List.setIfInBounds_toArray, List.set_cons_zero, List.set_cons_succ]
              refine wpU_take (i := 13) (v := undef) rfl inv (by kernel_rfl) (by kernel_rfl) (by decide) (by decide) (by kernel_rfl) (by kernel_rfl) (by kernel_rfl) (fun _ _ _ h => h) (Or.inr ⟨by kernel_rfl, rfl⟩) (HCS9.out _ (Below.refl _ _).drew) (fun inv => ?_)
              try simp only [Act.put, List.setIfInBounds_toArray, List.set_cons_zero, List.set_cons_succ]
              refine wpU_take (i := 14) (v := .bool false) rfl inv (by kernel_rfl) (by kernel_rfl) (by decide) (by decide) (by kernel_rfl) (by kernel_rfl) (by kernel_rfl) (fun _ _ _ h => h) (Or.inl ⟨by kernel_rfl, fun w' hw' => ?_⟩) (HCS9.out _ (Below.refl _ _).drew) (fun inv => ?_)
              · obtain ⟨h0, h1⟩ := hw'
                go_simp
              try simp only [Act.put, List.setIfInBounds_toArray, List.set_cons_zero, List.set_cons_succ]
              refine wpU_one (i := 0) (by kernel_rfl) rfl (fun K hK => ?_)
              replace inv := inv_setc (i := 0) inv (by kernel_rfl) (by decide)
              go_simp
              refine hK.out _ _ (fun _ => HCS9.out _ HBA.out) ?_
              clear hK K
              try simp only [Act.put, List.setIfInBounds_toArray, List.set_cons_zero, List.set_cons_succ]
              refine wpU_one (i := 15) (by kernel_rfl) rfl (fun K hK => ?_)
              replace inv := inv_setc (i := 15) inv (by kernel_rfl) (by decide)
              go_simp
              refine hK.out _ _ (fun _ => HCS9.out _ HBA.out) ?_
              clear hK K
              try simp only [Act.put, List.setIfInBounds_toArray, List.set_cons_zero, List.set_cons_succ]
              refine wpU_one (i := 16) (by kernel_rfl) rfl (fun K hK => ?_)
              go_simp
              refine hK.out _ _ (fun h => absurd (show true = false from h) (by decide)) ?_
              clear hK K
              try simp only [Act.put, List.setIfInBounds_toArray, List.set_cons_zero, List.set_cons_succ]
              refine wpU_done (by kernel_rfl) ?_ _
              go_wp2_with fail
              rw [HB0N.out]
              go_meet
              exact ⟨rfl, rfl, HBA, HOA⟩
          case rest =>
          obtain ⟨rfl, rfl, HB23, HOWN⟩ := hcut
          obtain ⟨w3, HW3⟩ := nameIt wc
          rw [HW3.out] at HB23 HOWN ⊢
          clear HW3 HCS9
          have HWT3 := Lib.hid (HWT2.out.keep HB23.out)
          have HRB3 := Lib.hid (bx_keep HRB2.out HB23.out)
          have HRR3 := Lib.hid (HRR2.out.below HB23.out)
          have HSL0 : Hid (B0 ≤ w3.heap.size) := by show _ ≤ _; rw [← HB0N.out]; exact HB23.out.size
          have HB0B : Hid (b9 < B0 ∧ pk < B0) := by
            have := HSZ2.out
            have := HPKL.out
            show _ ∧ _
            rw [← HB0N.out]; omega
          have HXLIM : Hid (k0 = true → (x.toNat : Int) = x ∧ x.toNat ≤ 2000) := fun e => by have := HRW1.out e; omega
          obtain ⟨z0, z1⟩ := bx_cells2 HRB3.out
          clear HWT2 HRB2 HRR2 HB23
          go_upto_block 4 with fail
          clear z0 z1
          go_cut [10, 11, 13, 46] from 46 to 86 (fun t10 t11 t13 t46 wx => ∃ (o : Option (List Int)), t11 = .bool o.isSome ∧ Hid (rwW X Tw r = o) ∧ Hid (∀ w, o = some w → wx.ownsRow B0 3 1 t10 w.length (ints w) ∧ w.length ≤ 2000) ∧ Hid (WT W #[.int .i64 gt, .int .i64 (N : Int), .int .i64 gs, .slice (some ⟨gb0, go0, none⟩) rl rcap] N po pk (fun k => pk < k ∧ k < B0) Tw wx) ∧ Hid (wx.heap[b9]? = some (.cells #[.int .i64 (la : Int), .slice rsa rn rsk] 69 (0, 0))) ∧ Hid (B0 ≤ wx.heap.size))
          case first =>
            have HS0 : Hid (k0 = true → foldW Tw x.toNat (r.right.take 0) (some []) = some []) := fun _ => rfl
            go_wp2_with fail
            go_loopg [10, 11, 13, 46] rn (fun gg v10 v11 v13 v46 wr => ∃ (p : Nat) (b : Bool) (w : List Int), p ≤ rn ∧ rn - p ≤ gg ∧ v11 = .bool b ∧ v46 = .int .i64 (p : Nat) ∧ Hid (b = true → k0 = true ∧ foldW Tw x.toNat (r.right.take p) (some []) = some w ∧ wr.ownsRow B0 3 1 v10 w.length (ints w)) ∧ Hid (b = false → rwW X Tw r = none) ∧ Hid (WT W #[.int .i64 gt, .int .i64 (N : Int), .int .i64 gs, .slice (some ⟨gb0, go0, none⟩) rl rcap] N po pk (fun k => pk < k ∧ k < B0) Tw wr) ∧ Hid (wr.heap[b9]? = some (.cells #[.int .i64 (la : Int), .slice rsa rn rsk] 69 (0, 0))) ∧ Hid (Rd (fun k => k < W.heap.size) wr (.sl (r.right.map Sym.d)) [.slice rsa rn rsk]) ∧ Hid (B0 ≤ wr.heap.size) ∧ Hid (∃ a k, v10 = .slice a w.length k))
            case atStart => exact ⟨0, k0, [], by omega, by omega, rfl, rfl, (fun e => ⟨e, HS0.out e, HOWN.out⟩), HRW0.out, HWT3, HRB3, HRR3, HSL0, ⟨_, _, rfl⟩⟩
            case round =>
              clear HWT3 HRB3 HRR3 HSL0 HS0 HOWN w3
              obtain ⟨p, b, w, hp, hgg3, rfl, rfl, HBT, HBF, HWT, HRB, HRR, HSL, HVF⟩ := hrel
              obtain ⟨w4, rfl⟩ : ∃ wo : World, wo = wr := ⟨_, rfl⟩
              obtain ⟨ta, tkk, rfl⟩ := HVF.out
              obtain ⟨wl, HWL⟩ := nameIt w.length
              rw [HWL.out] at HBT ⊢
              by_cases hpr : p < rn
              · have hpr' : (p : Int) < (rn : Int) := by omega
                have hpl : p < r.right.length := by rw [HRN.out]; exact hpr
                obtain ⟨sb, so, hsa, -, -, c0, c1⟩ := (show Rd (fun k => k < W.heap.size) w4 (.sl (r.right.map Sym.d)) [.slice rsa rn rsk] from HRR.out).sym_at hpl
                obtain ⟨s, HS⟩ := nameIt (r.right[p]'hpl)
                have hso : okS N tm s := HQ3.out s (by rw [← HS.out]; exact List.getElem_mem hpl)
                rw [HS.out] at c0 c1
                have HNEXT : Hid (∀ o, foldW Tw x.toNat (r.right.take p) (some []) = o → foldW Tw x.toNat (r.right.take (p + 1)) (some []) = stepW Tw x.toNat o s) := by
                  intro o e
                  rw [List.take_succ_eq_append_getElem hpl, HS.out, foldW_snoc, e]
                have HSO := Lib.hid hso
                obtain ⟨w5, HW5⟩ := nameIt (w4.alloc (.cells #[.bool s.term, .int .i64 s.n] 44))
                have hw5 : Below w4.heap.size w4 w5 := by rw [← HW5.out]; exact (Below.refl _ _).alloc (Nat.le_refl _) _
                have HS5 : Hid (w5.heap[w4.heap.size]? = some (.cells #[.bool s.term, .int .i64 s.n] 44 (0, 0))) := by rw [← HW5.out]; exact bx_new _ _ _ rfl
                have HWT5 := Lib.hid (HWT.out.keep hw5)
                have HRB5 := Lib.hid (bx_keep HRB.out hw5)
                have HRR5 := Lib.hid (HRR.out.below hw5)
                have HSL5 : Hid (B0 ≤ w5.heap.size) := Nat.le_trans HSL.out hw5.size
                have HB45 := Lib.hid hw5
                obtain ⟨st, HSTM⟩ := nameIt s.term
                obtain ⟨sn, HSN⟩ := nameIt s.n
                obtain ⟨b13, HB13⟩ := nameIt w4.heap.size
                rw [HSTM.out, HSN.out] at HS5 HW5
                rw [HB13.out] at HS5
                rw [HSTM.out] at c0
                rw [HSN.out] at c1
                subst hsa
                clear hw5 hso
                cases b with
                | false =>
                  go_upto_region 13 with fail
                  rw [HW5.out, HB13.out]
                  clear HW5 HB13 c0 c1
                  have HRWN := Lib.hid (HBF.out rfl)
                  go_wp2_with fail
                  go_meet
                  exact ⟨none, rfl, HRWN, (fun w e => by cases e), HWT5, HRB5, HSL5⟩
                | true =>
                  obtain ⟨hk0, hfo, how⟩ := HBT.out rfl
                  subst hk0
                  obtain ⟨hrw, hx0, hx2⟩ := HRW1.out rfl
                  have HRW := Lib.hid hrw
                  have hnx := HNEXT.out _ hfo
                  have hwl : wl ≤ x.toNat := by rw [← HWL.out]; exact fold_len _ [] w (by simp) hfo
                  have HOW5 := Lib.hid (own_keep how HB45.out)
                  obtain ⟨y0, y1⟩ := bx_cells2 HS5.out
                  go_upto_region 13 with fail
                  rw [HW5.out, HB13.out]
                  clear HW5 HB13 c0 c1
                  cases st with
                  | true =>
                    have hstep : stepW Tw x.toNat (some w) s = if ((wl + 1 : Nat) : Int) ≤ x then some (w ++ [sn]) else none := by
                      unfold stepW symW
                      rw [if_pos HSTM.out, HSN.out]
                      simp only
                      have e : (w ++ [sn]).length = wl + 1 := by rw [List.length_append, HWL.out]; rfl
                      rw [e]
                      by_cases h : ((wl + 1 : Nat) : Int) ≤ x
                      · rw [if_pos h, if_pos (by omega)]
                      · rw [if_neg h, if_neg (by omega)]
                    rw [hstep] at hnx
                    have HNX := Lib.hid hnx
                    clear hnx hstep hfo how hrw
                    go_wp2_with (at_builtin; refine wp_app1 elInt rfl _ _ rfl HOW5.out rfl rfl rfl rfl (by omega) (by unfold maxLen; omega) (by have := HSL5.out; omega) ?_)
                    intro v' wz hoz hgz
                    obtain ⟨az, kz, rfl, -, -⟩ := own_len hoz
                    have HWTZ := Lib.hid (HWT5.out.grown hgz (fun k e => by have := (HOW5.out.lt k e).1; have := HB0B.out; exact ⟨by omega, fun h => by have := h.2; omega⟩))
                    have HRBZ := Lib.hid ((hgz.block b9 (Array.getElem?_eq_some_iff.1 HRB5.out).1 (fun e => by have := (HOW5.out.lt b9 e.symm).1; have := HB0B.out; omega)).trans HRB5.out)
                    have HRRZ := Lib.hid (rd_grown HRR5.out hgz (fun k e h => by have h2 := (HOW5.out.lt k e).1; have h3 := HB0B.out; have h4 := HB9W.out; have h5 : k < W.heap.size := h; omega))
                    have HSLZ : Hid (B0 ≤ wz.heap.size) := Nat.le_trans HSL5.out hgz.size
                    have HOWZ : Hid (wz.ownsRow B0 3 1 (.slice az (wl + 1) kz) (w ++ [sn]).length (ints (w ++ [sn]))) := by
                      have e : (w ++ [sn]).length = wl + 1 := by rw [List.length_append, HWL.out]; rfl
                      show World.ownsRow _ _ _ _ _ _ _
                      rw [e, ints_append]; exact hoz
                    have HLEN1 : Hid ((w ++ [sn]).length = wl + 1) := by show _ = _; rw [List.length_append, HWL.out]; rfl
                    have hxz : wz.cell? ⟨px, la, none⟩ = some (.int .i64 x) := by
                      have h1 := HX.out.keep HWTZ.out.bel
                      have h2 := h1.cell hlaN
                      rw [HXV.out] at h2
                      exact h2
                    obtain ⟨k0', k1'⟩ := bx_cells2 HRBZ.out
                    obtain ⟨wl1, HWL1⟩ := nameIt (wl + 1)
                    rw [HWL1.out] at HOWZ HLEN1 HNX
                    have hwl1 : (wl : Int) + 1 = (wl1 : Int) := by have := HWL1.out; omega
                    rw [HWL1.out]
                    clear hoz hgz
                    obtain ⟨nb, HNB⟩ := nameIt (decide ((wl1 : Int) ≤ x))
                    have hnb := HNB.out
                    go_wp2_with fail
                    have HBT2 : Hid (nb = true → true = true ∧ foldW Tw x.toNat (r.right.take (p + 1)) (some []) = some (w ++ [sn]) ∧ wz.ownsRow B0 3 1 (.slice az wl1 kz) (w ++ [sn]).length (ints (w ++ [sn]))) := by
                      intro e
                      rw [← HNB.out] at e
                      refine ⟨rfl, ?_, HOWZ.out⟩
                      rw [HNX.out, if_pos (by simpa using e)]
                    have HBF2 : Hid (nb = false → rwW X Tw r = none) := by
                      intro e
                      rw [← HNB.out] at e
                      rw [HRW.out]
                      refine fold_stop (p := p + 1) (by omega) ?_
                      rw [HNX.out, if_neg (by simpa using e)]
                    go_roundg (rn - (p + 1))
                    case measure => omega
                    case rel => exact ⟨p + 1, nb, w ++ [sn], by omega, by omega, rfl, by go_num, (fun e => ⟨by first | rfl | trivial, (HBT2.out e).2⟩), HBF2, HWTZ, HRBZ, HRRZ, HSLZ, ⟨az, kz, by rw [HLEN1.out]⟩⟩
                  | false =>
                    have hsn0 := HSO.out.1
                    have hsnN := HSO.out.2.2 HSTM.out
                    rw [HSN.out] at hsn0 hsnN
                    obtain ⟨sa, rfl⟩ : ∃ sa : Nat, sn = (sa : Int) := ⟨sn.toNat, by omega⟩
                    have hsaN : sa < N := by omega
                    have hsaN' : (sa : Int) < (N : Int) := by omega
                    have kc := HWT5.out.kn.cell hsaN
                    obtain ⟨ao, ko, oc, hord⟩ := HWT5.out.word hsaN
                    obtain ⟨ou, HOU⟩ := nameIt (Tw sa)
                    rw [HOU.out] at kc oc hord
                    have hst2 : symW Tw s = ou := by
                      unfold symW
                      rw [if_neg (by rw [HSTM.out]; simp), HSN.out, ← HOU.out]; simp
                    cases ou with
                    | none =>
                      have hstep : stepW Tw x.toNat (some w) s = none := by unfold stepW; rw [hst2]
                      rw [hstep] at hnx
                      have HRWN : Hid (rwW X Tw r = none) := by
                        show _ = _
                        rw [hrw]
                        exact fold_stop (p := p + 1) (by omega) hnx
                      simp only [Option.isSome] at kc
                      clear hnx hstep hfo how hrw oc hord hst2
                      go_wp2_with fail
                      go_meet
                      exact ⟨none, rfl, HRWN, (fun w e => by cases e), HWT5, HRB5, HSL5⟩
                    | some u =>
                      simp only [Option.isSome] at kc
                      simp only [Option.getD_some] at oc hord
                      have hwi := HWI.out sa u HOU.out
                      have hu2 : u.length ≤ 2000 := hwi.2.2.1
                      obtain ⟨ul, HUL⟩ := nameIt u.length
                      rw [HUL.out] at oc hord hu2
                      have hstep : stepW Tw x.toNat (some w) s = if ((wl + ul : Nat) : Int) ≤ x then some (w ++ u) else none := by
                        unfold stepW
                        rw [hst2]
                        simp only
                        have e : (w ++ u).length = wl + ul := by rw [List.length_append, HWL.out, HUL.out]
                        rw [e]
                        by_cases h : ((wl + ul : Nat) : Int) ≤ x
                        · rw [if_pos h, if_pos (by omega)]
                        · rw [if_neg h, if_neg (by omega)]
                      rw [hstep] at hnx
                      have HNX := Lib.hid hnx
                      have HSLU : Hid (Sl w5 (.slice ao ul ko) (ints u)) := sl_rd hord
                      have hul : (ints u).length = ul := by rw [ints_len]; exact HUL.out
                      clear hnx hstep hfo how hrw hord hst2 hwi
                      go_wp2_with (at_builtin; refine wp_appS elInt rfl _ _ rfl HOW5.out rfl HSLU.out rfl (ints_one u) (by rw [hul]; omega) (by rw [hul]; unfold maxLen; omega) (by have := HSL5.out; omega) ?_)
                      intro v' wz hoz hgz
                      try rw [hul] at hoz
                      obtain ⟨az, kz, rfl, -, -⟩ := own_len hoz
                      have HWTZ := Lib.hid (HWT5.out.grown hgz (fun k e => by have := (HOW5.out.lt k e).1; have := HB0B.out; exact ⟨by omega, fun h => by have := h.2; omega⟩))
                      have HRBZ := Lib.hid ((hgz.block b9 (Array.getElem?_eq_some_iff.1 HRB5.out).1 (fun e => by have := (HOW5.out.lt b9 e.symm).1; have := HB0B.out; omega)).trans HRB5.out)
                      have HRRZ := Lib.hid (rd_grown HRR5.out hgz (fun k e h => by have h2 := (HOW5.out.lt k e).1; have h3 := HB0B.out; have h4 := HB9W.out; have h5 : k < W.heap.size := h; omega))
                      have HSLZ : Hid (B0 ≤ wz.heap.size) := Nat.le_trans HSL5.out hgz.size
                      have HOWZ : Hid (wz.ownsRow B0 3 1 (.slice az (wl + ul) kz) (w ++ u).length (ints (w ++ u))) := by
                        have e : (w ++ u).length = wl + ul := by rw [List.length_append, HWL.out, HUL.out]
                        show World.ownsRow _ _ _ _ _ _ _
                        rw [e, ints_append]; exact hoz
                      have HLEN1 : Hid ((w ++ u).length = wl + ul) := by show _ = _; rw [List.length_append, HWL.out, HUL.out]
                      have hxz : wz.cell? ⟨px, la, none⟩ = some (.int .i64 x) := by
                        have h1 := HX.out.keep HWTZ.out.bel
                        have h2 := h1.cell hlaN
                        rw [HXV.out] at h2
                        exact h2
                      obtain ⟨k0', k1'⟩ := bx_cells2 HRBZ.out
                      obtain ⟨wl1, HWL1⟩ := nameIt (wl + ul)
                      rw [HWL1.out] at HOWZ HLEN1 HNX
                      rw [HWL1.out]
                      clear hoz hgz
                      obtain ⟨nb, HNB⟩ := nameIt (decide ((wl1 : Int) ≤ x))
                      have hnb := HNB.out
                      go_wp2_with fail
                      have HBT2 : Hid (nb = true → true = true ∧ foldW Tw x.toNat (r.right.take (p + 1)) (some []) = some (w ++ u) ∧ wz.ownsRow B0 3 1 (.slice az wl1 kz) (w ++ u).length (ints (w ++ u))) := by
                        intro e
                        rw [← HNB.out] at e
                        refine ⟨rfl, ?_, HOWZ.out⟩
                        rw [HNX.out, if_pos (by simpa using e)]
                      have HBF2 : Hid (nb = false → rwW X Tw r = none) := by
                        intro e
                        rw [← HNB.out] at e
                        rw [HRW.out]
                        refine fold_stop (p := p + 1) (by omega) ?_
                        rw [HNX.out, if_neg (by simpa using e)]
                      go_roundg (rn - (p + 1))
                      case measure => omega
                      case rel => exact ⟨p + 1, nb, w ++ u, by omega, by omega, rfl, by go_num, (fun e => ⟨by first | rfl | trivial, (HBT2.out e).2⟩), HBF2, HWTZ, HRBZ, HRRZ, HSLZ, ⟨az, kz, by rw [HLEN1.out]⟩⟩
              · have hpr' : ¬ (p : Int) < (rn : Int) := by omega
                obtain rfl : p = rn := by omega
                cases b with
                | false =>
                  have HRWN := Lib.hid (HBF.out rfl)
                  go_wp2_with fail
                  go_meet
                  exact ⟨none, rfl, HRWN, (fun w e => by cases e), HWT, HRB, HSL⟩
                | true =>
                  obtain ⟨hk0, hfo, how⟩ := HBT.out rfl
                  obtain ⟨hrw, hx0, hx2⟩ := HRW1.out hk0
                  have hwl : wl ≤ x.toNat := by rw [← HWL.out]; exact fold_len _ [] w (by simp) hfo
                  have HRWS : Hid (rwW X Tw r = some w) := by show _ = _; rw [hrw, hfo]
                  have HOWS : Hid (∀ u, some w = some u → w4.ownsRow B0 3 1 (.slice ta wl tkk) u.length (ints u) ∧ u.length ≤ 2000) := by
                    intro u e
                    cases e
                    rw [HWL.out]
                    exact ⟨how, by omega⟩
                  clear hfo how hrw hwl hk0
                  go_wp2_with fail
                  go_meet
                  exact ⟨some w, rfl, HRWS, HOWS, HWT, HRB, HSL⟩
          case rest =>
          obtain ⟨o, rfl, HRWO, HOWO, HWT4, HRB4, HSL4⟩ := hcut
          obtain ⟨w4, HW4⟩ := nameIt wc
          rw [HW4.out] at HOWO HWT4 HRB4 HSL4 ⊢
          clear HW4 HWT3 HRB3 HRR3 HSL0 HOWN
          have kc := HWT4.out.kn.cell hlaN
          obtain ⟨ao, ko, oc, hord⟩ := HWT4.out.word hlaN
          obtain ⟨ou, HOU⟩ := nameIt (Tw la)
          rw [HOU.out] at kc oc hord
          obtain ⟨ul, HUL⟩ := nameIt (ou.getD []).length
          rw [HUL.out] at oc hord
          obtain ⟨bt, HBTW⟩ := nameIt (betW X Tw r)
          have HBE : Hid (lessB (o.map tv) (ou.map tv) = bt) := by show _ = _; rw [← HBTW.out]; unfold betW; rw [HRWO.out, HLA.out, HOU.out]
          have HU4 : Hid (Sl w4 (.slice ao ul ko) (ints (ou.getD []))) := sl_rd hord
          have HKC := Lib.hid kc
          have HOC := Lib.hid oc
          have HCS : Hid (∀ w', Below w4.heap.size w4 w' → w'.cell? ⟨b9, 0, none⟩ = some (.int .i64 (la : Int)) ∧ w'.cell? ⟨pk, la, none⟩ = some (.bool ou.isSome) ∧ w'.cell? ⟨po, la, none⟩ = some (.slice ao ul ko)) := by
            intro w' hb'
            exact ⟨(bx_cells2 (bx_keep HRB4.out hb')).1, (hb'.cell (lt_of_cell HKC.out)).trans HKC.out, (hb'.cell (lt_of_cell HOC.out)).trans HOC.out⟩
          obtain ⟨ob, HOB⟩ := nameIt o.isSome
          rw [HOB.out]
          clear kc oc hord
          go_upto_region 20 with fail
          go_cut [116] from 87 to 116 (fun t wx => t = .bool bt ∧ Hid (Below w4.heap.size w4 wx))
          case first =>
            have HBD : Hid (Below w4.heap.size w4 w4.drew) := (Below.refl w4.heap.size w4).drew
            cases o with
            | none =>
              have hb0 : bt = false := by rw [← HBE.out]; exact less_none
              subst hb0
              obtain rfl : ob = false := HOB.out.symm
              refine wp_region_U (S := (fun w' => w'.cell? ⟨b9, 0, none⟩ = some (.int .i64 (la : Int)) ∧ w'.cell? ⟨pk, la, none⟩ = some (.bool ou.isSome) ∧ w'.cell? ⟨po, la, none⟩ = some (.slice ao ul ko))) 29 (by kernel_rfl) (fun inv => ?_)
              refine wpU_take (i := 0) (v := .bool false) rfl inv (by kernel_rfl) (by kernel_rfl) (by decide) (by decide) (by kernel_rfl) (by kernel_rfl) (by kernel_rfl) (fun _ _ _ h => h) (Or.inl ⟨by kernel_rfl, fun w' hw' => ?_⟩) (HCS.out _ (Below.refl _ _).drew) (fun inv => ?_)
              · obtain ⟨h0, h1, h2⟩ := hw'
                go_simp
              try simp only [Act.put, List.setIfInBounds_toArray, List.set_cons_zero, List.set_cons_succ]
              refine wpU_take (i := 1) (v := .bool false) rfl inv (by kernel_rfl) (by kernel_rfl) (by decide) (by decide) (by kernel_rfl) (by kernel_rfl) (by kernel_rfl) (fun _ _ _ h => h) (Or.inl ⟨by kernel_rfl, fun w' hw' => ?_⟩) (HCS.out _ (Below.refl _ _).drew) (fun inv => ?_)
              · obtain ⟨h0, h1, h2⟩ := hw'
                go_simp
              try simp only [Act.put, List.setIfInBounds_toArray, List.set_cons_zero, List.set_cons_succ]
              refine wpU_take (i := 2) (v := undef) rfl inv (by kernel_rfl) (by kernel_rfl) (by decide) (by decide) (by kernel_rfl) (by kernel_rfl) (by kernel_rfl) (fun _ _ _ h => h) (Or.inr ⟨by kernel_rfl, rfl⟩) (HCS.out _ (Below.refl _ _).drew) (fun inv => ?_)
              try simp only [Act.put, List.setIfInBounds_toArray, List.set_cons_zero, List.set_cons_succ]
              refine wpU_take (i := 3) (v := undef) rfl inv (by kernel_rfl) (by kernel_rfl) (by decide) (by decide) (by kernel_rfl) (by kernel_rfl) (by kernel_rfl) (fun _ _ _ h => h) (Or.inr ⟨by kernel_rfl, rfl⟩) (HCS.out _ (Below.refl _ _).drew) (fun inv => ?_)
              try simp only [Act.put, List.setIfInBounds_toArray, List.set_cons_zero, List.set_cons_succ]
              refine wpU_take (i := 4) (v := undef) rfl inv (by kernel_rfl) (by kernel_rfl) (by decide) (by decide) (by kernel_rfl) (by kernel_rfl) (by kernel_rfl) (fun _ _ _ h => h) (Or.inr ⟨by kernel_rfl, rfl⟩) (HCS.out _ (Below.refl _ _).drew) (fun inv => ?_)
              try simp only [Act.put, List.setIfInBounds_toArray, List.set_cons_zero, List.set_cons_succ]
              refine wpU_take (i := 5) (v := undef) rfl inv (by kernel_rfl) (by kernel_rfl) (by decide) (by decide) (by kernel_rfl) (by kernel_rfl) (by kernel_rfl) (fun _ _ _ h => h) (Or.inr ⟨by kernel_rfl, rfl⟩) (HCS.out _ (Below.refl _ _).drew) (fun inv => ?_)
              try simp only [Act.put, List.setIfInBounds_toArray, List.set_cons_zero, List.set_cons_succ]
              refine wpU_take (i := 6) (v := undef) rfl inv (by kernel_rfl) (by kernel_rfl) (by decide) (by decide) (by kernel_rfl) (by kernel_rfl) (by kernel_rfl) (fun _ _ _ h => h) (Or.inr ⟨by kernel_rfl, rfl⟩) (HCS.out _ (Below.refl _ _).drew) (fun inv => ?_)
              try simp only [Act.put, List.setIfInBounds_toArray, List.set_cons_zero, List.set_cons_succ]
              refine wpU_take (i := 7) (v := undef) rfl inv (by kernel_rfl) (by kernel_rfl) (by decide) (by decide) (by kernel_rfl) (by kernel_rfl) (by kernel_rfl) (fun _ _ _ h => h) (Or.inr ⟨by kernel_rfl, rfl⟩) (HCS.out _ (Below.refl _ _).drew) (fun inv => ?_)
              try simp only [Act.put, List.setIfInBounds_toArray, List.set_cons_zero, List.set_cons_succ]
              refine wpU_take (i := 8) (v := undef) rfl inv (by kernel_rfl) (by kernel_rfl) (by decide) (by decide) (by kernel_rfl) (by kernel_rfl) (by kernel_rfl) (fun _ _ _ h => h) (Or.inr ⟨by kernel_rfl, rfl⟩) (HCS.out _ (Below.refl _ _).drew) (fun inv => ?_)
              try simp only [Act.put, List.setIfInBounds_toArray, List.set_cons_zero, List.set_cons_succ]
              refine wpU_take (i := 9) (v := undef) rfl inv (by kernel_rfl) (by kernel_rfl) (by decide) (by decide) (by kernel_rfl) (by kernel_rfl) (by kernel_rfl) (fun _ _ _ h => h) (Or.inr ⟨by kernel_rfl, rfl⟩) (HCS.out _ (Below.refl _ _).drew) (fun inv => ?_)
              try simp only [Act.put, List.setIfInBounds_toArray, List.set_cons_zero, List.set_cons_succ]
              refine wpU_take (i := 10) (v := undef) rfl inv (by kernel_rfl) (by kernel_rfl) (by decide) (by decide) (by kernel_rfl) (by kernel_rfl) (by kernel_rfl) (fun _ _ _ h => h) (Or.inr ⟨by kernel_rfl, rfl⟩) (HCS.out _ (Below.refl _ _).drew) (fun inv => ?_)
              try simp only [Act.put, List.setIfInBounds_toArray, List.set_cons_zero, List.set_cons_succ]
              refine wpU_take (i := 11) (v := undef) rfl inv (by kernel_rfl) (by kernel_rfl) (by decide) (by decide) (by kernel_rfl) (by kernel_rfl) (by kernel_rfl) (fun _ _ _ h => h) (Or.inr ⟨by kernel_rfl, rfl⟩) (HCS.out _ (Below.refl _ _).drew) (fun inv => ?_)
              try simp only [Act.put, List.setIfInBounds_toArray, List.set_cons_zero, List.set_cons_succ]
              refine wpU_take (i := 12) (v := undef) rfl inv (by kernel_rfl) (by kernel_rfl) (by decide) (by decide) (by kernel_rfl) (by kernel_rfl) (by kernel_rfl) (fun _ _ _ h => h) (Or.inr ⟨by kernel_rfl, rfl⟩) (HCS.out _ (Below.refl _ _).drew) (fun inv => ?_)
              try simp only [Act.put, List.setIfInBounds_toArray, List.set_cons_zero, List.set_cons_succ]
              refine wpU_take (i := 13) (v := undef) rfl inv (by kernel_rfl) (by kernel_rfl) (by decide) (by decide) (by kernel_rfl) (by kernel_rfl) (by kernel_rfl) (fun _ _ _ h => h) (Or.inr ⟨by kernel_rfl, rfl⟩) (HCS.out _ (Below.refl _ _).drew) (fun inv => ?_)
              try simp only [Act.put, List.setIfInBounds_toArray, List.set_cons_zero, List.set_cons_succ]
              refine wpU_take (i := 14) (v := undef) rfl inv (by kernel_rfl) (by kernel_rfl) (by decide) (by decide) (by kernel_rfl) (by kernel_rfl) (by kernel_rfl) (fun _ _ _ h => h) (Or.inr ⟨by kernel_rfl, rfl⟩) (HCS.out _ (Below.refl _ _).drew) (fun inv => ?_)
              try simp only [Act.put, List.setIfInBounds_toArray, List.set_cons_zero, List.set_cons_succ]
              refine wpU_take (i := 15) (v := undef) rfl inv (by kernel_rfl) (by kernel_rfl) (by decide) (by decide) (by kernel_rfl) (by kernel_rfl) (by kernel_rfl) (fun _ _ _ h => h) (Or.inr ⟨by kernel_rfl, rfl⟩) (HCS.out _ (Below.refl _ _).drew) (fun inv => ?_)
              try simp only [Act.put, List.setIfInBounds_toArray, List.set_cons_zero, List.set_cons_succ]
              refine wpU_take (i := 16) (v := undef) rfl inv (by kernel_rfl) (by kernel_rfl) (by decide) (by decide) (by kernel_rfl) (by kernel_rfl) (by kernel_rfl) (fun _ _ _ h => h) (Or.inr ⟨by kernel_rfl, rfl⟩) (HCS.out _ (Below.refl _ _).drew) (fun inv => ?_)
              try simp only [Act.put, List.setIfInBounds_toArray, List.set_cons_zero, List.set_cons_succ]
              refine wpU_take (i := 17) (v := undef) rfl inv (by kernel_rfl) (by kernel_rfl) (by decide) (by decide) (by kernel_rfl) (by kernel_rfl) (by kernel_rfl) (fun _ _ _ h => h) (Or.inr ⟨by kernel_rfl, rfl⟩) (HCS.out _ (Below.refl _ _).drew) (fun inv => ?_)
              try simp only [Act.put, List.setIfInBounds_toArray, List.set_cons_zero, List.set_cons_succ]
              refine wpU_take (i := 18) (v := undef) rfl inv (by kernel_rfl) (by kernel_rfl) (by decide) (by decide) (by kernel_rfl) (by kernel_rfl) (by kernel_rfl) (fun _ _ _ h => h) (Or.inr ⟨by kernel_rfl, rfl⟩) (HCS.out _ (Below.refl _ _).drew) (fun inv => ?_)
              try simp only [Act.put, List.setIfInBounds_toArray, List.set_cons_zero, List.set_cons_succ]
              refine wpU_take (i := 19) (v := undef) rfl inv (by kernel_rfl) (by kernel_rfl) (by decide) (by decide) (by kernel_rfl) (by kernel_rfl) (by kernel_rfl) (fun _ _ _ h => h) (Or.inr ⟨by kernel_rfl, rfl⟩) (HCS.out _ (Below.refl _ _).drew) (fun inv => ?_)
              try simp only [Act.put, List.setIfInBounds_toArray, List.set_cons_zero, List.set_cons_succ]
              refine wpU_take (i := 20) (v := undef) rfl inv (by kernel_rfl) (by kernel_rfl) (by decide) (by decide) (by kernel_rfl) (by kernel_rfl) (by kernel_rfl) (fun _ _ _ h => h) (Or.inr ⟨by kernel_rfl, rfl⟩) (HCS.out _ (Below.refl _ _).drew) (fun inv => ?_)
              try simp only [Act.put, List.setIfInBounds_toArray, List.set_cons_zero, List.set_cons_succ]
              refine wpU_take (i := 21) (v := undef) rfl inv (by kernel_rfl) (by kernel_rfl) (by decide) (by decide) (by kernel_rfl) (by kernel_rfl) (by kernel_rfl) (fun _ _ _ h => h) (Or.inr ⟨by kernel_rfl, rfl⟩) (HCS.out _ (Below.refl _ _).drew) (fun inv => ?_)
              try simp only [Act.put, List.setIfInBounds_toArray, List.set_cons_zero, List.set_cons_succ]
              refine wpU_take (i := 22) (v := undef) rfl inv (by kernel_rfl) (by kernel_rfl) (by decide) (by decide) (by kernel_rfl) (by kernel_rfl) (by kernel_rfl) (fun _ _ _ h => h) (Or.inr ⟨by kernel_rfl, rfl⟩) (HCS.out _ (Below.refl _ _).drew) (fun inv => ?_)
              try simp only [Act.put, List.setIfInBounds_toArray, List.set_cons_zero, List.set_cons_succ]
              refine wpU_take (i := 23) (v := undef) rfl inv (by kernel_rfl) (by kernel_rfl) (by decide) (by decide) (by kernel_rfl) (by kernel_rfl) (by kernel_rfl) (fun _ _ _ h => h) (Or.inr ⟨by kernel_rfl, rfl⟩) (HCS.out _ (Below.refl _ _).drew) (fun inv => ?_)
              try simp only [Act.put, List.setIfInBounds_toArray, List.set_cons_zero, List.set_cons_succ]
              refine wpU_take (i := 24) (v := undef) rfl inv (by kernel_rfl) (by kernel_rfl) (by decide) (by decide) (by kernel_rfl) (by kernel_rfl) (by kernel_rfl) (fun _ _ _ h => h) (Or.inr ⟨by kernel_rfl, rfl⟩) (HCS.out _ (Below.refl _ _).drew) (fun inv => ?_)
              try simp only [Act.put, List.setIfInBounds_toArray, List.set_cons_zero, List.set_cons_succ]
              refine wpU_take (i := 25) (v := undef) rfl inv (by kernel_rfl) (by kernel_rfl) (by decide) (by decide) (by kernel_rfl) (by kernel_rfl) (by kernel_rfl) (fun _ _ _ h => h) (Or.inr ⟨by kernel_rfl, rfl⟩) (HCS.out _ (Below.refl _ _).drew) (fun inv => ?_)
              try simp only [Act.put, List.setIfInBounds_toArray, List.set_cons_zero, List.set_cons_succ]
              refine wpU_take (i := 26) (v := undef) rfl inv (by kernel_rfl) (by kernel_rfl) (by decide) (by decide) (by kernel_rfl) (by kernel_rfl) (by kernel_rfl) (fun _ _ _ h => h) (Or.inr ⟨by kernel_rfl, rfl⟩) (HCS.out _ (Below.refl _ _).drew) (fun inv => ?_)
              try simp only [Act.put, List.setIfInBounds_toArray, List.set_cons_zero, List.set_cons_succ]
              refine wpU_take (i := 27) (v := undef) rfl inv (by kernel_rfl) (by kernel_rfl) (by decide) (by decide) (by kernel_rfl) (by kernel_rfl) (by kernel_rfl) (fun _ _ _ h => h) (Or.inr ⟨by kernel_rfl, rfl⟩) (HCS.out _ (Below.refl _ _).drew) (fun inv => ?_)
              try simp only [Act.put, List.setIfInBounds_toArray, List.set_cons_zero, List.set_cons_succ]
              refine wpU_take (i := 28) (v := undef) rfl inv (by kernel_rfl) (by kernel_rfl) (by decide) (by decide) (by kernel_rfl) (by kernel_rfl) (by kernel_rfl) (fun _ _ _ h => h) (Or.inr ⟨by kernel_rfl, rfl⟩) (HCS.out _ (Below.refl _ _).drew) (fun inv => ?_)
              try simp only [Act.put, List.setIfInBounds_toArray, List.set_cons_zero, List.set_cons_succ]
              refine wpU_one (i := 29) (by kernel_rfl) rfl (fun K hK => ?_)
              go_simp
              refine hK.out _ _ (fun h => absurd (show true = false from h) (by decide)) ?_
              clear hK K
              try simp only [Act.put, List.setIfInBounds_toArray, List.set_cons_zero, List.set_cons_succ]
              refine wpU_done (by kernel_rfl) ?_ _
              go_wp2_with fail
              go_meet
              exact ⟨rfl, HBD⟩
            | some w =>
              obtain ⟨how, hw2⟩ := HOWO.out w rfl
              have HSW0 := sl_of_own how
              obtain ⟨wl, HWL⟩ := nameIt w.length
              rw [HWL.out] at how hw2
              obtain ⟨ta, tkk, rfl, -, -⟩ := own_len how
              have HSW := Lib.hid HSW0
              clear HSW0
              obtain rfl : ob = true := HOB.out.symm
              clear how
              cases ou with
              | none =>
                have hb0 : bt = true := by rw [← HBE.out]; rfl
                subst hb0
                simp only [Option.isSome] at HCS
                refine wp_region_U (S := (fun w' => w'.cell? ⟨b9, 0, none⟩ = some (.int .i64 (la : Int)) ∧ w'.cell? ⟨pk, la, none⟩ = some (.bool false) ∧ w'.cell? ⟨po, la, none⟩ = some (.slice ao ul ko))) 28 (by kernel_rfl) (fun inv => ?_)
                refine wpU_take (i := 0) (v := .bool true) rfl inv (by kernel_rfl) (by kernel_rfl) (by decide) (by decide) (by kernel_rfl) (by kernel_rfl) (by kernel_rfl) (fun _ _ _ h => h) (Or.inl ⟨by kernel_rfl, fun w' hw' => ?_⟩) (HCS.out _ (Below.refl _ _).drew) (fun inv => ?_)
                · obtain ⟨h0, h1, h2⟩ := hw'
                  go_simp
                try simp only [Act.put, List.setIfInBounds_toArray, List.set_cons_zero, List.set_cons_succ]
                refine wpU_take (i := 1) (v := .bool true) rfl inv (by kernel_rfl) (by kernel_rfl) (by decide) (by decide) (by kernel_rfl) (by kernel_rfl) (by kernel_rfl) (fun _ _ _ h => h) (Or.inl ⟨by kernel_rfl, fun w' hw' => ?_⟩) (HCS.out _ (Below.refl _ _).drew) (fun inv => ?_)
                · obtain ⟨h0, h1, h2⟩ := hw'
                  go_simp
                try simp only [Act.put, List.setIfInBounds_toArray, List.set_cons_zero, List.set_cons_succ]
                refine wpU_take (i := 2) (v := .slice (some ⟨pk, 0, none⟩) N N) rfl inv (by kernel_rfl) (by kernel_rfl) (by decide) (by decide) (by kernel_rfl) (by kernel_rfl) (by kernel_rfl) (fun _ _ _ h => h) (Or.inl ⟨by kernel_rfl, fun w' hw' => ?_⟩) (HCS.out _ (Below.refl _ _).drew) (fun inv => ?_)
                · obtain ⟨h0, h1, h2⟩ := hw'
                  go_simp
                try simp only [Act.put, List.setIfInBounds_toArray, List.set_cons_zero, List.set_cons_succ]
                refine wpU_take (i := 3) (v := .pointer (some ⟨b9, 0, none⟩)) rfl inv (by kernel_rfl) (by kernel_rfl) (by decide) (by decide) (by kernel_rfl) (by kernel_rfl) (by kernel_rfl) (fun _ _ _ h => h) (Or.inl ⟨by kernel_rfl, fun w' hw' => ?_⟩) (HCS.out _ (Below.refl _ _).drew) (fun inv => ?_)
                · obtain ⟨h0, h1, h2⟩ := hw'
                  go_simp
                try simp only [Act.put, List.setIfInBounds_toArray, List.set_cons_zero, List.set_cons_succ]
                refine wpU_take (i := 4) (v := .int .i64 (la : Int)) rfl inv (by kernel_rfl) (by kernel_rfl) (by decide) (by decide) (by kernel_rfl) (by kernel_rfl) (by kernel_rfl) (fun _ _ _ h => h) (Or.inl ⟨by kernel_rfl, fun w' hw' => ?_⟩) (HCS.out _ (Below.refl _ _).drew) (fun inv => ?_)
                · obtain ⟨h0, h1, h2⟩ := hw'
                  go_simp
                try simp only [Act.put, List.setIfInBounds_toArray, List.set_cons_zero, List.set_cons_succ]
                refine wpU_take (i := 5) (v := .pointer (some ⟨pk, la, none⟩)) rfl inv (by kernel_rfl) (by kernel_rfl) (by decide) (by decide) (by kernel_rfl) (by kernel_rfl) (by kernel_rfl) (fun _ _ _ h => h) (Or.inl ⟨by kernel_rfl, fun w' hw' => ?_⟩) (HCS.out _ (Below.refl _ _).drew) (fun inv => ?_)
                · obtain ⟨h0, h1, h2⟩ := hw'
                  go_simp
                try simp only [Act.put, List.setIfInBounds_toArray, List.set_cons_zero, List.set_cons_succ]
                refine wpU_take (i := 6) (v := .bool false) rfl inv (by kernel_rfl) (by kernel_rfl) (by decide) (by decide) (by kernel_rfl) (by kernel_rfl) (by kernel_rfl) (fun _ _ _ h => h) (Or.inl ⟨by kernel_rfl, fun w' hw' => ?_⟩) (HCS.out _ (Below.refl _ _).drew) (fun inv => ?_)
                · obtain ⟨h0, h1, h2⟩ := hw'
                  go_simp
                try simp only [Act.put, List.setIfInBounds_toArray, List.set_cons_zero, List.set_cons_succ]
                refine wpU_take (i := 7) (v := .bool true) rfl inv (by kernel_rfl) (by kernel_rfl) (by decide) (by decide) (by kernel_rfl) (by kernel_rfl) (by kernel_rfl) (fun _ _ _ h => h) (Or.inl ⟨by kernel_rfl, fun w' hw' => ?_⟩) (HCS.out _ (Below.refl _ _).drew) (fun inv => ?_)
                · obtain ⟨h0, h1, h2⟩ := hw'
                  go_simp
                try simp only [Act.put, List.setIfInBounds_toArray, List.set_cons_zero, List.set_cons_succ]
                refine wpU_take (i := 8) (v := .bool true) rfl inv (by kernel_rfl) (by kernel_rfl) (by decide) (by decide) (by kernel_rfl) (by kernel_rfl) (by kernel_rfl) (fun _ _ _ h => h) (Or.inl ⟨by kernel_rfl, fun w' hw' => ?_⟩) (HCS.out _ (Below.refl _ _).drew) (fun inv => ?_)
                · obtain ⟨h0, h1, h2⟩ := hw'
                  go_simp
                try simp only [Act.put, List.setIfInBounds_toArray, List.set_cons_zero, List.set_cons_succ]
                refine wpU_take (i := 9) (v := undef) rfl inv (by kernel_rfl) (by kernel_rfl) (by decide) (by decide) (by kernel_rfl) (by kernel_rfl) (by kernel_rfl) (fun _ _ _ h => h) (Or.inr ⟨by kernel_rfl, rfl⟩) (HCS.out _ (Below.refl _ _).drew) (fun inv => ?_)
                try simp only [Act.put, List.setIfInBounds_toArray, List.set_cons_zero, List.set_cons_succ]
                refine wpU_take (i := 10) (v := undef) rfl inv (by kernel_rfl) (by kernel_rfl) (by decide) (by decide) (by kernel_rfl) (by kernel_rfl) (by kernel_rfl) (fun _ _ _ h => h) (Or.inr ⟨by kernel_rfl, rfl⟩) (HCS.out _ (Below.refl _ _).drew) (fun inv => ?_)
                try simp only [Act.put, List.setIfInBounds_toArray, List.set_cons_zero, List.set_cons_succ]
                refine wpU_take (i := 11) (v := undef) rfl inv (by kernel_rfl) (by kernel_rfl) (by decide) (by decide) (by kernel_rfl) (by kernel_rfl) (by kernel_rfl) (fun _ _ _ h => h) (Or.inr ⟨by kernel_rfl, rfl⟩) (HCS.out _ (Below.refl _ _).drew) (fun inv => ?_)
                try simp only [Act.put, List.setIfInBounds_toArray, List.set_cons_zero, List.set_cons_succ]
                refine wpU_take (i := 12) (v := undef) rfl inv (by kernel_rfl) (by kernel_rfl) (by decide) (by decide) (by kernel_rfl) (by kernel_rfl) (by kernel_rfl) (fun _ _ _ h => h) (Or.inr ⟨by kernel_rfl, rfl⟩) (HCS.out _ (Below.refl _ _).drew) (fun inv => ?_)
                try simp only [Act.put, List.setIfInBounds_toArray, List.set_cons_zero, List.set_cons_succ]
                refine wpU_take (i := 13) (v := undef) rfl inv (by kernel_rfl) (by kernel_rfl) (by decide) (by decide) (by kernel_rfl) (by kernel_rfl) (by kernel_rfl) (fun _ _ _ h => h) (Or.inr ⟨by kernel_rfl, rfl⟩) (HCS.out _ (Below.refl _ _).drew) (fun inv => ?_)
                try simp only [Act.put, List.setIfInBounds_toArray, List.set_cons_zero, List.set_cons_succ]
                refine wpU_take (i := 14) (v := undef) rfl inv (by kernel_rfl) (by kernel_rfl) (by decide) (by decide) (by kernel_rfl) (by kernel_rfl) (by kernel_rfl) (fun _ _ _ h => h) (Or.inr ⟨by kernel_rfl, rfl⟩) (HCS.out _ (Below.refl _ _).drew) (fun inv => ?_)
                try simp only [Act.put, List.setIfInBounds_toArray, List.set_cons_zero, List.set_cons_succ]
                refine wpU_take (i := 15) (v := undef) rfl inv (by kernel_rfl) (by kernel_rfl) (by decide) (by decide) (by kernel_rfl) (by kernel_rfl) (by kernel_rfl) (fun _ _ _ h => h) (Or.inr ⟨by kernel_rfl, rfl⟩) (HCS.out _ (Below.refl _ _).drew) (fun inv => ?_)
                try simp only [Act.put, List.setIfInBounds_toArray, List.set_cons_zero, List.set_cons_succ]
                refine wpU_take (i := 16) (v := undef) rfl inv (by kernel_rfl) (by kernel_rfl) (by decide) (by decide) (by kernel_rfl) (by kernel_rfl) (by kernel_rfl) (fun _ _ _ h => h) (Or.inr ⟨by kernel_rfl, rfl⟩) (HCS.out _ (Below.refl _ _).drew) (fun inv => ?_)
                try simp only [Act.put, List.setIfInBounds_toArray, List.set_cons_zero, List.set_cons_succ]
                refine wpU_take (i := 17) (v := undef) rfl inv (by kernel_rfl) (by kernel_rfl) (by decide) (by decide) (by kernel_rfl) (by kernel_rfl) (by kernel_rfl) (fun _ _ _ h => h) (Or.inr ⟨by kernel_rfl, rfl⟩) (HCS.out _ (Below.refl _ _).drew) (fun inv => ?_)
                try simp only [Act.put, List.setIfInBounds_toArray, List.set_cons_zero, List.set_cons_succ]
                refine wpU_take (i := 18) (v := undef) rfl inv (by kernel_rfl) (by kernel_rfl) (by decide) (by decide) (by kernel_rfl) (by kernel_rfl) (by kernel_rfl) (fun _ _ _ h => h) (Or.inr ⟨by kernel_rfl, rfl⟩) (HCS.out _ (Below.refl _ _).drew) (fun inv => ?_)
                try simp only [Act.put, List.setIfInBounds_toArray, List.set_cons_zero, List.set_cons_succ]
                refine wpU_take (i := 19) (v := undef) rfl inv (by kernel_rfl) (by kernel_rfl) (by decide) (by decide) (by kernel_rfl) (by kernel_rfl) (by kernel_rfl) (fun _ _ _ h => h) (Or.inr ⟨by kernel_rfl, rfl⟩) (HCS.out _ (Below.refl _ _).drew) (fun inv => ?_)
                try simp only [Act.put, List.setIfInBounds_toArray, List.set_cons_zero, List.set_cons_succ]
                refine wpU_take (i := 20) (v := undef) rfl inv (by kernel_rfl) (by kernel_rfl) (by decide) (by decide) (by kernel_rfl) (by kernel_rfl) (by kernel_rfl) (fun _ _ _ h => h) (Or.inr ⟨by kernel_rfl, rfl⟩) (HCS.out _ (Below.refl _ _).drew) (fun inv => ?_)
                try simp only [Act.put, List.setIfInBounds_toArray, List.set_cons_zero, List.set_cons_succ]
                refine wpU_take (i := 21) (v := undef) rfl inv (by kernel_rfl) (by kernel_rfl) (by decide) (by decide) (by kernel_rfl) (by kernel_rfl) (by kernel_rfl) (fun _ _ _ h => h) (Or.inr ⟨by kernel_rfl, rfl⟩) (HCS.out _ (Below.refl _ _).drew) (fun inv => ?_)
                try simp only [Act.put, List.setIfInBounds_toArray, List.set_cons_zero, List.set_cons_succ]
                refine wpU_take (i := 22) (v := undef) rfl inv (by kernel_rfl) (by kernel_rfl) (by decide) (by decide) (by kernel_rfl) (by kernel_rfl) (by kernel_rfl) (fun _ _ _ h => h) (Or.inr ⟨by kernel_rfl, rfl⟩) (HCS.out _ (Below.refl _ _).drew) (fun inv => ?_)
                try simp only [Act.put, List.setIfInBounds_toArray, List.set_cons_zero, List.set_cons_succ]
                refine wpU_take (i := 23) (v := undef) rfl inv (by kernel_rfl) (by kernel_rfl) (by decide) (by decide) (by kernel_rfl) (by kernel_rfl) (by kernel_rfl) (fun _ _ _ h => h) (Or.inr ⟨by kernel_rfl, rfl⟩) (HCS.out _ (Below.refl _ _).drew) (fun inv => ?_)
                try simp only [Act.put, List.setIfInBounds_toArray, List.set_cons_zero, List.set_cons_succ]
                refine wpU_take (i := 24) (v := undef) rfl inv (by kernel_rfl) (by kernel_rfl) (by decide) (by decide) (by kernel_rfl) (by kernel_rfl) (by kernel_rfl) (fun _ _ _ h => h) (Or.inr ⟨by kernel_rfl, rfl⟩) (HCS.out _ (Below.refl _ _).drew) (fun inv => ?_)
                try simp only [Act.put, List.setIfInBounds_toArray, List.set_cons_zero, List.set_cons_succ]
                refine wpU_take (i := 25) (v := undef) rfl inv (by kernel_rfl) (by kernel_rfl) (by decide) (by decide) (by kernel_rfl) (by kernel_rfl) (by kernel_rfl) (fun _ _ _ h => h) (Or.inr ⟨by kernel_rfl, rfl⟩) (HCS.out _ (Below.refl _ _).drew) (fun inv => ?_)
                try simp only [Act.put, List.setIfInBounds_toArray, List.set_cons_zero, List.set_cons_succ]
                refine wpU_take (i := 26) (v := undef) rfl inv (by kernel_rfl) (by kernel_rfl) (by decide) (by decide) (by kernel_rfl) (by kernel_rfl) (by kernel_rfl) (fun _ _ _ h => h) (Or.inr ⟨by kernel_rfl, rfl⟩) (HCS.out _ (Below.refl _ _).drew) (fun inv => ?_)
                try simp only [Act.put, List.setIfInBounds_toArray, List.set_cons_zero, List.set_cons_succ]
                refine wpU_take (i := 27) (v := undef) rfl inv (by kernel_rfl) (by kernel_rfl) (by decide) (by decide) (by kernel_rfl) (by kernel_rfl) (by kernel_rfl) (fun _ _ _ h => h) (Or.inr ⟨by kernel_rfl, rfl⟩) (HCS.out _ (Below.refl _ _).drew) (fun inv => ?_)
                try simp only [Act.put, List.setIfInBounds_toArray, List.set_cons_zero, List.set_cons_succ]
                refine wpU_one (i := 28) (by kernel_rfl) rfl (fun K hK => ?_)
                go_simp
                refine hK.out _ _ (fun h => absurd (show true = false from h) (by decide)) ?_
                clear hK K
                try simp only [Act.put, List.setIfInBounds_toArray, List.set_cons_zero, List.set_cons_succ]
                refine wpU_one (i := 29) (by kernel_rfl) rfl (fun K hK => ?_)
                go_simp
                refine hK.out _ _ (fun h => absurd (show true = false from h) (by decide)) ?_
                clear hK K
                try simp only [Act.put, List.setIfInBounds_toArray, List.set_cons_zero, List.set_cons_succ]
                refine wpU_done (by kernel_rfl) ?_ _
                go_wp2_with fail
                go_meet
                exact ⟨rfl, HBD⟩
              | some u =>
                have hu2 := (HWI.out la u HOU.out).2.2.1
                have hr := or_less3 (w := w) (u := u) (by rw [HWL.out]; exact hw2) hu2
                have hbe : lessB (some (tv w)) (some (tv u)) = bt := HBE.out
                simp only [Option.isSome] at HCS
                simp only [Option.getD_some] at HUL HU4
                rw [hbe, HWL.out, HUL.out] at hr
                obtain ⟨q1, HQ1⟩ := nameIt (cmp3 (wl : Int) (ul : Int))
                obtain ⟨q2, HQ2⟩ := nameIt (cmpL w u)
                rw [HQ1.out, HQ2.out] at hr
                have HRR := Lib.hid hr
                clear hr hbe hu2
                refine wp_region_U (S := (fun w' => w'.cell? ⟨b9, 0, none⟩ = some (.int .i64 (la : Int)) ∧ w'.cell? ⟨pk, la, none⟩ = some (.bool true) ∧ w'.cell? ⟨po, la, none⟩ = some (.slice ao ul ko))) 26 (by kernel_rfl) (fun inv => ?_)
                refine wpU_take (i := 0) (v := .bool true) rfl inv (by kernel_rfl) (by kernel_rfl) (by decide) (by decide) (by kernel_rfl) (by kernel_rfl) (by kernel_rfl) (fun _ _ _ h => h) (Or.inl ⟨by kernel_rfl, fun w' hw' => ?_⟩) (HCS.out _ (Below.refl _ _).drew) (fun inv => ?_)
                · obtain ⟨h0, h1, h2⟩ := hw'
                  go_simp
                try simp only [Act.put, List.setIfInBounds_toArray, List.set_cons_zero, List.set_cons_succ]
                refine wpU_take (i := 1) (v := .bool true) rfl inv (by kernel_rfl) (by kernel_rfl) (by decide) (by decide) (by kernel_rfl) (by kernel_rfl) (by kernel_rfl) (fun _ _ _ h => h) (Or.inl ⟨by kernel_rfl, fun w' hw' => ?_⟩) (HCS.out _ (Below.refl _ _).drew) (fun inv => ?_)
                · obtain ⟨h0, h1, h2⟩ := hw'
                  go_simp
                try simp only [Act.put, List.setIfInBounds_toArray, List.set_cons_zero, List.set_cons_succ]
                refine wpU_take (i := 2) (v := .slice (some ⟨pk, 0, none⟩) N N) rfl inv (by kernel_rfl) (by kernel_rfl) (by decide) (by decide) (by kernel_rfl) (by kernel_rfl) (by kernel_rfl) (fun _ _ _ h => h) (Or.inl ⟨by kernel_rfl, fun w' hw' => ?_⟩) (HCS.out _ (Below.refl _ _).drew) (fun inv => ?_)
                · obtain ⟨h0, h1, h2⟩ := hw'
                  go_simp
                try simp only [Act.put, List.setIfInBounds_toArray, List.set_cons_zero, List.set_cons_succ]
                refine wpU_take (i := 3) (v := .pointer (some ⟨b9, 0, none⟩)) rfl inv (by kernel_rfl) (by kernel_rfl) (by decide) (by decide) (by kernel_rfl) (by kernel_rfl) (by kernel_rfl) (fun _ _ _ h => h) (Or.inl ⟨by kernel_rfl, fun w' hw' => ?_⟩) (HCS.out _ (Below.refl _ _).drew) (fun inv => ?_)
                · obtain ⟨h0, h1, h2⟩ := hw'
                  go_simp
                try simp only [Act.put, List.setIfInBounds_toArray, List.set_cons_zero, List.set_cons_succ]
                refine wpU_take (i := 4) (v := .int .i64 (la : Int)) rfl inv (by kernel_rfl) (by kernel_rfl) (by decide) (by decide) (by kernel_rfl) (by kernel_rfl) (by kernel_rfl) (fun _ _ _ h => h) (Or.inl ⟨by kernel_rfl, fun w' hw' => ?_⟩) (HCS.out _ (Below.refl _ _).drew) (fun inv => ?_)
                · obtain ⟨h0, h1, h2⟩ := hw'
                  go_simp
                try simp only [Act.put, List.setIfInBounds_toArray, List.set_cons_zero, List.set_cons_succ]
                refine wpU_take (i := 5) (v := .pointer (some ⟨pk, la, none⟩)) rfl inv (by kernel_rfl) (by kernel_rfl) (by decide) (by decide) (by kernel_rfl) (by kernel_rfl) (by kernel_rfl) (fun _ _ _ h => h) (Or.inl ⟨by kernel_rfl, fun w' hw' => ?_⟩) (HCS.out _ (Below.refl _ _).drew) (fun inv => ?_)
                · obtain ⟨h0, h1, h2⟩ := hw'
                  go_simp
                try simp only [Act.put, List.setIfInBounds_toArray, List.set_cons_zero, List.set_cons_succ]
                refine wpU_take (i := 6) (v := .bool true) rfl inv (by kernel_rfl) (by kernel_rfl) (by decide) (by decide) (by kernel_rfl) (by kernel_rfl) (by kernel_rfl) (fun _ _ _ h => h) (Or.inl ⟨by kernel_rfl, fun w' hw' => ?_⟩) (HCS.out _ (Below.refl _ _).drew) (fun inv => ?_)
                · obtain ⟨h0, h1, h2⟩ := hw'
                  go_simp
                try simp only [Act.put, List.setIfInBounds_toArray, List.set_cons_zero, List.set_cons_succ]
                refine wpU_take (i := 7) (v := .bool false) rfl inv (by kernel_rfl) (by kernel_rfl) (by decide) (by decide) (by kernel_rfl) (by kernel_rfl) (by kernel_rfl) (fun _ _ _ h => h) (Or.inl ⟨by kernel_rfl, fun w' hw' => ?_⟩) (HCS.out _ (Below.refl _ _).drew) (fun inv => ?_)
                · obtain ⟨h0, h1, h2⟩ := hw'
                  go_simp
                try simp only [Act.put, List.setIfInBounds_toArray, List.set_cons_zero, List.set_cons_succ]
                refine wpU_take (i := 8) (v := .bool false) rfl inv (by kernel_rfl) (by kernel_rfl) (by decide) (by decide) (by kernel_rfl) (by kernel_rfl) (by kernel_rfl) (fun _ _ _ h => h) (Or.inl ⟨by kernel_rfl, fun w' hw' => ?_⟩) (HCS.out _ (Below.refl _ _).drew) (fun inv => ?_)
                · obtain ⟨h0, h1, h2⟩ := hw'
                  go_simp
                try simp only [Act.put, List.setIfInBounds_toArray, List.set_cons_zero, List.set_cons_succ]
                refine wpU_take (i := 9) (v := .slice ta wl tkk) rfl inv (by kernel_rfl) (by kernel_rfl) (by decide) (by decide) (by kernel_rfl) (by kernel_rfl) (by kernel_rfl) (fun _ _ _ h => h) (Or.inl ⟨by kernel_rfl, fun w' hw' => ?_⟩) (HCS.out _ (Below.refl _ _).drew) (fun inv => ?_)
                · obtain ⟨h0, h1, h2⟩ := hw'
                  go_simp
                try simp only [Act.put, List.setIfInBounds_toArray, List.set_cons_zero, List.set_cons_succ]
                refine wpU_take (i := 10) (v := .int .i64 (wl : Nat)) rfl inv (by kernel_rfl) (by kernel_rfl) (by decide) (by decide) (by kernel_rfl) (by kernel_rfl) (by kernel_rfl) (fun _ _ _ h => h) (Or.inl ⟨by kernel_rfl, fun w' hw' => ?_⟩) (HCS.out _ (Below.refl _ _).drew) (fun inv => ?_)
                · obtain ⟨h0, h1, h2⟩ := hw'
                  go_simp
                try simp only [Act.put, List.setIfInBounds_toArray, List.set_cons_zero, List.set_cons_succ]
                refine wpU_take (i := 11) (v := .slice (some ⟨po, 0, none⟩) N N) rfl inv (by kernel_rfl) (by kernel_rfl) (by decide) (by decide) (by kernel_rfl) (by kernel_rfl) (by kernel_rfl) (fun _ _ _ h => h) (Or.inl ⟨by kernel_rfl, fun w' hw' => ?_⟩) (HCS.out _ (Below.refl _ _).drew) (fun inv => ?_)
                · obtain ⟨h0, h1, h2⟩ := hw'
                  go_simp
                try simp only [Act.put, List.setIfInBounds_toArray, List.set_cons_zero, List.set_cons_succ]
                refine wpU_take (i := 12) (v := .pointer (some ⟨b9, 0, none⟩)) rfl inv (by kernel_rfl) (by kernel_rfl) (by decide) (by decide) (by kernel_rfl) (by kernel_rfl) (by kernel_rfl) (fun _ _ _ h => h) (Or.inl ⟨by kernel_rfl, fun w' hw' => ?_⟩) (HCS.out _ (Below.refl _ _).drew) (fun inv => ?_)
                · obtain ⟨h0, h1, h2⟩ := hw'
                  go_simp
                try simp only [Act.put, List.setIfInBounds_toArray, List.set_cons_zero, List.set_cons_succ]
                refine wpU_take (i := 13) (v := .int .i64 (la : Int)) rfl inv (by kernel_rfl) (by kernel_rfl) (by decide) (by decide) (by kernel_rfl) (by kernel_rfl) (by kernel_rfl) (fun _ _ _ h => h) (Or.inl ⟨by kernel_rfl, fun w' hw' => ?_⟩) (HCS.out _ (Below.refl _ _).drew) (fun inv => ?_)
                · obtain ⟨h0, h1, h2⟩ := hw'
                  go_simp
                try simp only [Act.put, List.setIfInBounds_toArray, List.set_cons_zero, List.set_cons_succ]
                refine wpU_take (i := 14) (v := .pointer (some ⟨po, la, none⟩)) rfl inv (by kernel_rfl) (by kernel_rfl) (by decide) (by decide) (by kernel_rfl) (by kernel_rfl) (by kernel_rfl) (fun _ _ _ h => h) (Or.inl ⟨by kernel_rfl, fun w' hw' => ?_⟩) (HCS.out _ (Below.refl _ _).drew) (fun inv => ?_)
                · obtain ⟨h0, h1, h2⟩ := hw'
                  go_simp
                try simp only [Act.put, List.setIfInBounds_toArray, List.set_cons_zero, List.set_cons_succ]
                refine wpU_take (i := 15) (v := .slice ao ul ko) rfl inv (by kernel_rfl) (by kernel_rfl) (by decide) (by decide) (by kernel_rfl) (by kernel_rfl) (by kernel_rfl) (fun _ _ _ h => h) (Or.inl ⟨by kernel_rfl, fun w' hw' => ?_⟩) (HCS.out _ (Below.refl _ _).drew) (fun inv => ?_)
                · obtain ⟨h0, h1, h2⟩ := hw'
                  go_simp
                try simp only [Act.put, List.setIfInBounds_toArray, List.set_cons_zero, List.set_cons_succ]
                refine wpU_take (i := 16) (v := .int .i64 (ul : Nat)) rfl inv (by kernel_rfl) (by kernel_rfl) (by decide) (by decide) (by kernel_rfl) (by kernel_rfl) (by kernel_rfl) (fun _ _ _ h => h) (Or.inl ⟨by kernel_rfl, fun w' hw' => ?_⟩) (HCS.out _ (Below.refl _ _).drew) (fun inv => ?_)
                · obtain ⟨h0, h1, h2⟩ := hw'
                  go_simp
                try simp only [Act.put, List.setIfInBounds_toArray, List.set_cons_zero, List.set_cons_succ]
                refine wpU_take (i := 18) (v := .slice ta wl tkk) rfl inv (by kernel_rfl) (by kernel_rfl) (by decide) (by decide) (by kernel_rfl) (by kernel_rfl) (by kernel_rfl) (fun _ _ _ h => h) (Or.inl ⟨by kernel_rfl, fun w' hw' => ?_⟩) (HCS.out _ (Below.refl _ _).drew) (fun inv => ?_)
                · obtain ⟨h0, h1, h2⟩ := hw'
                  go_simp
                try simp only [Act.put, List.setIfInBounds_toArray, List.set_cons_zero, List.set_cons_succ]
                refine wpU_take (i := 19) (v := .slice (some ⟨po, 0, none⟩) N N) rfl inv (by kernel_rfl) (by kernel_rfl) (by decide) (by decide) (by kernel_rfl) (by kernel_rfl) (by kernel_rfl) (fun _ _ _ h => h) (Or.inl ⟨by kernel_rfl, fun w' hw' => ?_⟩) (HCS.out _ (Below.refl _ _).drew) (fun inv => ?_)
                · obtain ⟨h0, h1, h2⟩ := hw'
                  go_simp
                try simp only [Act.put, List.setIfInBounds_toArray, List.set_cons_zero, List.set_cons_succ]
                refine wpU_take (i := 20) (v := .pointer (some ⟨b9, 0, none⟩)) rfl inv (by kernel_rfl) (by kernel_rfl) (by decide) (by decide) (by kernel_rfl) (by kernel_rfl) (by kernel_rfl) (fun _ _ _ h => h) (Or.inl ⟨by kernel_rfl, fun w' hw' => ?_⟩) (HCS.out _ (Below.refl _ _).drew) (fun inv => ?_)
                · obtain ⟨h0, h1, h2⟩ := hw'
                  go_simp
                try simp only [Act.put, List.setIfInBounds_toArray, List.set_cons_zero, List.set_cons_succ]
                refine wpU_take (i := 21) (v := .int .i64 (la : Int)) rfl inv (by kernel_rfl) (by kernel_rfl) (by decide) (by decide) (by kernel_rfl) (by kernel_rfl) (by kernel_rfl) (fun _ _ _ h => h) (Or.inl ⟨by kernel_rfl, fun w' hw' => ?_⟩) (HCS.out _ (Below.refl _ _).drew) (fun inv => ?_)
                · obtain ⟨h0, h1, h2⟩ := hw'
                  go_simp
                try simp only [Act.put, List.setIfInBounds_toArray, List.set_cons_zero, List.set_cons_succ]
                refine wpU_take (i := 22) (v := .pointer (some ⟨po, la, none⟩)) rfl inv (by kernel_rfl) (by kernel_rfl) (by decide) (by decide) (by kernel_rfl) (by kernel_rfl) (by kernel_rfl) (fun _ _ _ h => h) (Or.inl ⟨by kernel_rfl, fun w' hw' => ?_⟩) (HCS.out _ (Below.refl _ _).drew) (fun inv => ?_)
                · obtain ⟨h0, h1, h2⟩ := hw'
                  go_simp
                try simp only [Act.put, List.setIfInBounds_toArray, List.set_cons_zero, List.set_cons_succ]
                refine wpU_take (i := 23) (v := .slice ao ul ko) rfl inv (by kernel_rfl) (by kernel_rfl) (by decide) (by decide) (by kernel_rfl) (by kernel_rfl) (by kernel_rfl) (fun _ _ _ h => h) (Or.inl ⟨by kernel_rfl, fun w' hw' => ?_⟩) (HCS.out _ (Below.refl _ _).drew) (fun inv => ?_)
                · obtain ⟨h0, h1, h2⟩ := hw'
                  go_simp
                try simp only [Act.put, List.setIfInBounds_toArray, List.set_cons_zero, List.set_cons_succ]
                refine wpU_one (i := 17) (by kernel_rfl) rfl (fun K hK => ?_)
                replace inv := inv_setc (i := 17) inv (by kernel_rfl) (by decide)
                go_simp
                refine (compareInt _ _ _).mono ?_
                rintro e w1 ⟨rfl, rfl⟩
                rw [HQ1.out]
                refine hK.out _ _ (fun _ => (HCS.out _ (Below.refl _ _).drew)) ?_
                clear hK K
                try simp only [Act.put, List.setIfInBounds_toArray, List.set_cons_zero, List.set_cons_succ]
                refine wpU_one (i := 24) (by kernel_rfl) rfl (fun K hK => ?_)
                replace inv := inv_setc (i := 24) inv (by kernel_rfl) (by decide)
                go_simp
                refine (compareInts _ _ w u _ (HSW.out.keep (Below.refl _ _).drew) (HU4.out.keep (Below.refl _ _).drew)).mono ?_
                rintro e w1 ⟨rfl, rfl⟩
                rw [HQ2.out]
                refine hK.out _ _ (fun _ => (HCS.out _ (Below.refl _ _).drew)) ?_
                clear hK K
                try simp only [Act.put, List.setIfInBounds_toArray, List.set_cons_zero, List.set_cons_succ]
                refine wpU_one (i := 25) (by kernel_rfl) rfl (fun K hK => ?_)
                replace inv := inv_setc (i := 25) inv (by kernel_rfl) (by decide)
                go_simp
                have HBG : Hid (Below w4.heap.size w4 (w4.drew.alloc (.cells #[.int .i64 q1, .int .i64 q2] 3))) := (Below.refl w4.heap.size w4).drew.alloc (Nat.le_refl _) _
                refine hK.out _ _ (fun _ => HCS.out _ HBG.out) ?_
                clear hK K
                try simp only [Act.put, List.setIfInBounds_toArray, List.set_cons_zero, List.set_cons_succ]
                refine wpU_one (i := 26) (by kernel_rfl) rfl (fun K hK => ?_)
                go_simp
                refine (orInt _ [q1, q2] _ (sl_lit (w := w4.drew) (v := #[.int .i64 q1, .int .i64 q2]) rfl (of_decide_eq_true rfl))).mono ?_
                rintro e w1 ⟨rfl, rfl⟩
                refine hK.out _ _ (fun h => absurd (show true = false from h) (by decide)) ?_
                clear hK K
                try simp only [Act.put, List.setIfInBounds_toArray, List.set_cons_zero, List.set_cons_succ]
                refine wpU_one (i := 27) (by kernel_rfl) rfl (fun K hK => ?_)
                go_simp
                refine hK.out _ _ (fun h => absurd (show true = false from h) (by decide)) ?_
                clear hK K
                try simp only [Act.put, List.setIfInBounds_toArray, List.set_cons_zero, List.set_cons_succ]
                refine wpU_one (i := 28) (by kernel_rfl) rfl (fun K hK => ?_)
                go_simp
                refine hK.out _ _ (fun h => absurd (show true = false from h) (by decide)) ?_
                clear hK K
                try simp only [Act.put, List.setIfInBounds_toArray, List.set_cons_zero, List.set_cons_succ]
                refine wpU_one (i := 29) (by kernel_rfl) rfl (fun K hK => ?_)
                go_simp
                refine hK.out _ _ (fun h => absurd (show true = false from h) (by decide)) ?_
                clear hK K
                try simp only [Act.put, List.setIfInBounds_toArray, List.set_cons_zero, List.set_cons_succ]
                refine wpU_done (by kernel_rfl) ?_ _
                go_wp2_with fail
                go_meet
                exact ⟨by rw [← HRR.out], HBG⟩
          case rest =>
          obtain ⟨rfl, HB45⟩ := hcut
          obtain ⟨w5, HW5⟩ := nameIt wc
          rw [HW5.out] at HB45 ⊢
          have HWT5 := Lib.hid (HWT4.out.keep HB45.out)
          have HRB5 := Lib.hid (bx_keep HRB4.out HB45.out)
          clear HW5 HCS HU4 HKC HOC
          cases bt with
          | false =>
            have HWT6 : Hid (WT W #[.int .i64 gt, .int .i64 (N : Int), .int .i64 gs, .slice (some ⟨gb0, go0, none⟩) rl rcap] N po pk (fun k => pk < k) Tw w5) := HWT5.out.mono (fun k hk _ => hk.1)
            have HDN6 : Hid (b = false → DoneW g.rules X (a + 1) Tw) := fun e => HDNX.out HBTW.out (HDN.out e)
            go_wp2_with fail
            go_roundg (rl - (a + 1))
            case measure => omega
            case rel => exact ⟨a + 1, b, Tw, by omega, by omega, rfl, by go_num, HWT6, HWI, HML, HLT, HDN6⟩
          | true =>
            cases o with
            | none => exact absurd (HBE.out.symm.trans less_none) (by decide)
            | some w =>
              obtain ⟨how4, hw2⟩ := HOWO.out w rfl
              have hgd := rw_good HKK.out HWI.out hrm HRWO.out
              have HBD : Hid (Below w5.heap.size w5 w5.drew) := (Below.refl w5.heap.size w5).drew
              have HWTD := Lib.hid (HWT5.out.keep HBD.out)
              have HOWD := Lib.hid (own_keep (own_keep how4 HB45.out) HBD.out)
              have HRBD := Lib.hid (bx_keep HRB5.out HBD.out)
              obtain ⟨ta, tkk, rfl, -, -⟩ := own_len how4
              have hb0b := HB0B.out
              have HPKW := HPOW.out.2
              have HRDW : Hid (Rd (fun k => pk < k) w5.drew (D.ints w) [.slice ta w.length tkk]) := (rd_own rfl HOWD.out).mono (fun k hk _ => by have h2 : B0 ≤ k := hk; show pk < k; omega)
              have hset := (HWTD.out.mono (P' := fun k => pk < k) (fun k hk _ => hk.1)).set hlaN HRDW.out (fun h => by have h2 : pk < po := h; omega) (Nat.lt_irrefl _)
              have HSET := Lib.hid hset
              have HWI6 : Hid (WInv g.rules N tm X (updW Tw la w)) := by
                have := w_upd HKK.out HLL.out HWI.out hrm HRWO.out
                rw [HLA.out] at this
                exact this
              have hmu : muW tm N (updW Tw la w) < muW tm N Tw := by
                refine muW_lt hlaN hw2 hgd.2.2.1 HWI.out ?_
                rw [HOU.out]; exact HBE.out
              have HMU : Hid (muW tm N (updW Tw la w) < m0) := Nat.lt_of_lt_of_le hmu HML.out
              obtain ⟨uF, hrow, -⟩ := HWTD.out.out
              have v0 := hrow.cell hlaN
              have f0 := hrow.free la
              obtain ⟨wl, HWL⟩ := nameIt w.length
              rw [HWL.out] at HSET ⊢
              obtain ⟨w6, HW6⟩ := nameIt (w5.setCell ⟨po, la, none⟩ (.slice ta wl tkk)).drew
              have e6 : w5.drew.setCell ⟨po, la, none⟩ (.slice ta wl tkk) = w6 := by rw [← HW6.out]; rfl
              have hkn6 : Vrow 4 pk N (fun A => .bool (Tw A).isSome) w6 := by rw [← e6]; exact HWTD.out.kn.other (by omega) _ _
              have v1 := hkn6.cell hlaN
              have f1 := hkn6.free la
              have HC9 : Hid (w5.drew.cell? ⟨b9, 0, none⟩ = some (.int .i64 (la : Int))) := (bx_cells2 HRBD.out).1
              have HC96 : Hid (w6.cell? ⟨b9, 0, none⟩ = some (.int .i64 (la : Int))) := by
                show _ = _
                rw [← e6]
                exact cell_grown HC9.out (grown_cell _ _ _) (by have := HPKL.out; simp; omega)
              rw [e6] at HSET
              clear how4 hgd hset hmu hrow hkn6 hb0b e6
              go_upto_region 21 with fail
              refine wp_region_U (S := (fun w' => w'.cell? ⟨b9, 0, none⟩ = some (.int .i64 (la : Int)))) 10 (by kernel_rfl) (fun inv => ?_)
              refine wpU_take (i := 0) (v := .slice (some ⟨po, 0, none⟩) N N) rfl inv (by kernel_rfl) (by kernel_rfl) (by decide) (by decide) (by kernel_rfl) (by kernel_rfl) (by kernel_rfl) (fun _ _ _ h => h) (Or.inl ⟨by kernel_rfl, fun w' hw' => ?_⟩) HC9.out (fun inv => ?_)
              · obtain h0 := hw'
                go_simp
              try simp only [Act.put, List.setIfInBounds_toArray, List.set_cons_zero, List.set_cons_succ]
              refine wpU_take (i := 1) (v := .pointer (some ⟨b9, 0, none⟩)) rfl inv (by kernel_rfl) (by kernel_rfl) (by decide) (by decide) (by kernel_rfl) (by kernel_rfl) (by kernel_rfl) (fun _ _ _ h => h) (Or.inl ⟨by kernel_rfl, fun w' hw' => ?_⟩) HC9.out (fun inv => ?_)
              · obtain h0 := hw'
                go_simp
              try simp only [Act.put, List.setIfInBounds_toArray, List.set_cons_zero, List.set_cons_succ]
              refine wpU_take (i := 2) (v := .int .i64 (la : Int)) rfl inv (by kernel_rfl) (by kernel_rfl) (by decide) (by decide) (by kernel_rfl) (by kernel_rfl) (by kernel_rfl) (fun _ _ _ h => h) (Or.inl ⟨by kernel_rfl, fun w' hw' => ?_⟩) HC9.out (fun inv => ?_)
              · obtain h0 := hw'
                go_simp
              try simp only [Act.put, List.setIfInBounds_toArray, List.set_cons_zero, List.set_cons_succ]
              refine wpU_take (i := 3) (v := .slice (some ⟨pk, 0, none⟩) N N) rfl inv (by kernel_rfl) (by kernel_rfl) (by decide) (by decide) (by kernel_rfl) (by kernel_rfl) (by kernel_rfl) (fun _ _ _ h => h) (Or.inl ⟨by kernel_rfl, fun w' hw' => ?_⟩) HC9.out (fun inv => ?_)
              · obtain h0 := hw'
                go_simp
              try simp only [Act.put, List.setIfInBounds_toArray, List.set_cons_zero, List.set_cons_succ]
              refine wpU_take (i := 4) (v := .pointer (some ⟨b9, 0, none⟩)) rfl inv (by kernel_rfl) (by kernel_rfl) (by decide) (by decide) (by kernel_rfl) (by kernel_rfl) (by kernel_rfl) (fun _ _ _ h => h) (Or.inl ⟨by kernel_rfl, fun w' hw' => ?_⟩) HC9.out (fun inv => ?_)
              · obtain h0 := hw'
                go_simp
              try simp only [Act.put, List.setIfInBounds_toArray, List.set_cons_zero, List.set_cons_succ]
              refine wpU_take (i := 5) (v := .int .i64 (la : Int)) rfl inv (by kernel_rfl) (by kernel_rfl) (by decide) (by decide) (by kernel_rfl) (by kernel_rfl) (by kernel_rfl) (fun _ _ _ h => h) (Or.inl ⟨by kernel_rfl, fun w' hw' => ?_⟩) HC9.out (fun inv => ?_)
              · obtain h0 := hw'
                go_simp
              try simp only [Act.put, List.setIfInBounds_toArray, List.set_cons_zero, List.set_cons_succ]
              refine wpU_take (i := 6) (v := .slice ta wl tkk) rfl inv (by kernel_rfl) (by kernel_rfl) (by decide) (by decide) (by kernel_rfl) (by kernel_rfl) (by kernel_rfl) (fun _ _ _ h => h) (Or.inl ⟨by kernel_rfl, fun w' hw' => ?_⟩) HC9.out (fun inv => ?_)
              · obtain h0 := hw'
                go_simp
              try simp only [Act.put, List.setIfInBounds_toArray, List.set_cons_zero, List.set_cons_succ]
              refine wpU_take (i := 7) (v := .pointer (some ⟨po, la, none⟩)) rfl inv (by kernel_rfl) (by kernel_rfl) (by decide) (by decide) (by kernel_rfl) (by kernel_rfl) (by kernel_rfl) (fun _ _ _ h => h) (Or.inl ⟨by kernel_rfl, fun w' hw' => ?_⟩) HC9.out (fun inv => ?_)
              · obtain h0 := hw'
                go_simp
              try simp only [Act.put, List.setIfInBounds_toArray, List.set_cons_zero, List.set_cons_succ]
              refine wpU_one (i := 8) (by kernel_rfl) rfl (fun K hK => ?_)
              replace inv := inv_setc (i := 8) inv (by kernel_rfl) (by decide)
              go_simp
              rw [HW6.out]
              refine hK.out _ _ (fun _ => HC96.out) ?_
              clear hK K
              try simp only [Act.put, List.setIfInBounds_toArray, List.set_cons_zero, List.set_cons_succ]
              refine wpU_take (i := 9) (v := .pointer (some ⟨pk, la, none⟩)) rfl inv (by kernel_rfl) (by kernel_rfl) (by decide) (by decide) (by kernel_rfl) (by kernel_rfl) (by kernel_rfl) (fun _ _ _ h => h) (Or.inl ⟨by kernel_rfl, fun w' hw' => ?_⟩) HC96.out (fun inv => ?_)
              · obtain h0 := hw'
                go_simp
              try simp only [Act.put, List.setIfInBounds_toArray, List.set_cons_zero, List.set_cons_succ]
              refine wpU_one (i := 10) (by kernel_rfl) rfl (fun K hK => ?_)
              go_simp
              refine hK.out _ _ (fun h => absurd (show true = false from h) (by decide)) ?_
              clear hK K
              try simp only [Act.put, List.setIfInBounds_toArray, List.set_cons_zero, List.set_cons_succ]
              refine wpU_one (i := 11) (by kernel_rfl) rfl (fun K hK => ?_)
              go_simp
              refine hK.out _ _ (fun h => absurd (show true = false from h) (by decide)) ?_
              clear hK K
              try simp only [Act.put, List.setIfInBounds_toArray, List.set_cons_zero, List.set_cons_succ]
              refine wpU_done (by kernel_rfl) ?_ _
              go_wp2_with fail
              go_roundg (rl - (a + 1))
              case measure => omega
              case rel => exact ⟨a + 1, true, updW Tw la w, by omega, by omega, rfl, by go_num, HSET, HWI6, Nat.le_of_lt HMU.out, (fun _ => HMU.out), fun e => by cases e⟩
        · have hlt' : ¬ (a : Int) < (rl : Int) := by omega
          have hae : a = g.rules.length := by have := HRL.out; omega
          have HCL : Hid (b = false → ClosedW g.rules X Tw) := fun e r hr => HDN.out e r (by rw [hae, List.take_length]; exact hr)
          clear HDN hae
          cases b with
          | true =>
            have hml := HLT.out rfl
            go_wp2_with fail
            go_roundg (muW tm N Tw + 1)
            case measure => omega
            case rel => exact ⟨true, Tw, rfl, HWT, HWI, fun _ => Nat.le_refl _, fun e => by cases e⟩
          | false =>
            go_wp2_with fail
            go_roundg 0
            case measure => omega
            case rel => exact ⟨false, Tw, rfl, HWT, HWI, (fun e => by cases e), fun _ => HCL.out (by first | rfl | trivial)⟩
end Hl
end Go.Proofs.Ytjpmebppdcclbaa
