/- The contract of shrink.paths. -/
import Derived.Test.YtjehmleckcmilaaPartsWalk
import Derived.Test.YtjehmleckcmilaaSlicesTwo
import Derived.Deep.RegionHeld3
import Derived.Deep.DeepCutAuto
namespace Go.Proofs.Ytjehmleckcmilaa
open Go.RowKit

theorem elIntsR : ElemT Try.prog 49 22 1 24 := ElemT.mk' (z := .slice none 0 0) Try.underlying49 (by kernel_rfl) rfl (by decide)
theorem intsR_cells (l : List (List Int)) : ∀ d ∈ l.map D.ints, d.cells = 1 := by
  intro d hd
  simp at hd
  obtain ⟨p, _, rfl⟩ := hd
  rfl
def ListsPost (S : Nat → Prop) (l : List (List Int)) (w : World) (e : Ending) (w' : World) : Prop := ∃ v, e = .returned v ∧ Rd (fun k => S k ∨ w.heap.size ≤ k) w' (.sl (l.map D.ints)) [v] ∧ Below w.heap.size w w'
theorem cells3k {W w' : World} (hb : Below W.heap.size W w') {b1 : Nat} {T : TypeId} {a0 a1 a2 : Value} (h1 : W.heap[b1]? = some (.cells #[a0, a1, a2] T (0, 0))) :
    w'.cell? ⟨b1, 0, none⟩ = some a0 ∧ w'.cell? ⟨b1, 0 + 1, none⟩ = some a1 ∧ w'.cell? ⟨b1, 0 + 2, none⟩ = some a2 := bx_cells3 (bx_keep h1 hb)

/-- the paths of the first i kids -/
def apsTo (t : Tree) (p : List Int) (i : Nat) : List (List Int) := (([] :: apsL 0 (t.kids.take i)).map fun q => p ++ q)
theorem apsTo_next {t : Tree} {p : List Int} {i : Nat} (h : i < t.kids.length) : apsTo t p (i + 1) = apsTo t p i ++ (aps t.kids[i]).map fun q => (p ++ [(i : Int)]) ++ q := by
  unfold apsTo
  rw [apsL_take h]
  simp [Function.comp_def]
theorem apsTo_end {t : Tree} {p : List Int} {i : Nat} (h : t.kids.length ≤ i) : apsTo t p i = (aps t).map fun q => p ++ q := by
  unfold apsTo
  rw [aps_eq, List.take_of_length_le h]
theorem apsTo_len (t : Tree) (p : List Int) (i : Nat) : (apsTo t p i).length ≤ t.size := by
  unfold apsTo
  have := sizeL_take_le t.kids i
  rw [Tree.size_eq]
  simp [apsL_len]; omega

/-- behind a round: the row -/
def ApsMid (S : Nat → Prop) (w : World) (l : List D) (v : Value) (wx : World) : Prop :=
  RowD (fun k => S k ∨ w.heap.size ≤ k) w.heap.size 22 1 l v wx ∧ Below w.heap.size w wx
theorem ApsMid.form {S : Nat → Prop} {w : World} {l : List D} {v : Value} {wx : World} (h : ApsMid S w l v wx) : ∃ a cap, v = .slice a l.length cap ∧ l.length ≤ cap ∧ cap ≤ maxLen ∧ ∀ k, v.ownBlock = some k → w.heap.size ≤ k ∧ k < wx.heap.size := h.1.form
def apsD (t : Tree) (p : List Int) (i : Nat) : List D := (apsTo t p i).map D.ints
/-- a copy, its base lowered -/
def CopyPost (B np : Nat) (l : List Int) (w : World) (e : Ending) (w' : World) : Prop :=
  ∃ a cap, e = .returned (.slice a np cap) ∧ w'.ownsRow B 3 1 (.slice a np cap) np (ints l) ∧ Below w.heap.size w w'

set_option maxHeartbeats 4000000 in
set_option maxRecDepth 100000 in
theorem apsE : ∀ (m : Nat) (S : Nat → Prop) (t : Tree) (v : Value) (p : List Int) (ap : Option Addr) (cp : Nat) (w : World), t.size ≤ m → (∀ k, S k → k < w.heap.size) → Rd AnyB w (.sl (t.kids.map Tree.d)) [v] → Rd S w (D.ints p) [.slice ap p.length cp] → t.size + p.length ≤ 1000000 →
    Calls Try.prog 209 #[.agg #[.int .i64 t.rule, .int .i64 t.term, v], .slice ap p.length cp] w (ListsPost S ((aps t).map fun q => p ++ q) w) := by
  intro m
  induction m with
  | zero => intro S t v p ap cp w hm; have := t.size_pos; omega
  | succ m ih =>
  intro S t v p ap cp w hm hS hv hp hN
  obtain ⟨a, nk, cap, rfl⟩ := treeBox hv
  have HV := Lib.hid hv
  have HP := Lib.hid hp
  have IH := Lib.hid ih
  have HM := Lib.hid hm
  have HN := Lib.hid hN
  have HS := Lib.hid hS
  have HNK : Hid (t.kids.length = nk) := by show _ = _; have := hv.bounds.1; simpa using this.symm
  have hcap : nk ≤ 9223372036854775807 := by have := hv.bounds; unfold maxLen at this; omega
  have hpl : p.length ≤ 1000000 := by omega
  obtain ⟨r, HRr⟩ := nameIt t.rule
  obtain ⟨tm, HRt⟩ := nameIt t.term
  rw [HRr.out, HRt.out]
  obtain ⟨np, HNP⟩ := nameIt p.length
  rw [HNP.out] at HP hpl
  rw [HNP.out]
  obtain ⟨w0, HW0⟩ := nameIt ((w.alloc (.cells #[.int .i64 r, .int .i64 tm, .slice a nk cap] 43)).alloc (.cells #[.slice ap np cp] 22))
  have X0 : Hid (w0.heap[w.heap.size]? = some (.cells #[.int .i64 r, .int .i64 tm, .slice a nk cap] 43 (0, 0))) := by
    rw [← HW0.out]; exact bx_keep (bx_new _ _ _ rfl) ((Below.refl _ _).alloc (Nat.le_refl _) _)
  have HB0 : Hid (Below w.heap.size w w0) := by rw [← HW0.out]; exact ((Below.refl _ _).alloc (Nat.le_refl _) _).alloc (by simp) _
  have HR0 : Hid (ApsMid S w (apsD t p 0) (.slice (some ⟨w.heap.size + 1, 0, none⟩) 1 1) w0) := by
    refine ⟨⟨⟨[.slice ap np cp], by rw [← HW0.out]; simpa [apsD, apsTo, apsL] using own_lit (w := w.alloc (.cells #[.int .i64 r, .int .i64 tm, .slice a nk cap] 43)) (B := w.heap.size) (e := 22) (size := 1) (n := 1) (news := #[.slice ap np cp]) (g := w.heap.size + 1) (by simp) (by simp) rfl (by simp [maxLen]), ?_⟩, HB0.out.size⟩, HB0.out⟩
    simp only [apsD, apsTo, List.take_zero, apsL, List.map_cons, List.map_nil, List.append_nil]
    exact RdAll.one ((HP.out.below HB0.out).mono fun k hk _ => ⟨.inl hk, fun e => by have := HS.out k hk; simp [Value.ownBlock] at e; omega⟩)
  obtain ⟨x0, x1, x2⟩ := bx_cells3 X0.out
  clear hv ih hm hN hS hp
  go_enter Try.func209, Try.ntmps209
  go_upto_region 2 with fail
  rw [HW0.out]
  go_wp2_with fail
  go_loopg [5, 13] nk (fun gg v5 v13 wr => ∃ i : Nat, i ≤ nk ∧ nk - i ≤ gg ∧ v13 = .int .i64 i ∧ Hid (ApsMid S w (apsD t p i) v5 wr))
  case atStart => exact ⟨0, by omega, by omega, rfl, HR0⟩
  case round =>
    clear HR0 HB0 x0 x1 x2 X0 HW0
    obtain ⟨wo, rfl⟩ : ∃ wo : World, wo = wr := ⟨_, rfl⟩
    obtain ⟨i, hi, hg, rfl, HR⟩ := hrel
    obtain ⟨a3, c3, rfl, hc1, hc2, hc3⟩ := HR.out.form
    have HOL := Lib.hid hc3
    unfold maxLen at hc2
    clear hc3
    by_cases hlt : i < nk
    · have hlt' : (i : Int) < (nk : Int) := by omega
      have hik : i < t.kids.length := by rw [HNK.out]; exact hlt
      obtain ⟨b, off, v, hae, -, hbl, k0, k1, k2, hkid⟩ := HV.out.kid hik
      obtain ⟨av, nv, cv, rfl⟩ := treeBox hkid
      have e0 := (HR.out.2.cell (p := ⟨b, off + i * 3, none⟩) hbl).trans k0
      have e1 := (HR.out.2.cell (p := ⟨b, off + i * 3 + 1, none⟩) hbl).trans k1
      have e2 := (HR.out.2.cell (p := ⟨b, off + i * 3 + 2, none⟩) hbl).trans k2
      have hnk := sizeL_get hik
      have HT : Hid (apsD t p (i + 1) = apsD t p i ++ ((aps t.kids[i]).map fun q => (p ++ [(i : Int)]) ++ q).map D.ints) := by
        show _ = _
        unfold apsD
        rw [apsTo_next hik, List.map_append]
      have HTL : Hid ((apsD t p (i + 1)).length ≤ t.size) := by show _ ≤ _; unfold apsD; rw [List.length_map]; exact apsTo_len _ _ _
      have hms : t.kids[i].size ≤ m := by have h1 := HM.out; rw [Tree.size_eq] at h1; omega
      have hms2 : t.kids[i].size + (p ++ [(i : Int)]).length ≤ 1000000 := by have h1 := HN.out; rw [Tree.size_eq] at h1; simp; omega
      obtain ⟨x, HX⟩ := nameIt (t.kids[i]'hik)
      rw [HX.out] at e0 e1 hkid HT hms hms2
      obtain ⟨q0, HQ0⟩ := nameIt x.rule
      obtain ⟨q1, HQ1⟩ := nameIt x.term
      rw [HQ0.out] at e0
      rw [HQ1.out] at e1
      obtain ⟨w1, HW1⟩ := nameIt (wo.alloc (.cells #[.int .i64 q0, .int .i64 q1, .slice av nv cv] 43))
      have HB1 : Hid (Below wo.heap.size wo w1) := by rw [← HW1.out]; exact (Below.refl _ _).alloc (Nat.le_refl _) _
      have X1 : Hid (w1.heap[wo.heap.size]? = some (.cells #[.int .i64 q0, .int .i64 q1, .slice av nv cv] 43 (0, 0))) := by rw [← HW1.out]; exact bx_new _ _ _ rfl
      have HBW : Hid (Below w.heap.size w w1) := HR.out.2.trans (HB1.out.mono HR.out.2.size)
      have hlc := fun (W : World) (hb : Below w1.heap.size w1 W) (g c : Nat) (hg : g < W.heap.size) (hr : Rd (fun k => k = g) W (D.ints (p ++ [(i : Int)])) [.slice (some ⟨g, 0, none⟩) (p ++ [(i : Int)]).length c]) => IH.out (fun k => k = g) x _ (p ++ [(i : Int)]) (some ⟨g, 0, none⟩) c W hms (fun k hk => by omega) ((hkid.below HBW.out).below hb) hr hms2
      rw [HQ0.out, HQ1.out, List.length_append, List.length_singleton, HNP.out] at hlc
      have HLC := Lib.hid hlc
      have HCL : Hid (∀ (W : World) (hb : Below w1.heap.size w1 W), Calls Try.prog 103 #[.slice ap np cp] W (CopyPost w1.heap.size np p W)) := by
        intro W hb
        refine (clone_int _ p W (sl_rd ((HP.out.below HBW.out).below hb)) (by rw [HNP.out]; omega)).mono ?_
        rintro e w' ⟨a, c, rfl, ho, hb2⟩
        rw [HNP.out] at ho ⊢
        exact ⟨a, c, rfl, ho.mono hb.size, hb2⟩
      obtain ⟨L, HL⟩ := nameIt (apsD t p i)
      rw [HL.out] at HR HOL hc1 HT
      rw [HL.out]
      obtain ⟨C, HC⟩ := nameIt (((aps x).map fun q => (p ++ [(i : Int)]) ++ q).map D.ints)
      rw [HC.out] at HT
      have HCC : Hid (∀ d ∈ C, d.cells = 1) := by rw [← HC.out]; exact intsR_cells _
      have HLC : Hid (∀ (W : World) (hb : Below w1.heap.size w1 W) (g c : Nat) (hg : g < W.heap.size) (hr : Rd (fun k => k = g) W (D.ints (p ++ [(i : Int)])) [.slice (some ⟨g, 0, none⟩) (np + 1) c]), Calls Try.prog 209 #[.agg #[.int .i64 q0, .int .i64 q1, .slice av nv cv], .slice (some ⟨g, 0, none⟩) (np + 1) c] W fun e w' => ∃ v, e = .returned v ∧ Rd (fun k => k = g ∨ W.heap.size ≤ k) w' (.sl C) [v] ∧ Below W.heap.size W w') := by
        intro W hb g c hg hr
        rw [← HC.out]
        exact hlc W hb g c hg hr
      have hcl0 : 0 < C.length := by
        rw [← HC.out, aps_eq]; simp
      have hln : L.length + C.length ≤ 1000000 := by
        have h1 := HTL.out
        rw [HT.out] at h1
        have h2 := HN.out
        simp at h1 ⊢; omega
      obtain ⟨xs, ho1, ho2⟩ := (HR.out.1.keep HB1.out).own
      have HO1 := Lib.hid ho1
      have HO2 := Lib.hid ho2
      have hsz : w.heap.size ≤ wo.heap.size := HR.out.2.size
      have hszw : wo.heap.size < w1.heap.size := (Array.getElem?_eq_some_iff.1 X1.out).1
      obtain ⟨y0, y1, y2⟩ := bx_cells3 X1.out
      subst hae
      clear k0 k1 k2 hkid hlc hnk hms hms2 ho1 ho2
      go_upto_region 5 with fail
      rw [HW1.out]
      go_region_held3 (fun w' => w'.cell? ⟨wo.heap.size, 0, none⟩ = some (.int .i64 q0) ∧ w'.cell? ⟨wo.heap.size, 0 + 1, none⟩ = some (.int .i64 q1) ∧ w'.cell? ⟨wo.heap.size, 0 + 2, none⟩ = some (.slice av nv cv))
        (first | exact bx_cells3 HX5.out | exact cells3k HB4.out X1.out | exact cells3k HB3.out X1.out | exact cells3k (HB2.out.alloc HB2.out.size _) X1.out | exact cells3k HB2.out X1.out | exact cells3k ((Below.refl _ _).alloc (Nat.le_refl _) _).drew X1.out | exact cells3k (Below.refl _ _).drew X1.out | fail)
        (first
          | (go_at_call 103; (with_reducible refine (HCL.out _ (Below.refl _ _).drew).mono ?_); rintro e w2 ⟨a2, c2, rfl, hcl, hb2⟩; have HB2 : Hid (Below w1.heap.size w1 w2) := (Below.refl _ _).drew.trans hb2; have HC2 := Lib.hid hcl; have hsz2 := HB2.out.size; clear hcl hb2)
          | (go_at_call 103; (with_reducible refine (HCL.out _ ((Below.refl _ _).alloc (Nat.le_refl _) _).drew).mono ?_); rintro e w2 ⟨a2, c2, rfl, hcl, hb2⟩; have HB2 : Hid (Below w1.heap.size w1 w2) := ((Below.refl _ _).alloc (Nat.le_refl _) _).drew.trans (hb2.mono (by simp)); have XI : Hid (w2.heap[w1.heap.size]? = some (.cells #[.int .i64 (i : Int)] 3 (0, 0))) := bx_keep (w := (w1.alloc (.cells #[.int .i64 (i : Int)] 3)).drew) (bx_new w1 _ _ rfl) hb2; have HC2 := Lib.hid hcl; have hsz2 := HB2.out.size; clear hcl hb2)
          | (refine step_appB elInt (by rfl) _ _ (by rfl) (own_keep HC2.out ((Below.refl _ _).alloc (Nat.le_refl _) _)) (by rfl) (by rfl) (bx_new _ _ _ rfl) (by rfl) (by rfl) (by omega) (by unfold maxLen; omega) (by simp; omega) ?_; intro g3 c3' w3 ho3 hg3 hat3 hg3l; have HB3 : Hid (Below w1.heap.size w1 w3) := (HB2.out.alloc HB2.out.size _).grown hg3 (by simp; omega) (fun k e => (HC2.out.lt k e).1); have HRP : Hid (Rd (fun k => k = g3) w3 (D.ints (p ++ [(i : Int)])) [.slice (some ⟨g3, 0, none⟩) (np + 1) c3']) := rd_of_own ho3 ((rdAll_ints (p ++ [(i : Int)]) _).2 (by simp [ints])) (by have h := HNP.out; simp; omega) (fun k e => (by simp [Value.ownBlock] at e; exact e.symm)); have HG3 := Lib.hid (ho3.lt g3 rfl).1; clear ho3 hg3 hat3)
          | (refine step_appB elInt (by rfl) _ _ (by rfl) (HC2.out) (by rfl) (by rfl) (XI.out) (by rfl) (by rfl) (by omega) (by unfold maxLen; omega) (by omega) ?_; intro g3 c3' w3 ho3 hg3 hat3 hg3l; have HB3 : Hid (Below w1.heap.size w1 w3) := HB2.out.grown hg3 (by omega) (fun k e => (HC2.out.lt k e).1); have HRP : Hid (Rd (fun k => k = g3) w3 (D.ints (p ++ [(i : Int)])) [.slice (some ⟨g3, 0, none⟩) (np + 1) c3']) := rd_of_own ho3 ((rdAll_ints (p ++ [(i : Int)]) _).2 (by simp [ints])) (by have h := HNP.out; simp; omega) (fun k e => (by simp [Value.ownBlock] at e; exact e.symm)); have HG3 := Lib.hid (ho3.lt g3 rfl).1; clear ho3 hg3 hat3)
          | (go_at_call 209; (with_reducible refine (HLC.out _ HB3.out g3 c3' hg3l HRP.out).mono ?_); rintro e w4 ⟨v4, rfl, hr4, hb4⟩; have HB4 : Hid (Below w1.heap.size w1 w4) := HB3.out.trans (hb4.mono HB3.out.size); have HR4 := Lib.hid hr4; have hsz4 := hb4.size; obtain ⟨a4, c4, rfl, -, -⟩ := hr4.form; clear hr4 hb4)
          | (refine step_appD elIntsR (by rfl) _ _ (by rfl) (own_keep HO1.out HB4.out) (by rfl) HR4.out (by rfl) HCC.out hcl0 (by omega) (by unfold maxLen; omega) (by have := HB4.out.size; omega) ?_; intro g5 c5 w5 M5 hM5 ho5 hg5 hat5 hg5l; have HX5 : Hid (w5.heap[wo.heap.size]? = some (.cells #[.int .i64 q0, .int .i64 q1, .slice av nv cv] 43 (0, 0))) := (by show _ = _; rw [hg5.block _ (by have := HB4.out.size; omega) (fun e => by have := (HOL.out _ e.symm).2; omega)]; exact bx_keep X1.out HB4.out); have HM5 := Lib.hid hM5; have HO5 := Lib.hid ho5; have HG5 := Lib.hid hg5; have HA5 := Lib.hid hat5; have HB5 : Hid (Below w.heap.size w w5) := (HBW.out.trans (HB4.out.mono HBW.out.size)).grown hg5 (by have := HB4.out.size; omega) (fun k e => (HO1.out.lt k e).1); clear hM5 ho5 hg5 hat5)
          | fail)
      all_goals
        have HN' : Hid (ApsMid S w (L ++ C) (.slice (some ⟨g5, 0, none⟩) (L.length + C.length) c5) w5) := by
          refine ⟨RowD.step (own_keep HO1.out HB4.out) (HO2.out.below HB4.out) rfl HM5.out (fun k hk hlk => ?_) (by have := HB4.out.size; omega) HO5.out HG5.out (at_lies HA5.out), HB5.out⟩
          have hgg := HG3.out
          have h3 := HB3.out.size
          refine ⟨.inr ?_, fun e => ?_⟩
          · rcases hk with hk | hk <;> omega
          · have h2 := (HOL.out k e).2
            rcases hk with hk | hk <;> omega
        rw [← HT.out] at HN'
        go_wp2_with fail
        go_roundg (nk - (i + 1))
        case measure => omega
        case rel => exact ⟨i + 1, by omega, by omega, by go_num, HN'⟩
    · have hlt' : ¬ (i : Int) < (nk : Int) := by omega
      have HPE : Hid (((aps t).map fun q => p ++ q).map D.ints = apsD t p i) := by
        show _ = _
        unfold apsD
        rw [apsTo_end (by have := HNK.out; omega)]
      obtain ⟨L, HL⟩ := nameIt (apsD t p i)
      rw [HL.out] at HR HPE
      rw [HL.out]
      clear HOL hc1
      go_wp2_with fail
      go_ret
      refine ⟨_, rfl, ?_, HR.out.2⟩
      rw [HPE.out]
      exact HR.out.1.rd.mono fun k hk _ => by rcases hk with (hk | hk) | hk <;> simp [hk]
end Go.Proofs.Ytjehmleckcmilaa
