/- doc.Check. -/
import Derived.Test.YtgpikophndbmeaaDocSound
namespace Go.Proofs.Ytgpikophndbmeaa
open Go.RowKit
namespace Dc

def CntI (w0 : World) (nb : Nat) (s : List Doc) (S : Nat → Prop) (W : World) : Prop :=
  Below w0.heap.size w0 W ∧ w0.heap.size ≤ nb ∧ W.heap[nb]? = some (.cells #[.int .i64 s.length] 3 (0, 0)) ∧ ∀ k, S k ↔ k = nb
def cntP (k : Nat) (_ : Doc) : Bool := decide (k + 1 ≤ 400)
theorem cnt_all : ∀ (l : List Doc) (k : Nat), allN cntP k l = (decide (l = []) || decide (k + l.length ≤ 400))
  | [], k => by simp [allN]
  | x :: l, k => by
    rw [allN, cnt_all l (k + 1)]
    unfold cntP
    by_cases h : l = []
    · subst h; simp
    · have h0 : 0 < l.length := List.length_pos_iff.2 h
      simp only [List.length_cons, decide_eq_false h, decide_eq_false (List.cons_ne_nil x l), Bool.false_or]
      by_cases h1 : k + 1 + l.length ≤ 400
      · rw [decide_eq_true h1, decide_eq_true (by omega), decide_eq_true (by omega)]; rfl
      · rw [decide_eq_false h1, Bool.and_false, decide_eq_false (by omega)]
set_option maxHeartbeats 400000 in
theorem cntF (w0 : World) (nb N : Nat) (hN : N ≤ 4611686018427387904) : NodeFn 21 #[.pointer (some ⟨nb, 0, none⟩)] w0 cntP N (CntI w0 nb) where
  below := fun h => h.1
  own := fun {s S W} h k hk => by
    obtain ⟨h1, h2, h3, h4⟩ := h
    rw [h4] at hk
    subst hk
    exact ⟨h2, (Array.getElem?_eq_some_iff.1 h3).1⟩
  keep := fun {s S W W'} h hb => ⟨h.1.trans (hb.mono h.1.size), h.2.1, bx_keep h.2.2.1 hb, h.2.2.2⟩
  call := by
    intro s S W t v h hv hs
    obtain ⟨a, cap, rfl, -, -⟩ := hv.form
    obtain ⟨h1, h2, h3, h4⟩ := h
    have H1 := Lib.hid h1
    have H3 := Lib.hid h3
    have H4 := Lib.hid h4
    have c0 := bx_cells1 h3
    have f0 := bx_free1 h3
    have hlt := (Array.getElem?_eq_some_iff.1 h3).1
    obtain ⟨m, HM⟩ := nameIt s.length
    rw [HM.out] at c0 hs ⊢
    obtain ⟨cb, HCB⟩ := nameIt (cntP m t)
    have hcb : decide (((m + 1 : Nat) : Int) ≤ 400) = cb := by
      rw [← HCB.out]; unfold cntP
      by_cases h : m + 1 ≤ 400
      · rw [decide_eq_true h]; simp; omega
      · rw [decide_eq_false h]; simp; omega
    rw [HCB.out]
    obtain ⟨q0, HQ0⟩ := nameIt t.kind
    obtain ⟨q1, HQ1⟩ := nameIt t.txt
    obtain ⟨q2, HQ2⟩ := nameIt t.n
    obtain ⟨nk, HNK⟩ := nameIt (t.kids.map Doc.d).length
    rw [HQ0.out, HQ1.out, HQ2.out, HNK.out]
    clear h1 h3 h4 hv
    go_enter Try.func21, Try.ntmps21
    go_wp2
    go_ret
    obtain ⟨W', HW⟩ := nameIt (W.setCell ⟨nb, 0, none⟩ (.int .i64 (m + 1)))
    rw [HW.out]
    have hb := (Below.refl W'.heap.size W').alloc (Nat.le_refl _) (.cells #[.int .i64 q0, .string q1, .int .i64 q2, .slice a nk cap] 24)
    have h3 := bx_set H3.out 0 (.int .i64 (m + 1))
    have h1 := H1.out.setCell (p := ⟨nb, 0, none⟩) h2 (.int .i64 (m + 1))
    rw [HW.out] at h3 h1
    refine ⟨S, by rw [← hcb]; rfl, ⟨h1.trans (hb.mono h1.size), h2, ?_, H4.out⟩, ?_, fun k h => .inl h⟩
    · rw [bx_keep h3 hb]; simp [HM.out]
    · have hk : Keeps S W W' := by
        rw [← HW.out]
        exact ⟨rfl, rfl, rfl, by simp [World.setCell], fun k hk hn => Below.heap_setCell _ _ _ _ (fun e => hn ((H4.out k).2 e))⟩
      exact hk.trans (Below.keeps (S := S) hb) (fun k h => .inl h)
def docErr (t : Doc) : Int := if 400 < (nodes t).length then 2 else if (nodes t).all okD then 0 else 3
set_option maxHeartbeats 1000000 in
theorem checkE (t : Doc) (v : Value) (w : World) (hv : Rd AnyB w (.sl (t.kids.map Doc.d)) [v]) (hN : (nodes t).length ≤ 4611686018427387904) :
    Calls Try.prog 8 #[.agg #[.int .i64 t.kind, .string t.txt, .int .i64 t.n, v]] w fun e w' => e = .returned (.int .i64 (docErr t)) ∧ Below w.heap.size w w' := by
  obtain ⟨a, cap, rfl, -, -⟩ := hv.form
  obtain ⟨w1, HW1⟩ := nameIt ((w.alloc (.cells #[.int .i64 t.kind, .string t.txt, .int .i64 t.n, .slice a (t.kids.map Doc.d).length cap] 24)).alloc (.cells #[.int .i64 0] 3))
  have hb1 : Below w.heap.size w w1 := by rw [← HW1.out]; exact ((Below.refl _ _).alloc (Nat.le_refl _) _).alloc (by simp) _
  have hx0 : w1.heap[w.heap.size]? = some (.cells #[.int .i64 t.kind, .string t.txt, .int .i64 t.n, .slice a (t.kids.map Doc.d).length cap] 24 (0, 0)) := by rw [← HW1.out]; exact bx_keep (bx_new _ _ _ rfl) ((Below.refl _ _).alloc (Nat.le_refl _) _)
  have hI : CntI w (w.heap.size + 1) [] (fun k => k = w.heap.size + 1) w1 := ⟨hb1, by omega, by rw [← HW1.out]; exact bx_new _ _ _ (by simp), fun _ => Iff.rfl⟩
  have HWK := Lib.hid (walkE 21 #[.pointer (some ⟨w.heap.size + 1, 0, none⟩)] w cntP (nodes t).length _ (fun _ _ => by kernel_rfl) (cntF w (w.heap.size + 1) (nodes t).length hN) (nodes t).length t _ [] _ w1 (Nat.le_refl _) hI hv (by simp))
  have HWS := Lib.hid (fun (W : World) (hb : Below w.heap.size w W) => walkE 22 #[] W (fun _ => okD) (nodes t).length _ (fun _ _ => by kernel_rfl) (soundNode W (nodes t).length) (nodes t).length t _ [] (fun _ => False) W (Nat.le_refl _) ⟨Below.refl _ _, fun _ h => h⟩ (hv.below hb) (by simp))
  have hall1 : allN cntP ([] : List Doc).length (nodes t) = decide ((nodes t).length ≤ 400) := by
    rw [cnt_all, decide_eq_false (fun h => by have := nodes_pos t; rw [h] at this; simp at this)]; simp
  have hall2 : allN (fun _ => okD) ([] : List Doc).length (nodes t) = (nodes t).all okD := allN_const _ _ _
  have HALL1 := Lib.hid hall1
  have HALL2 := Lib.hid hall2
  obtain ⟨PST, HP⟩ := nameIt (fun (e : Ending) (w' : World) => e = .returned (.int .i64 (docErr t)) ∧ Below w.heap.size w w')
  have HFIN : Hid (∀ w', Below w.heap.size w w' → PST (.returned (.int .i64 (docErr t))) w') := fun w' h2 => by rw [← HP.out]; exact ⟨rfl, h2⟩
  rw [HP.out]
  have hde : docErr t = if 400 < (nodes t).length then 2 else if (nodes t).all okD then 0 else 3 := rfl
  rw [hde] at HFIN
  obtain ⟨AO, HAO⟩ := nameIt ((nodes t).all okD)
  obtain ⟨NL, HNL⟩ := nameIt (nodes t).length
  rw [HAO.out] at HALL2 HFIN
  rw [HNL.out] at HALL1 HFIN
  have HX0 := Lib.hid hx0
  obtain ⟨x0, x1, x2, x3⟩ := bx_cells4d hx0
  obtain ⟨tk, HTK⟩ := nameIt t.kind
  obtain ⟨tx, HTX⟩ := nameIt t.txt
  obtain ⟨tn, HTN⟩ := nameIt t.n
  obtain ⟨nk, HNK⟩ := nameIt (t.kids.map Doc.d).length
  rw [HTK.out, HTX.out, HTN.out, HNK.out] at HWK HWS HX0 HW1
  rw [HTK.out] at x0
  rw [HTX.out] at x1
  rw [HTN.out] at x2
  rw [HNK.out] at x3
  rw [HTK.out, HTX.out, HTN.out, HNK.out]
  clear hv hb1 hx0 hall1 hall2 hI hde
  go_enter Try.func8, Try.ntmps8
  go_upto_region 2 with fail
  rw [HW1.out]
  go_wp2_with fail
  refine HWK.out.mono ?_
  rintro e w2 ⟨S2, rfl, hI2, hk2, -⟩
  have hy := hk2.cells HX0.out (by omega)
  have HB2 := Lib.hid hI2.1
  rw [HALL1.out]
  clear hI2 hk2 x0 x1 x2 x3
  obtain ⟨x0, x1, x2, x3⟩ := bx_cells4d hy
  clear hy
  by_cases h4 : 400 < NL
  · have hd : decide (NL ≤ 400) = false := by simp; omega
    rw [if_pos h4] at HFIN
    have HE := Lib.hid (HFIN.out w2 HB2.out)
    rw [hd]
    clear hd
    go_wp2_with fail
    exact HE.out
  · have hd : decide (NL ≤ 400) = true := by simp; omega
    rw [if_neg h4] at HFIN
    rw [hd]
    clear hd
    go_wp2_with fail
    refine (HWS.out w2 HB2.out).mono ?_
    rintro e w3 ⟨S3, rfl, hI3, -, -⟩
    rw [HALL2.out]
    have HB3 := Lib.hid (HB2.out.trans (hI3.1.mono HB2.out.size))
    clear hI3 x0 x1 x2 x3
    have HE := Lib.hid (HFIN.out w3 HB3.out)
    cases AO with
    | false =>
      rw [if_neg (by decide)] at HE
      go_wp2_with fail
      exact HE.out
    | true =>
      rw [if_pos rfl] at HE
      go_wp2_with fail
      exact HE.out
end Dc
end Go.Proofs.Ytgpikophndbmeaa
