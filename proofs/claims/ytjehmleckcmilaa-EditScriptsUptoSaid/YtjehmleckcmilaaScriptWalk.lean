/- The contract of edit.Script. -/
import Derived.Test.YtjehmleckcmilaaEditsWalk
namespace Go.Proofs.Ytjehmleckcmilaa
open Go.RowKit

/-- the boxes of edit.Script: the row, whether its last edit is open, the place in the first word -/
structure ScB (s : Nat) (w2 : World) (fin : List Ed) (cur : Option Ed) (i : Nat) (v : Value) (wr : World) : Prop where
  vbox : wr.heap[s]? = some (.cells #[v] 60 (0, 0))
  obox : wr.heap[s + 1]? = some (.cells #[.bool cur.isSome] 4 (0, 0))
  ibox : wr.heap[s + 2]? = some (.cells #[.int .i64 i] 3 (0, 0))
  eds : EdsR (s + 3) fin cur v wr
  bel : Below s w2 wr
section
variable {s : Nat} {w2 : World} {fin : List Ed} {cur : Option Ed} {i : Nat} {v : Value} {wr w' : World}
theorem EdsR.other {B : Nat} {w w' : World} (h : EdsR B fin cur v w) (hb : ∀ k, B ≤ k → k < w.heap.size → w'.heap[k]? = w.heap[k]?) (hs : w.heap.size ≤ w'.heap.size) : EdsR B fin cur v w' := by
  have own : ∀ {e : TypeId} {sz : Nat} {v : Value} {n : Nat} {xs : List Value}, w.ownsRow B e sz v n xs → w'.ownsRow B e sz v n xs := by
    rintro e sz v n xs ⟨h1, h2⟩
    refine ⟨h1, ?_⟩
    rcases h2 with h2 | ⟨g, cap, cur, rfl, hg, hh, r⟩
    · exact .inl h2
    · refine .inr ⟨g, cap, cur, rfl, hg, ?_, r⟩
      rw [hb g hg (Array.getElem?_eq_some_iff.1 hh).1]; exact hh
  cases cur with
  | none =>
    obtain ⟨⟨xs, h1, h2⟩, h3⟩ := h
    exact ⟨⟨xs, own h1, RdAll.keep (fun k hk hlt => ⟨hk, hb k hk.1 hlt⟩) _ _ h2⟩, Nat.le_trans h3 hs⟩
  | some e =>
    obtain ⟨u, ⟨xs, h1, h2⟩, h3, h4, h5⟩ := h
    exact ⟨u, ⟨xs, own h1, RdAll.keep (fun k hk hlt => ⟨hk, hb k hk.1.1 hlt⟩) _ _ h2⟩, own h3, h4, Nat.le_trans h5 hs⟩
theorem ScB.keep (h : ScB s w2 fin cur i v wr) (hb : Below wr.heap.size wr w') : ScB s w2 fin cur i v w' := by
  obtain ⟨h1, h2, h3, h4, h5⟩ := h
  exact ⟨bx_keep h1 hb, bx_keep h2 hb, bx_keep h3 hb, h4.keep hb, h5.trans (hb.mono (Nat.le_trans (Nat.le_add_right _ _) h4.le))⟩
theorem ScB.setI (h : ScB s w2 fin cur i v wr) (k : Nat) : ScB s w2 fin cur k v (wr.setCell ⟨s + 2, 0, none⟩ (.int .i64 k)) := by
  obtain ⟨h1, h2, h3, h4, h5⟩ := h
  refine ⟨bx_other h1 (by simp) _ _, bx_other h2 (by simp) _ _, ?_, h4.other (fun j hj _ => Below.heap_setCell _ _ _ _ (by show j ≠ s + 2; omega)) (by simp [World.setCell]), h5.setCell (by show s ≤ s + 2; omega) _⟩
  simpa using bx_set h3 0 (.int .i64 k)
theorem ScB.shut (h : ScB s w2 fin cur i v wr) : ScB s w2 (fin ++ cur.toList) none i v (wr.setCell ⟨s + 1, 0, none⟩ (.bool false)) := by
  obtain ⟨h1, h2, h3, h4, h5⟩ := h
  refine ⟨bx_other h1 (by simp) _ _, ?_, bx_other h3 (by simp) _ _, h4.close.other (fun j hj _ => Below.heap_setCell _ _ _ _ (by show j ≠ s + 1; omega)) (by simp [World.setCell]), h5.setCell (by show s ≤ s + 1; omega) _⟩
  simpa using bx_set h2 0 (.bool false)
theorem ScB.start (w2 : World) (hs : s = w2.heap.size) : ScB s w2 [] none 0 (.slice none 0 0) (((w2.alloc (.cells #[.slice none 0 0] 60)).alloc (.cells #[.bool false] 4)).alloc (.cells #[.int .i64 0] 3)) := by
  subst hs
  have b1 : Below w2.heap.size w2 (w2.alloc (.cells #[.slice none 0 0] 60)) := (Below.refl _ _).alloc (Nat.le_refl _) _
  have h1 := bx_new w2 (.cells #[.slice none 0 0] 60) w2.heap.size rfl
  obtain ⟨wa, ha⟩ : ∃ wa, w2.alloc (.cells #[.slice none 0 0] 60) = wa := ⟨_, rfl⟩
  have hsa : wa.heap.size = w2.heap.size + 1 := by rw [← ha]; simp
  rw [ha] at b1 h1 ⊢
  have b2 : Below w2.heap.size w2 (wa.alloc (.cells #[.bool false] 4)) := b1.alloc (by omega) _
  have b2' : Below wa.heap.size wa (wa.alloc (.cells #[.bool false] 4)) := (Below.refl _ _).alloc (Nat.le_refl _) _
  have h2 := bx_new wa (.cells #[.bool false] 4) (w2.heap.size + 1) hsa.symm
  obtain ⟨wb, hb⟩ : ∃ wb, wa.alloc (.cells #[.bool false] 4) = wb := ⟨_, rfl⟩
  have hsb : wb.heap.size = w2.heap.size + 2 := by rw [← hb]; simp; omega
  rw [hb] at b2 b2' h2 ⊢
  have b3 : Below w2.heap.size w2 (wb.alloc (.cells #[.int .i64 0] 3)) := b2.alloc (by omega) _
  have b3' : Below wb.heap.size wb (wb.alloc (.cells #[.int .i64 0] 3)) := (Below.refl _ _).alloc (Nat.le_refl _) _
  have h3 := bx_new wb (.cells #[.int .i64 0] 3) (w2.heap.size + 2) hsb.symm
  exact ⟨bx_keep (bx_keep h1 b2') b3', bx_keep h2 b3', h3, EdsR.nil _ _ (by simp; omega), b3⟩
end

def ChPost (s : Nat) (w2 : World) (fin : List Ed) (cur : Option Ed) (i : Nat) (e : Ending) (w' : World) : Prop :=
  ∃ g cap, e = .returned (.pointer (some ⟨g, fin.length * 3, none⟩)) ∧ ScB s w2 fin (some (cur.getD ⟨i, i, []⟩)) i (.slice (some ⟨g, 0, none⟩) (fin.length + 1) cap) w'

set_option maxHeartbeats 4000000 in
set_option maxRecDepth 100000 in
theorem changeE (s : Nat) (w2 : World) (fin : List Ed) (cur : Option Ed) (i : Nat) (v : Value) (W : World) (h : ScB s w2 fin cur i v W) (hf : fin.length ≤ 400) :
    Calls Try.prog 105 #[.pointer (some ⟨s + 1, 0, none⟩), .pointer (some ⟨s, 0, none⟩), .pointer (some ⟨s + 2, 0, none⟩)] W (ChPost s w2 fin cur i) := by
  have HS := Lib.hid h
  have c0 := bx_cells1 h.vbox
  have c1 := bx_cells1 h.obox
  have c2 := bx_cells1 h.ibox
  have f0 := bx_free1 h.vbox
  have f1 := bx_free1 h.obox
  have hle := h.eds.le
  obtain ⟨nf, HNF⟩ := nameIt fin.length
  have hl0 : s < W.heap.size := by omega
  have hl1 : s + 1 < W.heap.size := by omega
  have hl2 : s + 2 < W.heap.size := by omega
  have hn1 : ¬ s + 1 = s := by omega
  have hn2 : ¬ s = s + 1 := by omega
  rw [HNF.out] at hf
  have hnfw : IntKind.i64.wrap ((nf : Int) + 1 - 1) = (nf : Int) := by rw [IntWalk.i64_in _ (by omega)]; omega
  have hnf0 : (0 : Int) ≤ (nf : Int) := by omega
  have hnf1 : (nf : Int) < (nf : Int) + 1 := by omega
  cases cur with
  | some e0 =>
    obtain ⟨u, hu⟩ := h.eds
    obtain ⟨g, cap, hv, hc1, hc2, -⟩ := hu.at
    subst hv
    rw [HNF.out] at c0 hc1
    unfold maxLen at hc2
    clear h hu f0 f1 c2
    simp only [Option.isSome_some] at c1
    go_enter Try.func105, Try.ntmps105
    go_wp2_with fail
    go_ret
    refine ⟨g, cap, by rw [HNF.out]; rfl, ?_⟩
    exact HS.out
  | none =>
    obtain ⟨xs, hxo, hxd⟩ := h.eds.own
    rw [List.length_map, HNF.out] at hxo
    have HXO := Lib.hid hxo
    have HXD := Lib.hid hxd
    obtain ⟨av, cv, rfl, hv1, hv2⟩ := own_len hxo
    unfold maxLen at hv2
    simp only [Option.isSome_none] at c1
    clear h hxo hxd
    go_enter Try.func105, Try.ntmps105
    go_wp2_with (at_builtin; refine wp_app1at elEd rfl _ _ rfl HXO.out rfl rfl (by simp) rfl rfl (by omega) (by unfold maxLen; omega) (by omega) ?_)
    intro v' wz hoz hgz hatz
    have hoz' : OpenE (s + 3) fin ⟨i, i, []⟩ v' (.slice none 0 0) wz := openE_new (by rw [HNF.out]; exact HXO.out) HXD.out hle (by rw [HNF.out]; exact hoz) hgz hatz
    obtain ⟨g, cap, hv, hc1, hc2, -⟩ := hoz'.at
    subst hv
    rw [HNF.out] at hoz' hc1
    rw [HNF.out]
    unfold maxLen at hc2
    have hbk : ∀ k, k < s + 3 → wz.heap[k]? = W.heap[k]? := fun k hk => hgz.block k (by omega) (fun e => by have := (HXO.out.lt k e.symm).1; omega)
    have x0 := (hbk s (by omega)).trans HS.out.vbox
    have x1 := (hbk (s + 1) (by omega)).trans HS.out.obox
    have x2 := (hbk (s + 2) (by omega)).trans HS.out.ibox
    have hsz := hgz.size
    have HZ : Hid (ScB s w2 fin (some ⟨i, i, []⟩) i (.slice (some ⟨g, 0, none⟩) (nf + 1) cap) ((wz.setCell ⟨s, 0, none⟩ (.slice (some ⟨g, 0, none⟩) (nf + 1) cap)).setCell ⟨s + 1, 0, none⟩ (.bool true))) := by
      have hE : EdsR (s + 3) fin (some ⟨i, i, []⟩) (.slice (some ⟨g, 0, none⟩) (nf + 1) cap) wz := ⟨_, hoz'⟩
      refine ⟨bx_other (by simpa using bx_set x0 0 (.slice (some ⟨g, 0, none⟩) (nf + 1) cap)) (by simp) _ _, ?_, bx_other (bx_other x2 (by simp) _ _) (by simp) _ _, hE.other (fun j hj _ => ?_) (by simp [World.setCell]), ?_⟩
      · have := bx_set (bx_other x1 (by simp : s + 1 ≠ s) 0 (.slice (some ⟨g, 0, none⟩) (nf + 1) cap)) 0 (.bool true)
        simpa using this
      · rw [Below.heap_setCell _ _ _ _ (by show j ≠ s + 1; omega), Below.heap_setCell _ _ _ _ (by show j ≠ s; omega)]
      · exact (((HS.out.bel.grown hgz (by have := HS.out.bel.size; omega) (fun k e => by have := (HXO.out.lt k e).1; omega)).setCell (by show s ≤ s; omega) _).setCell (by show s ≤ s + 1; omega) _)
    have y0 := bx_cells1 x0
    have y1 := bx_cells1 x1
    have g0 := bx_free1 x0
    have g1 := bx_free1 x1
    clear x0 x1 x2 hbk hoz hoz' hgz hatz c0 c1 c2 f0 f1
    simp only [Option.isSome_none] at y1
    go_wp2_with fail
    go_ret
    refine ⟨g, cap, by rw [HNF.out]; rfl, ?_⟩
    rw [HNF.out]
    exact HZ.out
end Go.Proofs.Ytjehmleckcmilaa
