/- The contract of tree.Size. -/
import Derived.Test.YtjehmleckcmilaaTreeWalk
namespace Go.Proofs.Ytjehmleckcmilaa
open Go.RowKit

theorem treeBox {w0 : World} {t : Tree} {v : Value} (hv : Rd AnyB w0 (.sl (t.kids.map Tree.d)) [v]) : ∃ a n cap, v = .slice a n cap := by
  obtain ⟨a, cap, rfl, _⟩ := hv.form; exact ⟨a, _, cap, rfl⟩

def SizeI (w0 : World) (nb : Nat) (s : List Tree) (S : Nat → Prop) (W : World) : Prop :=
  Below w0.heap.size w0 W ∧ w0.heap.size ≤ nb ∧ W.heap[nb]? = some (.cells #[.int .i64 s.length] 3 (0, 0)) ∧ ∀ k, S k ↔ k = nb

set_option maxHeartbeats 400000 in
theorem sizeF (w0 : World) (nb N : Nat) (hN : N ≤ 4611686018427387904) : NodeFn 140 #[.pointer (some ⟨nb, 0, none⟩)] w0 (fun _ => true) N (SizeI w0 nb) where
  below := fun h => h.1
  own := fun {s S W} h k hk => by
    obtain ⟨h1, h2, h3, h4⟩ := h
    rw [h4] at hk
    subst hk
    exact ⟨h2, (Array.getElem?_eq_some_iff.1 h3).1⟩
  keep := fun {s S W W'} h hb => ⟨h.1.trans (hb.mono h.1.size), h.2.1, bx_keep h.2.2.1 hb, h.2.2.2⟩
  call := by
    intro s S W t v h hv hs
    obtain ⟨a, n, cap, rfl⟩ := treeBox hv
    obtain ⟨h1, h2, h3, h4⟩ := h
    have H1 := Lib.hid h1
    have H3 := Lib.hid h3
    have H4 := Lib.hid h4
    have c0 := bx_cells1 h3
    have f0 := bx_free1 h3
    have hlt := (Array.getElem?_eq_some_iff.1 h3).1
    obtain ⟨m, HM⟩ := nameIt s.length
    rw [HM.out] at c0 hs
    clear h1 h3 h4 hv
    go_enter Try.func140, Try.ntmps140
    go_wp2
    go_ret
    obtain ⟨W', HW⟩ := nameIt (W.setCell ⟨nb, 0, none⟩ (.int .i64 (m + 1)))
    rw [HW.out]
    have hb := (Below.refl W'.heap.size W').alloc (Nat.le_refl _) (.cells #[.int .i64 t.rule, .int .i64 t.term, .slice a n cap] 43)
    have h3 := bx_set H3.out 0 (.int .i64 (m + 1))
    have h1 := H1.out.setCell (p := ⟨nb, 0, none⟩) h2 (.int .i64 (m + 1))
    rw [HW.out] at h3 h1
    refine ⟨S, rfl, ⟨h1.trans (hb.mono h1.size), h2, ?_, H4.out⟩, ?_, fun k h => .inl h⟩
    · rw [bx_keep h3 hb]; simp [HM.out]
    · have hk : Keeps S W W' := by
        rw [← HW.out]
        exact ⟨rfl, rfl, rfl, by simp [World.setCell], fun k hk hn => Below.heap_setCell _ _ _ _ (fun e => hn ((H4.out k).2 e))⟩
      exact hk.trans (Below.keeps (S := S) hb) (fun k h => .inl h)

set_option maxHeartbeats 400000 in
theorem sizeE (t : Tree) (v : Value) (w : World) (hv : Rd AnyB w (.sl (t.kids.map Tree.d)) [v]) (hN : (nodes t).length ≤ 4611686018427387904) :
    Calls Try.prog 72 #[.agg #[.int .i64 t.rule, .int .i64 t.term, v]] w fun e w' => e = .returned (.int .i64 (nodes t).length) ∧ Below w.heap.size w w' := by
  obtain ⟨a, n, cap, rfl⟩ := treeBox hv
  have HV := Lib.hid hv
  have hI : SizeI w (w.heap.size + 1) [] (fun k => k = w.heap.size + 1) ((w.alloc (.cells #[.int .i64 t.rule, .int .i64 t.term, .slice a n cap] 43)).alloc (.cells #[.int .i64 0] 3)) :=
    ⟨((Below.refl _ _).alloc (Nat.le_refl _) _).alloc (by simp) _, by omega, bx_new _ _ _ (by simp), fun _ => Iff.rfl⟩
  have hw := walkE 140 #[.pointer (some ⟨w.heap.size + 1, 0, none⟩)] w (fun _ => true) (nodes t).length _ (fun _ _ => by kernel_rfl) (sizeF w (w.heap.size + 1) (nodes t).length hN) (nodes t).length t _ [] _ _ (Nat.le_refl _) hI hv (by simp)
  have HW := Lib.hid hw
  clear hw hI hv hN
  go_enter Try.func72, Try.ntmps72
  go_wp2_with fail
  refine HW.out.mono ?_
  rintro e w1 ⟨S', rfl, ⟨h1, h2, h3, h4⟩, h5, h6⟩
  rw [upTo_all (by simp)] at h3
  simp only [List.nil_append] at h3
  have c0 := bx_cells1 h3
  have HB := Lib.hid h1
  clear h1 h2 h3 h4 h5 h6
  go_wp2
  go_ret
  exact ⟨rfl, HB.out⟩
end Go.Proofs.Ytjehmleckcmilaa
