/- The contract of tree.Word. -/
import Derived.Test.YtjehmleckcmilaaTreeSize
namespace Go.Proofs.Ytjehmleckcmilaa
open Go.RowKit

/-- the word of a list of nodes -/
def leavesOf (l : List Tree) : List Int := l.filterMap fun t => if t.rule = -1 then some t.term else none
def rulesOf (l : List Tree) : List Int := l.map Tree.rule
theorem leavesOf_le (l : List Tree) : (leavesOf l).length ≤ l.length := List.length_filterMap_le _ _

/-- numbers that a function gathers in a captured slice -/
def GatherI (f : List Tree → List Int) (w0 : World) (nb : Nat) (s : List Tree) (S : Nat → Prop) (W : World) : Prop :=
  Below w0.heap.size w0 W ∧ w0.heap.size ≤ nb ∧ ∃ v, W.heap[nb]? = some (.cells #[v] 22 (0, 0)) ∧ W.ownsRow w0.heap.size 3 1 v (f s).length (ints (f s)) ∧ v.ownBlock ≠ some nb ∧ ∀ k, S k ↔ (k = nb ∨ v.ownBlock = some k)

theorem gather_own {f : List Tree → List Int} {w0 : World} {nb : Nat} {s : List Tree} {S : Nat → Prop} {W : World} (h : GatherI f w0 nb s S W) : ∀ k, S k → w0.heap.size ≤ k ∧ k < W.heap.size := by
  intro k hk
  obtain ⟨h1, h2, v, h3, h4, h5, h6⟩ := h
  rw [h6] at hk
  rcases hk with rfl | hk
  · exact ⟨h2, (Array.getElem?_eq_some_iff.1 h3).1⟩
  · exact h4.lt k hk
theorem gather_keep {f : List Tree → List Int} {w0 : World} {nb : Nat} {s : List Tree} {S : Nat → Prop} {W W' : World} (h : GatherI f w0 nb s S W) (hb : Below W.heap.size W W') : GatherI f w0 nb s S W' := by
  obtain ⟨h1, h2, v, h3, h4, h5, h6⟩ := h
  exact ⟨h1.trans (hb.mono h1.size), h2, v, bx_keep h3 hb, own_keep h4 hb, h5, h6⟩

/-- the state behind an append of x: W: before, W1: behind the append, then the store into the captured variable -/
theorem gather_step {f : List Tree → List Int} {w0 : World} {nb : Nat} {s s' : List Tree} {S : Nat → Prop} {W W0 W1 : World} {v v' : Value} {x : Int} (hf : f s' = f s ++ [x])
    (h1 : Below w0.heap.size w0 W) (h2 : w0.heap.size ≤ nb) (h3 : W.heap[nb]? = some (.cells #[v] 22 (0, 0))) (h4 : W.ownsRow w0.heap.size 3 1 v (f s).length (ints (f s))) (h5 : v.ownBlock ≠ some nb) (h6 : ∀ k, S k ↔ (k = nb ∨ v.ownBlock = some k))
    (hb : Below W.heap.size W W0) (ho : W1.ownsRow w0.heap.size 3 1 v' ((f s).length + 1) (ints (f s) ++ [.int .i64 x])) (hg : W0.grownBy W1 v.ownBlock) (hat : v'.ownBlock = v.ownBlock ∨ ∃ k, v'.ownBlock = some k ∧ W0.heap.size ≤ k) :
    ∃ S', GatherI f w0 nb s' S' (W1.setCell ⟨nb, 0, none⟩ v') ∧ Keeps S W (W1.setCell ⟨nb, 0, none⟩ v') ∧ ∀ k, S' k → S k ∨ W.heap.size ≤ k := by
  have hnb := (Array.getElem?_eq_some_iff.1 h3).1
  have h3' := bx_keep h3 hb
  have hnb' := (Array.getElem?_eq_some_iff.1 h3').1
  have hne' : v'.ownBlock ≠ some nb := by
    rcases hat with e | ⟨k, e, hk⟩
    · rw [e]; exact h5
    · rw [e]; intro e; cases e; omega
  have h3'' : W1.heap[nb]? = some (.cells #[v] 22 (0, 0)) := by rw [hg.block nb hnb' (fun e => h5 e.symm)]; exact h3'
  have hbel : Below w0.heap.size w0 W1 := (h1.trans (hb.mono h1.size)).grown hg (Nat.le_trans h1.size hb.size) (fun k e => (h4.lt k e).1)
  refine ⟨fun k => k = nb ∨ v'.ownBlock = some k, ⟨hbel.setCell h2 _, h2, v', ?_, ?_, hne', fun _ => Iff.rfl⟩, ?_, ?_⟩
  · rw [bx_set h3'']; rfl
  · rw [hf]
    have e : ints (f s ++ [x]) = ints (f s) ++ [.int .i64 x] := by simp [ints]
    rw [e, List.length_append]
    exact ho.kept (grown_cell W1 ⟨nb, 0, none⟩ v') (.inr (by exact hne'))
  · refine ⟨hg.os.trans hb.os, hg.tape.trans hb.tape, hg.output.trans hb.output, by simp [World.setCell]; exact Nat.le_trans hb.size hg.size, fun k hk hn => ?_⟩
    rw [h6] at hn
    have k1 : k ≠ nb := fun e => hn (.inl e)
    have k2 : v.ownBlock ≠ some k := fun e => hn (.inr e)
    rw [Below.heap_setCell _ _ _ _ k1, hg.block k (Nat.lt_of_lt_of_le hk hb.size) (fun e => k2 e.symm), hb.block k hk]
  · rintro k (rfl | hk)
    · exact .inl ((h6 k).2 (.inl rfl))
    · rcases hat with e | ⟨j, e, hj⟩
      · exact .inl ((h6 k).2 (.inr (by rw [← e]; exact hk)))
      · rw [e] at hk; cases hk; exact .inr (by have := hb.size; omega)

set_option maxHeartbeats 400000 in
theorem wordF (w0 : World) (nb N : Nat) (hN : N * 8 ≤ 140737488355328) : NodeFn 231 #[.pointer (some ⟨nb, 0, none⟩)] w0 (fun _ => true) N (GatherI leavesOf w0 nb) where
  below := fun h => h.1
  own := gather_own
  keep := gather_keep
  call := by
    intro s S W t v h hv hs
    obtain ⟨a, n, cap, rfl⟩ := treeBox hv
    have HI := Lib.hid h
    obtain ⟨h1, h2, u, h3, h4, h5, h6⟩ := h
    have H1 := Lib.hid h1
    have H3 := Lib.hid h3
    have H4 := Lib.hid h4
    have H5 := Lib.hid h5
    have H6 := Lib.hid h6
    have c0 := bx_cells1 h3
    have f0 := bx_free1 h3
    have hlt := (Array.getElem?_eq_some_iff.1 h3).1
    have hlen := leavesOf_le s
    obtain ⟨au, cu, rfl, hu1, hu2⟩ := own_len h4
    unfold maxLen at hu2
    clear h1 h3 h4 h5 h6 hv
    have hb := (Below.refl W.heap.size W).alloc (Nat.le_refl _) (.cells #[.int .i64 t.rule, .int .i64 t.term, .slice a n cap] 43)
    have HB := Lib.hid hb
    clear hb
    obtain ⟨r, HR⟩ := nameIt t.rule
    obtain ⟨tm, HT⟩ := nameIt t.term
    rw [HR.out, HT.out] at HB
    rw [HR.out, HT.out]
    by_cases hr : r = -1
    · subst hr
      have HE : Hid (leavesOf (s ++ [t]) = leavesOf s ++ [tm]) := by show _ = _; simp [leavesOf, HR.out, HT.out]
      go_enter Try.func231, Try.ntmps231
      go_wp2_with (at_builtin; refine wp_app1at elInt rfl _ _ rfl (own_keep H4.out HB.out) rfl rfl (by simp) rfl rfl (by omega) (by unfold maxLen; omega) (by have := H1.out.size; simp; omega) ?_)
      intro v' w' ho hg hat
      obtain ⟨a', c', rfl, -, -⟩ := own_len ho
      have HST := Lib.hid (gather_step HE.out H1.out h2 H3.out H4.out H5.out H6.out HB.out ho hg (by simpa using hat))
      have hnb' : nb < w'.heap.size := by have := hg.size; simp at this; omega
      have h3 : w'.heap[nb]? = some (.cells #[.slice au (leavesOf s).length cu] 22 (0, 0)) := by
        rw [hg.block nb (by simp; omega) (fun e => H5.out e.symm)]; exact bx_keep H3.out HB.out
      have f1 := bx_free1 h3
      have f2 := bx_cells1 h3
      clear ho hg hat h3
      go_wp2
      go_ret
      obtain ⟨S', i1, i2, i3⟩ := HST.out
      exact ⟨S', rfl, i1, i2, i3⟩
    · have hr' : (r == -1) = false := by simpa using hr
      have HE : Hid (leavesOf (s ++ [t]) = leavesOf s) := by show _ = _; simp [leavesOf, HR.out, hr]
      clear hr
      go_enter Try.func231, Try.ntmps231
      go_wp2
      go_ret
      refine ⟨S, rfl, ?_, Below.keeps HB.out, fun k h => .inl h⟩
      have := gather_keep HI.out HB.out
      unfold GatherI at this ⊢
      rw [HE.out]; exact this

def IntsPost (l : List Int) (w : World) (e : Ending) (w' : World) : Prop := ∃ v, e = .returned v ∧ Sl w' v (ints l) ∧ Below w.heap.size w w'

set_option maxHeartbeats 400000 in
theorem wordT (t : Tree) (v : Value) (w : World) (hv : Rd AnyB w (.sl (t.kids.map Tree.d)) [v]) (hN : (nodes t).length * 8 ≤ 140737488355328) :
    Calls Try.prog 174 #[.agg #[.int .i64 t.rule, .int .i64 t.term, v]] w (IntsPost (leavesOf (nodes t)) w) := by
  obtain ⟨a, n, cap, rfl⟩ := treeBox hv
  have hI : GatherI leavesOf w (w.heap.size + 1) [] (fun k => k = w.heap.size + 1 ∨ (Value.slice none 0 0).ownBlock = some k) ((w.alloc (.cells #[.int .i64 t.rule, .int .i64 t.term, .slice a n cap] 43)).alloc (.cells #[.slice none 0 0] 22)) :=
    ⟨((Below.refl _ _).alloc (Nat.le_refl _) _).alloc (by simp) _, by omega, _, bx_new _ _ _ (by simp), World.ownsRow_nil _ _ _ _, by simp [Value.ownBlock], fun _ => Iff.rfl⟩
  have hw := walkE 231 #[.pointer (some ⟨w.heap.size + 1, 0, none⟩)] w (fun _ => true) (nodes t).length _ (fun _ _ => by kernel_rfl) (wordF w (w.heap.size + 1) (nodes t).length hN) (nodes t).length t _ [] _ _ (Nat.le_refl _) hI hv (by simp)
  have HW := Lib.hid hw
  clear hw hI hv hN
  go_enter Try.func174, Try.ntmps174
  go_wp2_with fail
  refine HW.out.mono ?_
  rintro e w1 ⟨S', rfl, ⟨h1, h2, u, h3, h4, h7, h8⟩, h5, h6⟩
  rw [upTo_all (by simp)] at h4
  simp only [List.nil_append] at h4
  have c0 := bx_cells1 h3
  have HB := Lib.hid h1
  have HS := Lib.hid (sl_of_own h4)
  obtain ⟨a', c', rfl, -, -⟩ := own_len h4
  clear h1 h2 h3 h4 h5 h6 h7 h8
  go_wp2
  go_ret
  exact ⟨_, rfl, HS.out, HB.out⟩

end Go.Proofs.Ytjehmleckcmilaa
