/- A row of edits of the call's own, whose last edit is open: it is changed in place. -/
import Derived.Test.YtjehmleckcmilaaEdList
import Derived.OneCell
namespace Go.Proofs.Ytjehmleckcmilaa
open Go.RowKit

/-- a cell of a row of the call's own, stored into -/
theorem own_set {w : World} {B : Nat} {e : TypeId} {size : Nat} {g n cap : Nat} {xs : List Value} (h : w.ownsRow B e size (.slice (some ⟨g, 0, none⟩) n cap) n xs) {j : Nat} (hj : j < n * size) (u : Value) :
    (w.setCell ⟨g, j, none⟩ u).ownsRow B e size (.slice (some ⟨g, 0, none⟩) n cap) n (xs.set j u) := by
  obtain ⟨hl, h⟩ := h
  refine ⟨by simpa using hl, ?_⟩
  rcases h with ⟨h, _⟩ | ⟨g', cap', cur, hv, hg, hh, h1, h2, h3, h4⟩
  · cases h
  · cases hv
    refine .inr ⟨g, cap, cur.setIfInBounds j u, rfl, hg, bx_set hh j u, h1, h2, by simpa using h3, ?_⟩
    rw [← h4, Array.toList_setIfInBounds, List.take_set]

structure OpenE (B : Nat) (fin : List Ed) (e : Ed) (v u : Value) (wr : World) : Prop where
  own : ∃ xs, wr.ownsRow B 67 3 v (fin.length + 1) (xs ++ [.int .i64 e.f, .int .i64 e.t, u]) ∧ RdAll (fun k => (B ≤ k ∧ v.ownBlock ≠ some k) ∧ u.ownBlock ≠ some k) wr (fin.map Ed.d) xs
  new : wr.ownsRow B 3 1 u e.new.length (ints e.new)
  apart : ∀ k, v.ownBlock = some k → u.ownBlock ≠ some k
  le : B ≤ wr.heap.size
section
variable {B : Nat} {fin : List Ed} {e : Ed} {v u : Value} {wr w' : World}
theorem OpenE.keep (h : OpenE B fin e v u wr) (hb : Below wr.heap.size wr w') : OpenE B fin e v u w' := by
  obtain ⟨⟨xs, h1, h2⟩, h3, h4, h5⟩ := h
  exact ⟨⟨xs, own_keep h1 hb, h2.below hb⟩, own_keep h3 hb, h4, Nat.le_trans h5 hb.size⟩
theorem OpenE.close (h : OpenE B fin e v u wr) : RowD (fun k => B ≤ k) B 67 3 ((fin ++ [e]).map Ed.d) v wr := by
  obtain ⟨⟨xs, h1, h2⟩, h3, h4, h5⟩ := h
  refine ⟨⟨_, by simpa using h1, ?_⟩, h5⟩
  rw [List.map_append]
  refine RdAll.append (h2.mono fun k hk _ => hk.1) (RdAll.one (rd_ed e ?_))
  refine rd_of_own h3 ((rdAll_ints _ _).2 rfl) (by simp) fun k hk => ⟨(h3.lt k hk).1, fun hv => h4 k hv hk⟩
/-- where the last edit lies -/
theorem OpenE.at (h : OpenE B fin e v u wr) : ∃ g cap, v = .slice (some ⟨g, 0, none⟩) (fin.length + 1) cap ∧ fin.length + 1 ≤ cap ∧ cap ≤ maxLen ∧ B ≤ g ∧ g < wr.heap.size ∧ u.ownBlock ≠ some g ∧
    wr.cell? ⟨g, fin.length * 3, none⟩ = some (.int .i64 e.f) ∧ wr.cell? ⟨g, fin.length * 3 + 1, none⟩ = some (.int .i64 e.t) ∧ wr.cell? ⟨g, fin.length * 3 + 2, none⟩ = some u ∧ ∀ j, wr.frozen? ⟨g, j, none⟩ = false := by
  obtain ⟨⟨xs, h1, h2⟩, h3, h4, h5⟩ := h
  have hlt := h1.lt
  have hcs := fun {g : Nat} (hg : v.ownBlock = some g) => h1.cells hg
  have hx : xs.length = fin.length * 3 := by
    have := h1.1
    simp at this; omega
  rcases h1.2 with ⟨_, h0⟩ | ⟨g, cap, cur, rfl, hg, hh, hn', hc, _⟩
  · omega
  · refine ⟨g, cap, rfl, hn', hc, (hlt g rfl).1, (hlt g rfl).2, fun hu => h4 g rfl hu, ?_, ?_, ?_, fun j => by simp [World.frozen?, hh]⟩
    all_goals
      have := hcs rfl
    · have := this (fin.length * 3) (.int .i64 e.f) (by simp [← hx])
      rwa [add_at, Nat.zero_add] at this
    · have := this (fin.length * 3 + 1) (.int .i64 e.t) (by rw [← hx]; simp)
      rwa [add_at, Nat.zero_add] at this
    · have := this (fin.length * 3 + 2) u (by rw [← hx]; simp)
      rwa [add_at, Nat.zero_add] at this
/-- the edit's end, stored -/
theorem OpenE.setT {g n cap : Nat} (h : OpenE B fin e (.slice (some ⟨g, 0, none⟩) n cap) u wr) (t : Int) : OpenE B fin ⟨e.f, t, e.new⟩ (.slice (some ⟨g, 0, none⟩) n cap) u (wr.setCell ⟨g, fin.length * 3 + 1, none⟩ (.int .i64 t)) := by
  obtain ⟨⟨xs, h1, h2⟩, h3, h4, h5⟩ := h
  have hx : xs.length = fin.length * 3 := by
    have := h1.1
    simp at this; omega
  obtain rfl : n = fin.length + 1 := by
    obtain ⟨_, _, e, _⟩ := own_len h1
    cases e; rfl
  refine ⟨⟨xs, ?_, ?_⟩, ownsRow_setCell_other h3 (h4 g rfl) _, h4, by simpa [World.setCell] using h5⟩
  · have := own_set h1 (j := fin.length * 3 + 1) (by omega) (.int .i64 t)
    rw [← hx] at this ⊢
    simpa using this
  · refine RdAll.keep (fun k hk hlt => ⟨hk, ?_⟩) _ _ h2
    exact Below.heap_setCell _ _ _ _ (fun e => hk.1.2 (by rw [e]; rfl))
/-- its new elements, grown by an append, and stored -/
theorem OpenE.setU {g n cap : Nat} {u' : Value} {l : List Int} (h : OpenE B fin e (.slice (some ⟨g, 0, none⟩) n cap) u wr) (ho : w'.ownsRow B 3 1 u' l.length (ints l)) (hg : wr.grownBy w' u.ownBlock) (hat : u'.ownBlock = u.ownBlock ∨ ∃ k, u'.ownBlock = some k ∧ wr.heap.size ≤ k) :
    OpenE B fin ⟨e.f, e.t, l⟩ (.slice (some ⟨g, 0, none⟩) n cap) u' (w'.setCell ⟨g, fin.length * 3 + 2, none⟩ u') := by
  obtain ⟨⟨xs, h1, h2⟩, h3, h4, h5⟩ := h
  have hgl := (h1.lt g rfl)
  have hx : xs.length = fin.length * 3 := by
    have := h1.1
    simp at this; omega
  obtain rfl : n = fin.length + 1 := by
    obtain ⟨_, _, e, _⟩ := own_len h1
    cases e; rfl
  have hug : u'.ownBlock ≠ some g := by
    rcases hat with e | ⟨k, e, hk⟩
    · rw [e]; exact h4 g rfl
    · rw [e]; intro hh; cases hh; omega
  have h1' : w'.ownsRow B 67 3 (.slice (some ⟨g, 0, none⟩) (fin.length + 1) cap) (fin.length + 1) (xs ++ [.int .i64 e.f, .int .i64 e.t, u]) := by
    obtain ⟨k1, k2⟩ := h1
    refine ⟨k1, ?_⟩
    rcases k2 with k2 | ⟨g', cap', cur, hv, hg', hh, k⟩
    · exact .inl k2
    · cases hv
      exact .inr ⟨g, cap, cur, rfl, hg', (hg.block g hgl.2 (fun e => h4 g rfl e.symm)).trans hh, k⟩
  refine ⟨⟨xs, ?_, ?_⟩, ownsRow_setCell_other ho hug _, fun k hk => by cases hk; exact hug, Nat.le_trans h5 (by simpa [World.setCell] using hg.size)⟩
  · have := own_set h1' (j := fin.length * 3 + 2) (by omega) u'
    rw [← hx] at this ⊢
    simpa using this
  · have k1 : ∀ k, u.ownBlock ≠ some k → k < wr.heap.size → u'.ownBlock ≠ some k := by
      intro k hk hlt
      rcases hat with e | ⟨k', e, hk'⟩
      · rw [e]; exact hk
      · rw [e]; intro hh; cases hh; omega
    have k2 : ∀ k, (Value.slice (some ⟨g, 0, none⟩) (fin.length + 1) cap).ownBlock ≠ some k → u.ownBlock ≠ some k → k < wr.heap.size → (w'.setCell ⟨g, fin.length * 3 + 2, none⟩ u').heap[k]? = wr.heap[k]? := by
      intro k hk hku hlt
      rw [Below.heap_setCell _ _ _ _ (fun e => hk (by rw [e]; rfl))]
      exact hg.block k hlt (fun e => hku e.symm)
    exact RdAll.keep (fun k hk hlt => ⟨⟨hk.1, k1 k hk.2 hlt⟩, k2 k hk.1.2 hk.2 hlt⟩) _ _ h2
/-- an append to its new elements, at a step of a region -/
theorem OpenE.app {g n cap nn gz cz : Nat} {W0 : World} {q : Int} (h : OpenE B fin e (.slice (some ⟨g, 0, none⟩) n cap) u wr) (hb : Below wr.heap.size wr W0) (ho : w'.ownsRow B 3 1 (.slice (some ⟨gz, 0, none⟩) (nn + 1) cz) (nn + 1) (ints e.new ++ [.int .i64 q])) (hg : W0.grownBy w' u.ownBlock) (hat : u.ownBlock = some gz ∨ gz = W0.heap.size) (hn : nn = e.new.length) :
    OpenE B fin ⟨e.f, e.t, e.new ++ [q]⟩ (.slice (some ⟨g, 0, none⟩) n cap) (.slice (some ⟨gz, 0, none⟩) (nn + 1) cz) (w'.setCell ⟨g, fin.length * 3 + 2, none⟩ (.slice (some ⟨gz, 0, none⟩) (nn + 1) cz)) ∧ w'.cell? ⟨g, fin.length * 3 + 2, none⟩ = some u ∧ w'.frozen? ⟨g, fin.length * 3 + 2, none⟩ = false ∧ (∀ k, u.ownBlock = some k → B ≤ k) ∧ B ≤ W0.heap.size ∧ B ≤ g := by
  subst hn
  have h0 := h.keep hb
  obtain ⟨g', cap', hv, _, _, hBg, hgl, hug, _, _, c2, hfz⟩ := h0.at
  obtain ⟨rfl, -⟩ : g = g' ∧ True := by cases hv; exact ⟨rfl, trivial⟩
  have hbl := hg.block g hgl (fun e => hug e.symm)
  refine ⟨?_, ?_, ?_, fun k hk => (h0.new.lt k hk).1, h0.le, hBg⟩
  · refine h0.setU (l := e.new ++ [q]) ?_ hg (at_lies hat)
    rw [show ints (e.new ++ [q]) = ints e.new ++ [.int .i64 q] by simp [ints], List.length_append]
    exact ho
  · rw [← c2]
    exact World.cell?_of_block hbl
  · rw [← hfz (fin.length * 3 + 2)]
    simp only [World.frozen?, hbl]
/-- behind the append of an edit without new elements -/
theorem openE_new {v' : Value} {f t : Int} {xs : List Value} (h1 : wr.ownsRow B 67 3 v fin.length xs) (h2 : RdAll (fun k => B ≤ k ∧ v.ownBlock ≠ some k) wr (fin.map Ed.d) xs) (hB : B ≤ wr.heap.size)
    (ho : w'.ownsRow B 67 3 v' (fin.length + 1) (xs ++ [.int .i64 f, .int .i64 t, .slice none 0 0])) (hg : wr.grownBy w' v.ownBlock) (hat : v'.ownBlock = v.ownBlock ∨ ∃ k, v'.ownBlock = some k ∧ wr.heap.size ≤ k) : OpenE B fin ⟨f, t, []⟩ v' (.slice none 0 0) w' := by
  refine ⟨⟨xs, ho, ?_⟩, World.ownsRow_nil _ _ _ _, fun k _ => by simp [Value.ownBlock], Nat.le_trans hB hg.size⟩
  refine RdAll.keep (fun k hk hlt => ⟨⟨⟨hk.1, ?_⟩, by simp [Value.ownBlock]⟩, hg.block k hlt (fun e => hk.2 e.symm)⟩) _ _ h2
  rcases hat with e | ⟨k', e, hk'⟩
  · rw [e]; exact hk.2
  · rw [e]; intro hh; cases hh; omega
end
theorem elEd : ElemT Try.prog 60 67 3 40 := ElemT.mk' (z := .agg #[.int .i64 0, .int .i64 0, .slice none 0 0]) (by kernel_rfl) (by kernel_rfl) rfl (by decide)
/-- the row, whether its last edit is open or not -/
def EdsR (B : Nat) (fin : List Ed) : Option Ed → Value → World → Prop
  | none, v, wr => RowD (fun k => B ≤ k) B 67 3 (fin.map Ed.d) v wr
  | some e, v, wr => ∃ u, OpenE B fin e v u wr
theorem EdsR.keep {B : Nat} {fin : List Ed} {cur : Option Ed} {v : Value} {wr w' : World} (h : EdsR B fin cur v wr) (hb : Below wr.heap.size wr w') : EdsR B fin cur v w' := by
  cases cur with
  | none => exact RowD.keep h hb
  | some e => obtain ⟨u, h⟩ := h; exact ⟨u, h.keep hb⟩
theorem EdsR.close {B : Nat} {fin : List Ed} {cur : Option Ed} {v : Value} {wr : World} (h : EdsR B fin cur v wr) : EdsR B (fin ++ cur.toList) none v wr := by
  cases cur with
  | none => simpa using h
  | some e => obtain ⟨u, h⟩ := h; exact h.close
theorem EdsR.form {B : Nat} {fin : List Ed} {cur : Option Ed} {v : Value} {wr : World} (h : EdsR B fin cur v wr) : ∃ a n cap, v = .slice a n cap ∧ n ≤ cap ∧ cap ≤ maxLen := by
  obtain ⟨a, cap, e, h1, h2, _⟩ := RowD.form h.close
  exact ⟨a, _, cap, e, h1, h2⟩
theorem EdsR.le {B : Nat} {fin : List Ed} {cur : Option Ed} {v : Value} {wr : World} (h : EdsR B fin cur v wr) : B ≤ wr.heap.size := (RowD.le h.close)
theorem EdsR.nil (B : Nat) (w : World) (h : B ≤ w.heap.size) : EdsR B [] none (.slice none 0 0) w := by simpa [EdsR] using RowD.nil (fun k => B ≤ k) B 67 3 w h
theorem EdsR.rd {B : Nat} {fin : List Ed} {cur : Option Ed} {v : Value} {wr : World} (h : EdsR B fin cur v wr) : Rd AnyB wr (.sl ((fin ++ cur.toList).map Ed.d)) [v] := (RowD.rd h.close).any
end Go.Proofs.Ytjehmleckcmilaa
