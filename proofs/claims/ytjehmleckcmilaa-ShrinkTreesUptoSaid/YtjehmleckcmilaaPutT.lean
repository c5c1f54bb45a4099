/- Trees with one subtree put in another's place: the words. -/
import Derived.Test.YtjehmleckcmilaaAt
import Derived.StillTailTactics
import Derived.Deep.DeepCutAuto
namespace Go.Proofs.Ytjehmleckcmilaa
open Go.RowKit

def putT : Tree → List Int → Tree → Tree
  | _, [], s => s
  | t, i :: p, s => .node t.rule t.term (t.kids.mapIdx fun j k => if (j : Int) = i then putT k p s else k)
def putK (t : Tree) (i : Int) (p : List Int) (s : Tree) : List Tree := t.kids.mapIdx fun j k => if (j : Int) = i then putT k p s else k
theorem putT_cons (t : Tree) (i : Int) (p : List Int) (s : Tree) : putT t (i :: p) s = .node t.rule t.term (putK t i p s) := rfl
theorem putK_len (t : Tree) (i : Int) (p : List Int) (s : Tree) : (putK t i p s).length = t.kids.length := by simp [putK]
theorem putK_take {t : Tree} {i : Int} {p : List Int} {s : Tree} {j : Nat} (h : j < t.kids.length) : (putK t i p s).take (j + 1) = (putK t i p s).take j ++ [if (j : Int) = i then putT t.kids[j] p s else t.kids[j]] := by
  rw [List.take_succ_eq_append_getElem (by rw [putK_len]; exact h)]
  simp [putK]

def WithPost (S0 : Nat → Prop) (t : Tree) (w : World) (e : Ending) (w' : World) : Prop :=
  ∃ v, e = .returned (.agg #[.int .i64 t.rule, .int .i64 t.term, v]) ∧ Rd (fun k => S0 k ∨ w.heap.size ≤ k) w' (.sl (t.kids.map Tree.d)) [v] ∧ Below w.heap.size w w'

structure WithRel (S0 : Nat → Prop) (t s : Tree) (vs : Value) (K : List Tree) (w : World) (i : Nat) (vr : Value) (wr : World) : Prop where
  row : RowRel (fun k => S0 k ∨ w.heap.size + 1 + 1 + 1 + 1 ≤ k) (w.heap.size + 1 + 1 + 1 + 1) (w.heap.size + 1 + 1 + 1) t.rule t.term (K.take i) vr wr
  res : wr.heap[w.heap.size + 1 + 1]? = some (.cells #[.int .i64 0, .int .i64 0, .slice none 0 0] 43 (0, 0))
  sub : wr.heap[w.heap.size + 1]? = some (.cells #[.int .i64 s.rule, .int .i64 s.term, vs] 43 (0, 0))
  bel : Below w.heap.size w wr

theorem WithRel.next {S0 : Nat → Prop} {t s pt : Tree} {vs u vr : Value} {K : List Tree} {w wr w3 w4 : World} {i g cap4 : Nat} {xs : List Value} (h : WithRel S0 t s vs K w i vr wr) (hb : Below wr.heap.size wr w3) (htl : (K.take i).length = i)
    (ho : wr.ownsRow (w.heap.size + 1 + 1 + 1 + 1) 43 3 vr i xs) (hd : RdAll (fun k => (S0 k ∨ w.heap.size + 1 + 1 + 1 + 1 ≤ k) ∧ vr.ownBlock ≠ some k) wr ((K.take i).map Tree.d) xs) (hk : K.take (i + 1) = K.take i ++ [pt])
    (hr : Rd (fun k => (S0 k ∨ w.heap.size + 1 + 1 + 1 + 1 ≤ k) ∧ vr.ownBlock ≠ some k) w3 (.sl (pt.kids.map Tree.d)) [u])
    (ho4 : w4.ownsRow (w.heap.size + 1 + 1 + 1 + 1) 43 3 (.slice (some ⟨g, 0, none⟩) (i + 1) cap4) (i + 1) (xs ++ [.int .i64 pt.rule, .int .i64 pt.term, u])) (hg : w3.grownBy w4 vr.ownBlock) (hat : vr.ownBlock = some g ∨ w3.heap.size ≤ g) :
    w4.heap[w.heap.size + 1 + 1 + 1]? = some (.cells #[.int .i64 t.rule, .int .i64 t.term, vr] 43 (0, 0)) ∧ WithRel S0 t s vs K w (i + 1) (.slice (some ⟨g, 0, none⟩) (i + 1) cap4) (w4.setCell ⟨w.heap.size + 1 + 1 + 1, 2, none⟩ (.slice (some ⟨g, 0, none⟩) (i + 1) cap4)) := by
  have hst := RowRel.step (h.row.keep hb) htl (own_keep ho hb) (hd.below hb) hr ho4 hg hat
  have hle := h.row.le
  have hsz := hb.size
  have hother : ∀ k, k < w.heap.size + 1 + 1 + 1 + 1 → k < wr.heap.size → w4.heap[k]? = w3.heap[k]? := fun k hk hlt => hg.block k (by omega) (fun e => by have := (ho.lt k e.symm).1; omega)
  refine ⟨hst.1, ⟨by rw [hk]; exact hst.2, ?_, ?_, ?_⟩⟩
  · refine bx_other ?_ (by omega) _ _
    rw [hother _ (by omega) (by omega)]; exact bx_keep h.res hb
  · refine bx_other ?_ (by omega) _ _
    rw [hother _ (by omega) (by omega)]; exact bx_keep h.sub hb
  · exact ((h.bel.trans (hb.mono h.bel.size)).grown hg (by have := h.bel.size; omega) (fun k e => by have := (ho.lt k e).1; omega)).setCell (by simp; omega) _

/-- the rest of a path -/
theorem sl_tail {w : World} {a : Option Addr} {cap : Nat} {x : Int} {p : List Int} (h : Sl w (.slice a (x :: p).length cap) (ints (x :: p))) : Sl w (.slice (if cap = 1 then a else a.map fun y => y.add 1) p.length (cap - 1)) (ints p) := by
  have h1 := h.part (i := 1) (j := (x :: p).length) (by simp) (Nat.le_refl _)
  have e : ((ints (x :: p)).drop 1).take ((x :: p).length - 1) = ints p := by simp [ints, List.take_of_length_le]
  rw [e] at h1
  simpa using h1
end Go.Proofs.Ytjehmleckcmilaa
