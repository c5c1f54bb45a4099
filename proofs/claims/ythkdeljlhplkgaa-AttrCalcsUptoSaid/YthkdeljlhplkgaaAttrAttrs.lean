/- The contract of attr.attrs. -/
import Derived.Test.YthkdeljlhplkgaaAttrValid
import Derived.Test.YthkdeljlhplkgaaVrow
namespace Go.Proofs.Ythkdeljlhplkgaa
open Go.RowKit
namespace At

theorem cntA_step {al : List Attr} {i : Nat} (h : i < al.length) (n : Int) : cntA (al.take (i + 1)) n = if n = al[i].non then cntA (al.take i) n + 1 else cntA (al.take i) n := by
  unfold cntA
  rw [List.take_succ_eq_append_getElem h, List.filter_append, List.length_append]
  by_cases e : n = al[i].non
  · rw [if_pos e]; simp [e]
  · rw [if_neg e]; simp [show ¬ al[i].non = n from fun h => e h.symm]
theorem cntA_le (al : List Attr) (i : Nat) (n : Int) : cntA (al.take i) n ≤ i := by
  unfold cntA
  have h1 := List.length_filter_le (fun a : Attr => decide (a.non = n)) (al.take i)
  have h2 := List.length_take_le i al
  omega
/-- the rounds -/
structure AtI (w : World) (bc N : Nat) (G S : Array Value) (al : List Attr) (i : Nat) (wr : World) : Prop where
  row : Vrow 3 bc N (fun k => .int .i64 (cntA (al.take i) (k : Int) : Nat)) wr
  b1 : wr.heap[w.heap.size]? = some (.cells G 24 (0, 0))
  b2 : wr.heap[w.heap.size + 1]? = some (.cells S 28 (0, 0))
  bel : Below w.heap.size w wr
theorem AtI.keep {w : World} {bc N : Nat} {G S : Array Value} {al : List Attr} {i : Nat} {wr w' : World} (h : AtI w bc N G S al i wr) (hb : Below wr.heap.size wr w') : AtI w bc N G S al i w' := ⟨h.row.keep hb, bx_keep h.b1 hb, bx_keep h.b2 hb, h.bel.trans (hb.mono h.bel.size)⟩
theorem AtI.step {w : World} {bc N : Nat} {G S : Array Value} {al : List Attr} {i : Nat} {wr : World} (h : AtI w bc N G S al i wr) (hbc : bc = w.heap.size + 1 + 1) (hi : i < al.length) {k : Nat} (hk : k < N) (hn : al[i].non = (k : Int)) {z : Int} (hz : z = (cntA (al.take i) (k : Int) : Nat) + 1) :
    AtI w bc N G S al (i + 1) (wr.setCell ⟨bc, k, none⟩ (.int .i64 z)) := by
  subst hz
  refine ⟨h.row.set hk (fun j _ => ?_), bx_other h.b1 (by omega) _ _, bx_other h.b2 (by omega) _ _, h.bel.setCell (by show w.heap.size ≤ bc; omega) _⟩
  rw [cntA_step hi, hn]
  by_cases e : j = k
  · subst e; simp
  · rw [if_neg (by omega), if_neg e]

end At
end Go.Proofs.Ythkdeljlhplkgaa
