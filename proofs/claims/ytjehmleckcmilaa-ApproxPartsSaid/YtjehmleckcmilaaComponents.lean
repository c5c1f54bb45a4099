/- The contract of approx.components. -/
import Derived.Test.YtjehmleckcmilaaOnly
import Derived.Test.YtjehmleckcmilaaDerivesW
import Derived.Deep.CutBlock
namespace Go.Proofs.Ytjehmleckcmilaa
open Go.RowKit

def CompsPost (g : Gram) (w : World) (e : Ending) (w' : World) : Prop :=
  ∃ v, e = .returned v ∧ Rd AnyB w' (.sl ((compsN g.rules (gEdges g) g.nons.toNat g.nons.toNat).map Comp.d)) [v] ∧ Below w.heap.size w w'

set_option maxHeartbeats 1000000 in
theorem comp1F (x : Nat) (b : Nat) (l : List Comp) (w : World) (hx : w.heap[b]? = some (.cells #[.int .i64 x] 3 (0, 0))) :
    PredComp 190 #[.pointer (some ⟨b, 0, none⟩)] l (fun c => inL c.nons x) w := by
  intro W c v _ hb hv
  obtain ⟨a, cap, rfl, -, -⟩ := hv.form
  obtain ⟨n, HN⟩ := nameIt (c.nons.map D.int).length
  have hs := sl_rd hv
  have hX := bx_keep hx hb
  have hbl : b < W.heap.size := (Array.getElem?_eq_some_iff.1 hX).1
  rw [HN.out]
  obtain ⟨k, HK⟩ := nameIt c.kind
  rw [HK.out]
  obtain ⟨w0, HW0⟩ := nameIt (W.alloc (.cells #[.int .i64 k, .slice a n cap] 98))
  have HB0 : Hid (Below W.heap.size W w0) := by rw [← HW0.out]; exact (Below.refl _ _).alloc (Nat.le_refl _) _
  have X1 : Hid (w0.heap[W.heap.size]? = some (.cells #[.int .i64 k, .slice a n cap] 98 (0, 0))) := by rw [← HW0.out]; exact bx_new _ _ _ rfl
  have hcc : Calls Try.prog 120 #[.slice a n cap, .int .i64 x] w0 fun e w' => e = .returned (.bool (inL c.nons x)) ∧ w0 = w' := by
    have h := containsInt a cap c.nons x w0 (by have := hs.keep HB0.out; rwa [List.length_map] at this)
    have hn : n = c.nons.length := by rw [← HN.out, List.length_map]
    rw [hn]
    exact h
  have HC := Lib.hid hcc
  obtain ⟨y0, y1⟩ := bx_cells2 X1.out
  have x0 := bx_cells1 (bx_keep hX HB0.out)
  clear hv hs hcc hX
  show Calls _ _ #[_, _] _ _
  go_enter Try.func190, Try.ntmps190
  go_upto_region 1 with fail
  rw [HW0.out]
  go_wp2_with fail
  refine HC.out.mono ?_
  rintro e w1 ⟨rfl, rfl⟩
  go_wp2_with fail
  go_ret
  exact ⟨rfl, HB0.out⟩

/-- what the rounds over the second nonterminal keep -/
structure CI (wC : World) (cb : Nat) (L : List Int) (k : Int) (wr : World) : Prop where
  row : ∃ u, wr.heap[cb]? = some (.cells #[.int .i64 k, u] 98 (0, 0)) ∧ wr.ownsRow (cb + 1) 3 1 u L.length (ints L)
  bel : Below cb wC wr
  lt : cb < wr.heap.size
theorem CI.keep {wC : World} {cb : Nat} {L : List Int} {k : Int} {wr w' : World} (h : CI wC cb L k wr) (hb : Below wr.heap.size wr w') : CI wC cb L k w' := by
  obtain ⟨⟨u, h1, h2⟩, h3, h4⟩ := h
  exact ⟨⟨u, bx_keep h1 hb, own_keep h2 hb⟩, h3.trans (hb.mono (by omega)), Nat.lt_of_lt_of_le h4 hb.size⟩
theorem CI.kind {wC : World} {cb : Nat} {L : List Int} {k : Int} {wr : World} (h : CI wC cb L k wr) (k' : Int) : CI wC cb L k' (wr.setCell ⟨cb, 0, none⟩ (.int .i64 k')) := by
  obtain ⟨⟨u, h1, h2⟩, h3, h4⟩ := h
  exact ⟨⟨u, by simpa using bx_set h1 0 (.int .i64 k'), ownsRow_setCell_below h2 (by show cb < cb + 1; omega) _⟩, h3.setCell (by show cb ≤ cb; omega) _, by simpa [World.setCell] using h4⟩
theorem cls_len (E : List (Nat × Nat)) (N a k : Nat) : (clsTo E N a k).length ≤ k := by
  unfold clsTo
  rw [List.length_map]
  exact Nat.le_trans (List.length_filter_le _ _) (by simp)
end Go.Proofs.Ytjehmleckcmilaa
