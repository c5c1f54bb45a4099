/- The contract of two; sizes of trees. -/
import Derived.Test.YtjehmleckcmilaaNodes
namespace Go.Proofs.Ytjehmleckcmilaa
open Go.RowKit

mutual
theorem nodes_size : ∀ t : Tree, (nodes t).length ≤ t.size
  | .node r tm ks => by
    have := nodesL_size ks
    rw [nodes, Tree.size]
    by_cases h : r = -1 <;> simp [h] <;> omega
theorem nodesL_size : ∀ ks : List Tree, (nodesL ks).length ≤ sizeL ks
  | [] => by simp [nodesL, sizeL]
  | k :: ks => by
    have := nodes_size k
    have := nodesL_size ks
    simp [nodesL, sizeL]; omega
end

/-- a block that is known whole is a row -/
theorem own_of_block {w : World} {g : Nat} {e : TypeId} {size n : Nat} {cur : Array Value} (h : w.heap[g]? = some (.cells cur e (0, 0))) (hn : cur.size = n * size) (hm : n ≤ maxLen) : w.ownsRow 0 e size (.slice (some ⟨g, 0, none⟩) n n) n cur.toList :=
  ⟨by simpa using hn, .inr ⟨_, n, cur, rfl, Nat.zero_le _, h, Nat.le_refl _, hm, hn, by rw [← hn]; exact List.take_of_length_le (by simp)⟩⟩

def twoT : Tree := .node 0 0 [.node 1 0 [.node (-1) 0 []], .node (-1) 0 []]
def ReadPost (t : Tree) (w : World) (e : Ending) (w' : World) : Prop := ∃ v, e = .returned (.agg #[.int .i64 t.rule, .int .i64 t.term, v]) ∧ Rd AnyB w' (.sl (t.kids.map Tree.d)) [v] ∧ Below w.heap.size w w'

set_option maxHeartbeats 1000000 in
theorem twoE (w : World) : Calls Try.prog 24 #[] w (ReadPost twoT w) := by
  go_enter Try.func24, Try.ntmps24
  go_wp2_with fail
  refine bodyPost_ret (v := .agg #[.int .i64 0, .int .i64 0, .slice (some ⟨w.heap.size + 1 + 1 + 1, 0, none⟩) 2 2]) (by simp [results, Try.results24, go_sem]) rfl ?_
  refine ⟨_, rfl, ?_, ((((Below.refl _ _).alloc (Nat.le_refl _) _).alloc (by simp) _).alloc (by simp; omega) _).alloc (by simp; omega) _⟩
  have l : ∀ W, Rd AnyB W (Tree.node (-1) 0 []).d [.int .i64 (-1), .int .i64 0, .slice none 0 0] := fun W => rd_tree (t := .node (-1) 0 []) (rd_nil _ _)
  refine rd_of_own (own_of_block (bx_new _ _ _ (by simp)) (n := 2) (size := 3) rfl (by simp [maxLen])) ?_ rfl (fun _ _ => trivial)
  refine ⟨[.int .i64 1, .int .i64 0, .slice (some ⟨w.heap.size + 1 + 1, 0, none⟩) 1 1], [.int .i64 (-1), .int .i64 0, .slice none 0 0], rfl, ?_, RdAll.one (l _)⟩
  refine rd_tree (t := .node 1 0 [.node (-1) 0 []]) ?_
  exact rd_of_own (own_of_block (bx_keep (bx_new _ _ _ (by simp)) ((Below.refl _ _).alloc (Nat.le_refl _) _)) (n := 1) (size := 3) rfl (by simp [maxLen])) (RdAll.one (l _)) rfl (fun _ _ => trivial)
end Go.Proofs.Ytjehmleckcmilaa
