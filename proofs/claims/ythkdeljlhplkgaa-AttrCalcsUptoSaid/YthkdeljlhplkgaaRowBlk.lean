/- A block that is known whole is a row. -/
import Derived.Test.YthkdeljlhplkgaaData
namespace Go.Proofs.Ythkdeljlhplkgaa
open Go.RowKit

/-- a block that is known whole is a row -/
theorem own_of_block {w : World} {g : Nat} {e : TypeId} {size n : Nat} {cur : Array Value} (h : w.heap[g]? = some (.cells cur e (0, 0))) (hn : cur.size = n * size) (hm : n ≤ maxLen) : w.ownsRow 0 e size (.slice (some ⟨g, 0, none⟩) n n) n cur.toList :=
  ⟨by simpa using hn, .inr ⟨_, n, cur, rfl, Nat.zero_le _, h, Nat.le_refl _, hm, hn, by rw [← hn]; exact List.take_of_length_le (by simp)⟩⟩
end Go.Proofs.Ythkdeljlhplkgaa
