/- Contracts of the library's generic functions over slices of ints: Equal, Delete. -/
import Derived.Test.YtgpikophndbmeaaRows
import Derived.Test.YtgpikophndbmeaaLibTwo
namespace Go.Proofs.Ytgpikophndbmeaa
open Go.RowKit

def ints (l : List Int) : List Value := l.map (Value.int .i64)
theorem ints_len (l : List Int) : (ints l).length = l.length := by simp [ints]
theorem ints_get (l : List Int) (i : Nat) (h : i < (ints l).length) : (ints l)[i] = .int .i64 (l[i]'(by simpa [ints] using h)) := by simp [ints]
theorem ints_append (a b : List Int) : ints (a ++ b) = ints a ++ ints b := by simp [ints]

theorem elInt : ElemT Try.prog 48 3 1 8 := ElemT.mk' (z := .int .i64 0) Try.underlying48 (by kernel_rfl) rfl (by decide)

end Go.Proofs.Ytgpikophndbmeaa
