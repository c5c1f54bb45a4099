/- The contracts of cmp.Compare, cmp.Or, slices.Compare of whole numbers. -/
import Derived.Test.YtgpikophndbmeaaSlicesTwo
import Derived.Deep.LoopGhost
import Derived.Deep.Cut
import Derived.Shelf.Abstract
namespace Go.Proofs.Ytgpikophndbmeaa
open Go.RowKit

def cmp3 (a b : Int) : Int := if a < b then -1 else if b < a then 1 else 0
theorem cmp3_self (a : Int) : cmp3 a a = 0 := by simp [cmp3]
theorem cmp3_zero {a b : Int} (h : cmp3 a b = 0) : a = b := by
  unfold cmp3 at h
  by_cases h1 : a < b
  · simp [h1] at h
  · by_cases h2 : b < a
    · simp [h1, h2] at h
    · omega
def cmpL : List Int → List Int → Int
  | [], [] => 0
  | [], _ :: _ => -1
  | _ :: _, [] => 1
  | x :: l, y :: m => if cmp3 x y = 0 then cmpL l m else cmp3 x y
def orL : List Int → Int
  | [] => 0
  | x :: l => if x = 0 then orL l else x

theorem cmpL_at {l m : List Int} {i : Nat} (h : i < l.length) (h2 : i < m.length) : cmpL (l.drop i) (m.drop i) = if cmp3 l[i] m[i] = 0 then cmpL (l.drop (i + 1)) (m.drop (i + 1)) else cmp3 l[i] m[i] := by
  rw [List.drop_eq_getElem_cons h, List.drop_eq_getElem_cons h2, cmpL]
theorem cmpL_long {l m : List Int} {i : Nat} (h : i < l.length) (h2 : m.length ≤ i) : cmpL (l.drop i) (m.drop i) = 1 := by
  rw [List.drop_eq_getElem_cons h, List.drop_of_length_le h2, cmpL]
theorem cmpL_short {l m : List Int} {i : Nat} (h : l.length ≤ i) (h2 : i < m.length) : cmpL (l.drop i) (m.drop i) = -1 := by
  rw [List.drop_eq_getElem_cons h2, List.drop_of_length_le h, cmpL]
theorem cmpL_end {l m : List Int} {i : Nat} (h : l.length ≤ i) (h2 : m.length ≤ i) : cmpL (l.drop i) (m.drop i) = 0 := by
  rw [List.drop_of_length_le h2, List.drop_of_length_le h, cmpL]

end Go.Proofs.Ytgpikophndbmeaa
