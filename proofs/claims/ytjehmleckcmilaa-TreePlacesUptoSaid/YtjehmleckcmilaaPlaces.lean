/- Places of nodes, paths and leaves of trees, in plain Lean. -/
import Derived.Test.YtjehmleckcmilaaTreeFns
import Derived.Test.YtjehmleckcmilaaBelow
namespace Go.Proofs.Ytjehmleckcmilaa
open Go.RowKit

/-- the number of leaves -/
def lv (t : Tree) : Nat := (leavesOf (nodes t)).length
def lvs : List Tree → Nat
  | [] => 0
  | k :: ks => lv k + lvs ks
theorem leavesOf_append (a b : List Tree) : leavesOf (a ++ b) = leavesOf a ++ leavesOf b := by simp [leavesOf]
theorem lvs_nodesL : ∀ ks : List Tree, (leavesOf (nodesL ks)).length = lvs ks
  | [] => by simp [nodesL, leavesOf, lvs]
  | k :: ks => by rw [nodesL, leavesOf_append, List.length_append, lvs, lvs_nodesL ks]; rfl
theorem lv_leaf {t : Tree} (h : t.rule = -1) : lv t = 1 := by
  unfold lv
  rw [nodes_eq]
  simp [kidsOf, h, nodesL, leavesOf]
theorem lv_inner {t : Tree} (h : t.rule ≠ -1) : lv t = lvs t.kids := by
  unfold lv
  rw [nodes_eq, ← lvs_nodesL]
  simp [kidsOf, h, leavesOf]
theorem lvs_append : ∀ (a b : List Tree), lvs (a ++ b) = lvs a + lvs b
  | [], b => by simp [lvs]
  | x :: a, b => by rw [List.cons_append, lvs, lvs, lvs_append a b]; omega
theorem lvs_take_succ {ks : List Tree} {i : Nat} (h : i < ks.length) : lvs (ks.take (i + 1)) = lvs (ks.take i) + lv ks[i] := by
  induction ks generalizing i with
  | nil => simp at h
  | cons k ks ih =>
    cases i with
    | zero => simp [lvs]
    | succ i => simp only [List.take_succ_cons, lvs, List.getElem_cons_succ]; rw [ih (by simpa using h)]; omega

mutual
/-- the places in preorder, if n leaves come before -/
def pl : Tree → Nat → List (Nat × Nat)
  | .node r t ks, n => (n, n + lv (.node r t ks)) :: (if r = -1 then [] else plL ks n)
def plL : List Tree → Nat → List (Nat × Nat)
  | [], _ => []
  | k :: ks, n => pl k n ++ plL ks (n + lv k)
end
mutual
def paths : Tree → List (List Int)
  | .node r _ ks => [] :: (if r = -1 then [] else pathsL 0 ks)
def pathsL : Nat → List Tree → List (List Int)
  | _, [] => []
  | i, k :: ks => (paths k).map (fun p => (i : Int) :: p) ++ pathsL (i + 1) ks
end
def rangeT : Tree → List Int → Nat × Nat
  | t, [] => (0, lv t)
  | t, i :: p => match t.kids[i.toNat]? with
    | some k => (lvs (t.kids.take i.toNat) + (rangeT k p).1, lvs (t.kids.take i.toNat) + (rangeT k p).2)
    | none => (0, 0)
def shift (n : Nat) (x : Nat × Nat) : Nat × Nat := (n + x.1, n + x.2)
theorem shift_shift (a b : Nat) (x : Nat × Nat) : shift a (shift b x) = shift (a + b) x := by simp [shift, Nat.add_assoc]
theorem rangeT_cons {t k : Tree} {i : Nat} {p : List Int} (h : t.kids[i]? = some k) : rangeT t ((i : Int) :: p) = shift (lvs (t.kids.take i)) (rangeT k p) := by
  rw [rangeT]
  simp [h, shift]

mutual
theorem pl_paths : ∀ (t : Tree) (n : Nat), pl t n = (paths t).map fun p => shift n (rangeT t p)
  | .node r tm ks, n => by
    rw [pl, paths]
    by_cases h : r = -1
    · simp [h, shift, rangeT]
    · rw [if_neg h, if_neg h, List.map_cons]
      congr 1
      have := plL_paths ks (.node r tm ks) [] ks n (by simp [Tree.kids]) rfl
      simpa [lvs] using this
theorem plL_paths : ∀ (ks : List Tree) (t : Tree) (pre all : List Tree) (n : Nat), t.kids = pre ++ ks → all = ks → plL ks (n + lvs pre) = (pathsL pre.length ks).map fun p => shift n (rangeT t p)
  | [], t, pre, all, n, h, _ => by simp [plL, pathsL]
  | k :: ks, t, pre, all, n, h, _ => by
    rw [plL, pathsL, List.map_append, List.map_map]
    congr 1
    · rw [pl_paths k]
      refine List.map_congr_left fun p _ => ?_
      have hk : t.kids[pre.length]? = some k := by rw [h]; simp
      simp only [Function.comp]
      rw [rangeT_cons hk, shift_shift, h]
      simp
    · have := plL_paths ks t (pre ++ [k]) ks n (by rw [h]; simp) rfl
      have e : lvs (pre ++ [k]) = lvs pre + lv k := by rw [lvs_append]; simp [lvs]
      rw [e, List.length_append] at this
      rw [Nat.add_assoc]
      exact this
end
end Go.Proofs.Ytjehmleckcmilaa
