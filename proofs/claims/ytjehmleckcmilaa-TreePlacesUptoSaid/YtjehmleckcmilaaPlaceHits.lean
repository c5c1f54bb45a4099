/- Which paths lead to the leaf with a number, in plain Lean. -/
import Derived.Test.YtjehmleckcmilaaInsideWalk
import Derived.Test.YtjehmleckcmilaaPathsWalk
namespace Go.Proofs.Ytjehmleckcmilaa
open Go.RowKit

def leafAt (t : Tree) (p : List Int) : Bool := match belowT t p with | some x => x.rule == -1 | none => false
def hit (t : Tree) (n : Int) (p : List Int) : Bool := leafAt t p && decide (((rangeT t p).1 : Int) = n)
theorem hit_cons {t k : Tree} (hr : t.rule ≠ -1) {j : Nat} (hj : t.kids[j]? = some k) (n : Int) (p : List Int) : hit t n ((j : Int) :: p) = hit k (n - lvs (t.kids.take j)) p := by
  obtain ⟨h1, h2⟩ := List.getElem?_eq_some_iff.1 hj
  unfold hit leafAt
  rw [belowT, kidAt_in hr h1, h2, rangeT_cons hj]
  simp only [Option.bind_some, shift]
  congr 1
  exact decide_eq_decide.2 ⟨fun h => by omega, fun h => by omega⟩

mutual
theorem hits : ∀ (t : Tree) (n : Int), (paths t).filter (hit t n) = if 0 ≤ n ∧ n < lv t then [leafP t n.toNat] else []
  | .node r tm ks, n => by
    rw [paths]
    by_cases h : r = -1
    · have hl : lv (.node r tm ks) = 1 := lv_leaf (by simpa [Tree.rule] using h)
      have hp : leafP (.node r tm ks) n.toNat = [] := leafP_leaf (by simpa [Tree.rule] using h) _
      rw [hl, hp, if_pos h]
      have h0 : hit (.node r tm ks) n [] = decide (n = 0) := by
        simp only [hit, leafAt, belowT, rangeT_nil, Tree.rule, h]
        simp only [beq_self_eq_true, Bool.true_and]
        exact decide_eq_decide.2 ⟨fun h => by omega, fun h => by omega⟩
      rw [List.filter_cons, h0]
      by_cases hn : n = 0
      · simp [hn]
      · rw [if_neg (by simpa using hn), if_neg (by omega)]; rfl
    · have hl : lv (.node r tm ks) = lvs ks := lv_inner (by simpa [Tree.rule] using h)
      have hp : leafP (.node r tm ks) n.toNat = leafPL 0 ks n.toNat := by simp [leafP, h]
      have h0 : hit (.node r tm ks) n [] = false := by simp [hit, leafAt, belowT, Tree.rule, h]
      rw [hl, hp, if_neg h, List.filter_cons, h0]
      have := hitsL ks (.node r tm ks) [] (by simpa [Tree.rule] using h) (by simp [Tree.kids]) n
      simpa [lvs] using this
theorem hitsL : ∀ (ks : List Tree) (t : Tree) (pre : List Tree), t.rule ≠ -1 → t.kids = pre ++ ks → ∀ n : Int, (pathsL pre.length ks).filter (hit t n) = if 0 ≤ n - lvs pre ∧ n - lvs pre < lvs ks then [leafPL pre.length ks (n - lvs pre).toNat] else []
  | [], t, pre, hr, hk, n => by
    rw [pathsL, lvs, if_neg (by omega)]; rfl
  | k :: ks, t, pre, hr, hk, n => by
    have hj : t.kids[pre.length]? = some k := by rw [hk]; simp
    have ht : t.kids.take pre.length = pre := by rw [hk]; simp
    have hrest := hitsL ks t (pre ++ [k]) hr (by rw [hk]; simp) n
    have e1 : lvs (pre ++ [k]) = lvs pre + lv k := by rw [lvs_append]; simp [lvs]
    rw [e1, List.length_append] at hrest
    have hfirst : ((paths k).map fun p => (pre.length : Int) :: p).filter (hit t n) = if 0 ≤ n - lvs pre ∧ n - lvs pre < lv k then [(pre.length : Int) :: leafP k (n - lvs pre).toNat] else [] := by
      rw [List.filter_map]
      have e : (hit t n ∘ fun p => (pre.length : Int) :: p) = hit k (n - lvs pre) := by
        funext p
        simp only [Function.comp]
        rw [hit_cons hr hj, ht]
      rw [e, hits k (n - lvs pre)]
      split <;> simp
    rw [pathsL, List.filter_append, hfirst]
    have e2 : (pathsL (pre.length + 1) ks).filter (hit t n) = _ := hrest
    rw [e2, lvs, leafPL]
    by_cases c1 : 0 ≤ n - lvs pre
    · by_cases c2 : n - lvs pre < lv k
      · rw [if_pos ⟨c1, c2⟩, if_neg (by omega), if_pos (by omega), if_pos (by omega)]; rfl
      · rw [if_neg (by omega), if_neg (show ¬ (n - (lvs pre : Int)).toNat < lv k by omega)]
        by_cases c3 : n - lvs pre < lv k + lvs ks
        · rw [if_pos (by omega), if_pos (by omega)]
          simp only [List.nil_append]
          congr 2
          omega
        · rw [if_neg (by omega), if_neg (by omega)]; rfl
    · rw [if_neg (by omega), if_neg (by omega), if_neg (by omega)]; rfl
end
/-- the last path found among the first ones -/
def found (t : Tree) (n : Int) (L : List (List Int)) : Option (List Int) := (L.filter (hit t n)).getLast?
theorem found_snoc (t : Tree) (n : Int) (L : List (List Int)) (p : List Int) : found t n (L ++ [p]) = if hit t n p then some p else found t n L := by
  unfold found
  rw [List.filter_append]
  by_cases h : hit t n p = true
  · rw [if_pos h]; simp [h]
  · rw [if_neg h]; simp [h]
theorem found_all (t : Tree) (n : Int) : found t n (paths t) = if 0 ≤ n ∧ n < lv t then some (leafP t n.toNat) else none := by
  unfold found
  rw [hits]
  split <;> rfl
mutual
theorem paths_below : ∀ (t : Tree), ∀ p ∈ paths t, ∃ x, belowT t p = some x
  | .node r tm ks => by
    rw [paths]
    by_cases h : r = -1
    · simp [h, belowT]
    · rw [if_neg h]
      intro p hp
      rw [List.mem_cons] at hp
      rcases hp with rfl | hp
      · exact ⟨_, rfl⟩
      · exact pathsL_below ks (.node r tm ks) [] (by simpa [Tree.rule] using h) (by simp [Tree.kids]) p hp
theorem pathsL_below : ∀ (ks : List Tree) (t : Tree) (pre : List Tree), t.rule ≠ -1 → t.kids = pre ++ ks → ∀ p ∈ pathsL pre.length ks, ∃ x, belowT t p = some x
  | [], t, pre, hr, hk => by simp [pathsL]
  | k :: ks, t, pre, hr, hk => by
    intro p hp
    rw [pathsL, List.mem_append] at hp
    rcases hp with hp | hp
    · rw [List.mem_map] at hp
      obtain ⟨q, hq, rfl⟩ := hp
      obtain ⟨x, hx⟩ := paths_below k q hq
      have hj : pre.length < t.kids.length := by rw [hk]; simp
      refine ⟨x, ?_⟩
      rw [belowT, kidAt_in hr hj]
      simp only [Option.bind_some]
      have : t.kids[pre.length] = k := by simp [hk]
      rw [this]; exact hx
    · have := pathsL_below ks t (pre ++ [k]) hr (by rw [hk]; simp) p
      rw [List.length_append] at this
      exact this hp
end
theorem pl_range (t : Tree) : pl t 0 = (paths t).map (rangeT t) := by
  rw [pl_paths]
  refine List.map_congr_left fun p _ => ?_
  simp [shift]
end Go.Proofs.Ytjehmleckcmilaa
