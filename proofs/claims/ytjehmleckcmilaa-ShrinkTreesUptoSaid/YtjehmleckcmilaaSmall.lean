/- Smaller trees, in plain Lean: two ways to list them, and that they agree. -/
import Derived.Test.YtjehmleckcmilaaPutT
import Derived.Test.YtjehmleckcmilaaTreeOk
namespace Go.Proofs.Ytjehmleckcmilaa
open Go.RowKit

mutual
/-- all subtrees in preorder -/
def parts : Tree → List Tree
  | .node r t ks => .node r t ks :: partsL ks
def partsL : List Tree → List Tree
  | [] => []
  | k :: ks => parts k ++ partsL ks
end
mutual
/-- their paths -/
def aps : Tree → List (List Int)
  | .node _ _ ks => [] :: apsL 0 ks
def apsL : Nat → List Tree → List (List Int)
  | _, [] => []
  | n, k :: ks => (aps k).map (fun p => (n : Int) :: p) ++ apsL (n + 1) ks
end
mutual
/-- the subtree with the number n replaced -/
def chg : Tree → Int → Tree → Tree × Int
  | .node r t ks, n, b => if n = 0 then (b, -1) else (.node r t (chgL ks (n - 1) b).1, (chgL ks (n - 1) b).2)
def chgL : List Tree → Int → Tree → List Tree × Int
  | [], n, _ => ([], n)
  | k :: ks, n, b => if 0 ≤ n then ((chg k n b).1 :: (chgL ks (chg k n b).2 b).1, (chgL ks (chg k n b).2 b).2) else (k :: (chgL ks n b).1, (chgL ks n b).2)
end
mutual
/-- leaves have no kids, and all rules are there -/
def good (g : Gram) : Tree → Prop
  | .node r _ ks => (r = -1 → ks = []) ∧ -1 ≤ r ∧ r < g.rules.length ∧ goodL g ks
def goodL (g : Gram) : List Tree → Prop
  | [] => True
  | k :: ks => good g k ∧ goodL g ks
end

theorem parts_eq (t : Tree) : parts t = t :: partsL t.kids := by cases t; simp [parts, Tree.kids]
theorem aps_eq (t : Tree) : aps t = [] :: apsL 0 t.kids := by cases t; simp [aps, Tree.kids]
theorem chg_eq (t : Tree) (n : Int) (b : Tree) (h : n ≠ 0) : chg t n b = (.node t.rule t.term (chgL t.kids (n - 1) b).1, (chgL t.kids (n - 1) b).2) := by
  cases t; simp [chg, Tree.kids, Tree.rule, Tree.term, h]
theorem chg_zero (t b : Tree) : chg t 0 b = (b, -1) := by cases t; simp [chg]
theorem good_eq {g : Gram} {t : Tree} : good g t ↔ (t.rule = -1 → t.kids = []) ∧ -1 ≤ t.rule ∧ t.rule < g.rules.length ∧ goodL g t.kids := by cases t; simp [good, Tree.kids, Tree.rule]
theorem goodL_iff {g : Gram} : ∀ {ks : List Tree}, goodL g ks ↔ ∀ k ∈ ks, good g k
  | [] => by simp [goodL]
  | k :: ks => by simp [goodL, goodL_iff (ks := ks)]
theorem partsL_append : ∀ (a b : List Tree), partsL (a ++ b) = partsL a ++ partsL b
  | [], b => by simp [partsL]
  | x :: a, b => by simp [partsL, partsL_append a b]
theorem partsL_take {ks : List Tree} {i : Nat} (h : i < ks.length) : partsL (ks.take (i + 1)) = partsL (ks.take i) ++ parts ks[i] := by
  rw [List.take_succ_eq_append_getElem h, partsL_append]; simp [partsL]
theorem apsL_append : ∀ (a b : List Tree) (n : Nat), apsL n (a ++ b) = apsL n a ++ apsL (n + a.length) b
  | [], b, n => by simp [apsL]
  | x :: a, b, n => by
    rw [List.cons_append, apsL, apsL, apsL_append a b, List.append_assoc, List.length_cons]
    congr 3; omega
theorem apsL_take {ks : List Tree} {i : Nat} (h : i < ks.length) : apsL 0 (ks.take (i + 1)) = apsL 0 (ks.take i) ++ (aps ks[i]).map (fun p => (i : Int) :: p) := by
  rw [List.take_succ_eq_append_getElem h, apsL_append]
  simp [apsL, Nat.min_eq_left (Nat.le_of_lt h)]
theorem chgL_append : ∀ (a c : List Tree) (n : Int) (b : Tree), chgL (a ++ c) n b = ((chgL a n b).1 ++ (chgL c (chgL a n b).2 b).1, (chgL c (chgL a n b).2 b).2)
  | [], c, n, b => by simp [chgL]
  | k :: a, c, n, b => by
    rw [List.cons_append, chgL, chgL]
    by_cases h : 0 ≤ n
    · rw [if_pos h, if_pos h, chgL_append a c]; simp
    · rw [if_neg h, if_neg h, chgL_append a c]; simp
theorem chgL_len : ∀ (ks : List Tree) (n : Int) (b : Tree), (chgL ks n b).1.length = ks.length
  | [], n, b => by simp [chgL]
  | k :: ks, n, b => by
    rw [chgL]
    by_cases h : 0 ≤ n
    · rw [if_pos h]; simp [chgL_len ks]
    · rw [if_neg h]; simp [chgL_len ks]
theorem chgL_take {ks : List Tree} {i : Nat} (h : i < ks.length) (n : Int) (b : Tree) : chgL (ks.take (i + 1)) n b =
    if 0 ≤ (chgL (ks.take i) n b).2 then ((chgL (ks.take i) n b).1 ++ [(chg ks[i] (chgL (ks.take i) n b).2 b).1], (chg ks[i] (chgL (ks.take i) n b).2 b).2) else ((chgL (ks.take i) n b).1 ++ [ks[i]], (chgL (ks.take i) n b).2) := by
  rw [List.take_succ_eq_append_getElem h, chgL_append]
  split <;> rename_i h1 <;> simp [chgL, h1]

mutual
theorem parts_len : ∀ t : Tree, (parts t).length = t.size
  | .node r tm ks => by simp [parts, Tree.size, partsL_len ks]
theorem partsL_len : ∀ ks : List Tree, (partsL ks).length = sizeL ks
  | [] => by simp [partsL, sizeL]
  | k :: ks => by simp [partsL, sizeL, parts_len k, partsL_len ks]
end
mutual
theorem aps_len : ∀ t : Tree, (aps t).length = t.size
  | .node r tm ks => by simp [aps, Tree.size, apsL_len ks]
theorem apsL_len : ∀ (ks : List Tree) (n : Nat), (apsL n ks).length = sizeL ks
  | [], n => by simp [apsL, sizeL]
  | k :: ks, n => by simp [apsL, sizeL, aps_len k, apsL_len ks]
end
mutual
theorem ap_le : ∀ (t : Tree), ∀ p ∈ aps t, p.length < t.size
  | .node r tm ks => by
    rw [aps, Tree.size]
    intro p hp
    rcases List.mem_cons.1 hp with rfl | hp
    · simp
    · have := apL_le ks 0 p hp; omega
theorem apL_le : ∀ (ks : List Tree) (n : Nat), ∀ p ∈ apsL n ks, p.length ≤ sizeL ks
  | [], n => by simp [apsL]
  | k :: ks, n => by
    rw [apsL, sizeL]
    intro p hp
    rw [List.mem_append] at hp
    rcases hp with hp | hp
    · rw [List.mem_map] at hp
      obtain ⟨q, hq, rfl⟩ := hp
      have := ap_le k q hq
      simp; omega
    · have := apL_le ks (n + 1) p hp; omega
end
mutual
theorem part_size : ∀ (t : Tree), ∀ y ∈ parts t, y.size ≤ t.size
  | .node r tm ks => by
    rw [parts]
    intro y hy
    rcases List.mem_cons.1 hy with rfl | hy
    · exact Nat.le_refl _
    · have := partL_size ks y hy; rw [Tree.size]; omega
theorem partL_size : ∀ (ks : List Tree), ∀ y ∈ partsL ks, y.size ≤ sizeL ks
  | [] => by simp [partsL]
  | k :: ks => by
    rw [partsL, sizeL]
    intro y hy
    rcases List.mem_append.1 hy with hy | hy
    · have := part_size k y hy; omega
    · have := partL_size ks y hy; omega
end
mutual
theorem good_part {g : Gram} : ∀ (t : Tree), good g t → ∀ y ∈ parts t, good g y
  | .node r tm ks, h => by
    rw [parts]
    intro y hy
    rcases List.mem_cons.1 hy with rfl | hy
    · exact h
    · rw [good] at h; exact goodL_part ks h.2.2.2 y hy
theorem goodL_part {g : Gram} : ∀ (ks : List Tree), goodL g ks → ∀ y ∈ partsL ks, good g y
  | [], _ => by simp [partsL]
  | k :: ks, h => by
    rw [partsL]
    rw [goodL] at h
    intro y hy
    rcases List.mem_append.1 hy with hy | hy
    · exact good_part k h.1 y hy
    · exact goodL_part ks h.2 y hy
end
mutual
theorem nodes_parts {g : Gram} : ∀ (t : Tree), good g t → nodes t = parts t
  | .node r tm ks, h => by
    rw [good] at h
    rw [nodes, parts]
    by_cases hr : r = -1
    · rw [if_pos hr, h.1 hr, partsL]
    · rw [if_neg hr, nodesL_parts ks h.2.2.2]
theorem nodesL_parts {g : Gram} : ∀ (ks : List Tree), goodL g ks → nodesL ks = partsL ks
  | [], _ => by simp [nodesL, partsL]
  | k :: ks, h => by
    rw [goodL] at h
    rw [nodesL, partsL, nodes_parts k h.1, nodesL_parts ks h.2]
end
theorem nodes_sizeG {g : Gram} {t : Tree} (h : good g t) : (nodes t).length = t.size := by rw [nodes_parts t h, parts_len]
mutual
theorem good_of {g : Gram} : ∀ (t : Tree), (nodes t).all (nodeOk g) = true → good g t
  | .node r tm ks, h => by
    rw [nodes, List.all_cons, Bool.and_eq_true] at h
    obtain ⟨h1, h2⟩ := h
    rw [good]
    by_cases hr : r = -1
    · have hk : ks = [] := by
        simp [nodeOk, Tree.rule, Tree.kids, hr] at h1
        exact h1.2.2
      subst hk
      exact ⟨fun _ => rfl, by omega, by omega, trivial⟩
    · rw [if_neg hr] at h2
      refine ⟨fun e => absurd e hr, ?_, ?_, goodL_of ks h2⟩
      · by_cases h0 : r < 0
        · simp [nodeOk, Tree.rule, hr, h0] at h1
        · omega
      · by_cases h0 : r < 0
        · omega
        · by_cases h3 : r.toNat < g.rules.length
          · omega
          · have e : g.rules[r.toNat]? = none := List.getElem?_eq_none (by omega)
            simp [nodeOk, Tree.rule, hr, h0, e] at h1
theorem goodL_of {g : Gram} : ∀ (ks : List Tree), (nodesL ks).all (nodeOk g) = true → goodL g ks
  | [], _ => trivial
  | k :: ks, h => by
    rw [nodesL, List.all_append, Bool.and_eq_true] at h
    exact ⟨good_of k h.1, goodL_of ks h.2⟩
end

/-- what lies at the paths are the parts -/
theorem aps_parts {g : Gram} : ∀ (m : Nat) (t : Tree), t.size ≤ m → good g t → (aps t).map (belowT t) = (parts t).map some
  | 0, t, hm, _ => by have := t.size_pos; omega
  | m + 1, t, hm, h => by
    rw [aps_eq, parts_eq, List.map_cons, List.map_cons, belowT]
    congr 1
    obtain ⟨h1, -, -, h4⟩ := good_eq.1 h
    rw [Tree.size_eq] at hm
    by_cases hr : t.rule = -1
    · rw [h1 hr]; simp [apsL, partsL]
    · have key : ∀ (ks : List Tree) (n : Nat), t.kids.drop n = ks → sizeL ks ≤ m → goodL g ks → (apsL n ks).map (belowT t) = (partsL ks).map some := by
        intro ks
        induction ks with
        | nil => intro n _ _ _; simp [apsL, partsL]
        | cons k ks ih =>
          intro n hd hs hg
          rw [goodL] at hg
          rw [sizeL] at hs
          rw [apsL, partsL, List.map_append, List.map_append, ih (n + 1) (by rw [← List.drop_drop, hd]; rfl) (by omega) hg.2]
          congr 1
          rw [← aps_parts m k (by omega) hg.1, List.map_map]
          refine List.map_congr_left fun p _ => ?_
          have hk : t.kids[n]? = some k := by rw [← List.head?_drop, hd]; rfl
          have hn0 : ¬ (n : Int) < 0 := by omega
          simp [belowT, kidAt, hr, hk, hn0, Function.comp]
      exact key t.kids 0 rfl (by omega) h4
theorem ap_below {g : Gram} {t : Tree} (h : good g t) (n : Nat) (hn : n < (aps t).length) : belowT t (aps t)[n] = some ((parts t)[n]'(by rw [parts_len, ← aps_len]; exact hn)) := by
  have e := aps_parts _ t (Nat.le_refl _) h
  have hp : n < (parts t).length := by rw [parts_len, ← aps_len]; exact hn
  have h1 : ((aps t).map (belowT t))[n]? = ((parts t).map some)[n]? := by rw [e]
  rw [List.getElem?_map, List.getElem?_map, List.getElem?_eq_getElem hn, List.getElem?_eq_getElem hp] at h1
  simpa using h1

theorem chgL_done : ∀ (ks : List Tree) (b : Tree), chgL ks (-1) b = (ks, -1)
  | [], b => by simp [chgL]
  | k :: ks, b => by rw [chgL, if_neg (by omega), chgL_done ks b]
mutual
theorem chg_past : ∀ (t : Tree) (n : Nat) (b : Tree), t.size ≤ n → chg t n b = (t, (n : Int) - t.size)
  | .node r tm ks, n, b, h => by
    rw [Tree.size] at h
    have h1 := chgL_past ks (n - 1) b (by omega)
    rw [show ((n - 1 : Nat) : Int) = (n : Int) - 1 by omega] at h1
    rw [chg, if_neg (by omega), h1, Tree.size]
    simp; omega
theorem chgL_past : ∀ (ks : List Tree) (n : Nat) (b : Tree), sizeL ks ≤ n → chgL ks n b = (ks, (n : Int) - sizeL ks)
  | [], n, b, h => by simp [chgL, sizeL]
  | k :: ks, n, b, h => by
    rw [sizeL] at h
    have h1 := chg_past k n b (by omega)
    have h2 := chgL_past ks (n - k.size) b (by omega)
    rw [show ((n - k.size : Nat) : Int) = (n : Int) - k.size by omega] at h2
    rw [chgL, if_pos (by omega), h1, h2, sizeL]
    simp; omega
end
theorem mapIdx_if {ks : List Tree} (j : Nat) (f : Tree → Tree) : (ks.mapIdx fun m k => if (m : Int) = (j : Int) then f k else k) = ks.modify j f := by
  refine List.ext_getElem (by simp) fun i h1 h2 => ?_
  simp only [List.getElem_mapIdx, List.getElem_modify]
  by_cases e : j = i
  · rw [if_pos (by omega), if_pos e]
  · rw [if_neg (by omega), if_neg e]
theorem putT_modify (t : Tree) (j : Nat) (p : List Int) (b : Tree) : putT t ((j : Int) :: p) b = .node t.rule t.term (t.kids.modify j fun k => putT k p b) := by
  rw [putT, mapIdx_if j fun k => putT k p b]
mutual
/-- the n-th path replaced is the n-th part changed -/
theorem chg_put : ∀ (t : Tree) (n : Nat) (b : Tree) (h : n < (aps t).length), chg t n b = (putT t (aps t)[n] b, -1)
  | .node r tm ks, n, b, h => by
    cases n with
    | zero => simp [chg, aps, putT]
    | succ n =>
      have hn : n < (apsL 0 ks).length := by simpa [aps] using h
      obtain ⟨j, p, e1, e2, e3⟩ := chgL_put ks 0 n b hn
      rw [chg, if_neg (by omega)]
      rw [show ((n + 1 : Nat) : Int) - 1 = (n : Int) by omega, e3]
      have e4 : (aps (.node r tm ks))[n + 1] = (apsL 0 ks)[n] := by simp [aps]
      rw [e4, e1, Nat.zero_add, putT_modify]
      rfl
theorem chgL_put : ∀ (ks : List Tree) (m n : Nat) (b : Tree) (h : n < (apsL m ks).length), ∃ j p, (apsL m ks)[n] = ((m + j : Nat) : Int) :: p ∧ j < ks.length ∧ chgL ks n b = (ks.modify j (fun k => putT k p b), -1)
  | [], m, n, b, h => by simp [apsL] at h
  | k :: ks, m, n, b, h => by
    by_cases hn : n < (aps k).length
    · refine ⟨0, (aps k)[n], ?_, by simp, ?_⟩
      · simp only [apsL]
        rw [List.getElem_append_left (by simpa using hn)]; simp
      · rw [chgL, if_pos (by omega), chg_put k n b hn, chgL_done]
        simp
    · have hl := h
      simp only [apsL, List.length_append, List.length_map] at hl
      have hs : k.size ≤ n := by rw [← aps_len]; omega
      obtain ⟨j, p, e1, e2, e3⟩ := chgL_put ks (m + 1) (n - k.size) b (by rw [aps_len] at hl; omega)
      refine ⟨j + 1, p, ?_, by simpa using e2, ?_⟩
      · simp only [apsL]
        rw [List.getElem_append_right (by simp; omega)]
        simp only [List.length_map, aps_len]
        rw [e1, show m + 1 + j = m + (j + 1) by omega]
      · rw [chgL, if_pos (by omega), chg_past k n b hs]
        simp only
        rw [show (n : Int) - k.size = ((n - k.size : Nat) : Int) by omega, e3]
        simp
end

theorem sizeL_modify : ∀ (ks : List Tree) (j : Nat) (f : Tree → Tree) (h : j < ks.length), sizeL (ks.modify j f) + ks[j].size = sizeL ks + (f ks[j]).size
  | [], j, f, h => by simp at h
  | k :: ks, 0, f, h => by simp [sizeL]; omega
  | k :: ks, j + 1, f, h => by
    have := sizeL_modify ks j f (by simpa using h)
    simp [sizeL]; omega
theorem kid_some {t : Tree} {i : Int} {k : Tree} (h : kidAt t i = some k) : t.rule ≠ -1 ∧ ∃ j : Nat, i = (j : Int) ∧ ∃ h : j < t.kids.length, t.kids[j] = k := by
  unfold kidAt at h
  split at h
  · cases h
  · rename_i hn
    simp only [not_or] at hn
    obtain ⟨h1, h2⟩ := List.getElem?_eq_some_iff.1 h
    exact ⟨hn.1, i.toNat, by omega, h1, h2⟩
theorem putT_size_eq : ∀ (p : List Int) (t x b : Tree), belowT t p = some x → (putT t p b).size + x.size = t.size + b.size
  | [], t, x, b, h => by simp [belowT] at h; subst h; rw [putT]; omega
  | i :: p, t, x, b, h => by
    rw [belowT] at h
    cases hk : kidAt t i with
    | none => rw [hk] at h; cases h
    | some k =>
      rw [hk] at h
      obtain ⟨_, j, rfl, hj, hjk⟩ := kid_some hk
      have h1 := putT_size_eq p k x b h
      have h2 := sizeL_modify t.kids j (fun k => putT k p b) hj
      rw [putT_modify, Tree.size, Tree.size_eq t]
      simp only [hjk] at h2
      omega
theorem putT_good {g : Gram} : ∀ (p : List Int) (t x b : Tree), belowT t p = some x → good g t → good g b → good g (putT t p b)
  | [], t, x, b, h, _, hb => by rw [putT]; exact hb
  | i :: p, t, x, b, h, ht, hb => by
    rw [belowT] at h
    cases hk : kidAt t i with
    | none => rw [hk] at h; cases h
    | some k =>
      rw [hk] at h
      obtain ⟨hr, j, rfl, hj, hjk⟩ := kid_some hk
      obtain ⟨h1, h2, h3, h4⟩ := good_eq.1 ht
      have hgk : good g k := goodL_iff.1 h4 k (by rw [← hjk]; exact List.getElem_mem hj)
      have h5 := putT_good p k x b h hgk hb
      rw [putT_modify, good]
      refine ⟨fun e => absurd e hr, h2, h3, goodL_iff.2 fun y hy => ?_⟩
      obtain ⟨m, hm, rfl⟩ := List.getElem_of_mem hy
      rw [List.getElem_modify]
      split
      · rename_i e; subst e; rw [hjk]; exact h5
      · exact goodL_iff.1 h4 _ (List.getElem_mem _)

def leftOf (g : Gram) (t : Tree) : Option Int := (g.rules[t.rule.toNat]?).map (·.left)
/-- the trees for a part x with a put: by what lies below it -/
def smallC1 (g : Gram) (t : Tree) (p : List Int) (x y : Tree) : List Tree := if 0 ≤ y.rule ∧ rootS g y = rootS g x then [putT t p y] else []
def smallC (g : Gram) (t : Tree) (p : List Int) : List Tree :=
  if ((belowT t p).getD noTree).rule < 0 then [] else ((aps ((belowT t p).getD noTree)).drop 1).flatMap fun q => smallC1 g t p ((belowT t p).getD noTree) ((belowT ((belowT t p).getD noTree) q).getD noTree)
def smallerC (g : Gram) (t : Tree) : List Tree := (aps t).flatMap (smallC g t)
def smallR1 (g : Gram) (t : Tree) (n : Nat) (x y : Tree) : List Tree := if 0 ≤ y.rule ∧ leftOf g y = leftOf g x then [(chg t n y).1] else []
def smallR (g : Gram) (t : Tree) (n : Nat) (x : Tree) : List Tree := if x.rule < 0 then [] else ((parts x).drop 1).flatMap (smallR1 g t n x)
def smallerR (g : Gram) (t : Tree) : List Tree := (parts t).zipIdx.flatMap fun z => smallR g t z.2 z.1

theorem root_left {g : Gram} {x y : Tree} (hx : 0 ≤ x.rule) (hxl : x.rule < g.rules.length) (hy : 0 ≤ y.rule) (hyl : y.rule < g.rules.length) : (rootS g y = rootS g x) ↔ (leftOf g y = leftOf g x) := by
  have e1 : g.rules[x.rule.toNat]? = some (g.rules[x.rule.toNat]'(by omega)) := List.getElem?_eq_getElem _
  have e2 : g.rules[y.rule.toNat]? = some (g.rules[y.rule.toNat]'(by omega)) := List.getElem?_eq_getElem _
  simp only [rootS, leftOf, e1, e2, if_neg (show ¬ x.rule < 0 by omega), if_neg (show ¬ y.rule < 0 by omega)]
  simp
theorem flatMap_ext {α β γ : Type} {f : α → List γ} {h : β → List γ} {l : List α} {m : List β} (hl : l.length = m.length) (he : ∀ i (h1 : i < l.length) (h2 : i < m.length), f l[i] = h m[i]) : l.flatMap f = m.flatMap h := by
  rw [List.flatMap_def, List.flatMap_def]
  congr 1
  refine List.ext_getElem (by simpa using hl) fun i h1 h2 => ?_
  rw [List.getElem_map, List.getElem_map]
  exact he i (by simpa using h1) (by simpa using h2)
theorem flatMap_le {α β : Type} {f : α → List β} {c : Nat} : ∀ {l : List α}, (∀ a ∈ l, (f a).length ≤ c) → (l.flatMap f).length ≤ l.length * c
  | [], _ => by simp
  | a :: l, h => by
    have h1 := flatMap_le (f := f) (c := c) (l := l) fun x hx => h x (List.mem_cons_of_mem _ hx)
    have h2 := h a List.mem_cons_self
    simp only [List.flatMap_cons, List.length_append, List.length_cons, Nat.add_mul]; omega
theorem flatMap_take {α β : Type} (f : α → List β) {l : List α} {i : Nat} (h : i < l.length) : (l.take (i + 1)).flatMap f = (l.take i).flatMap f ++ f l[i] := by
  rw [List.take_succ_eq_append_getElem h, List.flatMap_append]; simp

theorem small_agree {g : Gram} {t : Tree} (h : good g t) : smallerC g t = smallerR g t := by
  unfold smallerC smallerR
  refine flatMap_ext (by simp [aps_len, parts_len]) fun n h1 h2 => ?_
  have hp : n < (parts t).length := by rw [parts_len, ← aps_len]; exact h1
  have hb := ap_below h n h1
  rw [List.getElem_zipIdx]
  simp only [Nat.zero_add]
  obtain ⟨x, hx⟩ : ∃ x, x = (parts t)[n] := ⟨_, rfl⟩
  rw [← hx] at hb ⊢
  have hxm : x ∈ parts t := by rw [hx]; exact List.getElem_mem hp
  have hgx := good_part t h x hxm
  unfold smallC smallR
  rw [hb, Option.getD_some]
  by_cases hr : x.rule < 0
  · rw [if_pos hr, if_pos hr]
  · rw [if_neg hr, if_neg hr]
    refine flatMap_ext (by simp [aps_len, parts_len]) fun m h3 h4 => ?_
    have h5 : 1 + m < (aps x).length := by simp at h3; omega
    have hb2 := ap_below hgx (1 + m) h5
    rw [List.getElem_drop, List.getElem_drop, hb2, Option.getD_some]
    obtain ⟨y, hy⟩ : ∃ y, y = (parts x)[1 + m]'(by rw [parts_len, ← aps_len]; exact h5) := ⟨_, rfl⟩
    rw [← hy]
    have hgy := good_part x hgx y (by rw [hy]; exact List.getElem_mem _)
    unfold smallC1 smallR1
    rw [chg_put t n y h1]
    by_cases hy0 : 0 ≤ y.rule
    · have e := root_left (g := g) (x := x) (y := y) (by omega) (good_eq.1 hgx).2.2.1 hy0 (good_eq.1 hgy).2.2.1
      simp only [e]
    · simp [hy0]
theorem smallC_mem {g : Gram} {t : Tree} (h : good g t) {n : Nat} (hn : n < (aps t).length) {v : Tree} (hv : v ∈ smallC g t (aps t)[n]) : good g v ∧ v.size < t.size := by
  have hb := ap_below h n hn
  unfold smallC at hv
  rw [hb, Option.getD_some] at hv
  have hxm := List.getElem_mem (l := parts t) (n := n) (by rw [parts_len, ← aps_len]; exact hn)
  obtain ⟨x, hx⟩ : ∃ x, x = (parts t)[n]'(by rw [parts_len, ← aps_len]; exact hn) := ⟨_, rfl⟩
  rw [← hx] at hb hv hxm
  have hgx := good_part t h x hxm
  split at hv
  · simp at hv
  · rw [List.mem_flatMap] at hv
    obtain ⟨q, hq, hv⟩ := hv
    obtain ⟨m, hm, rfl⟩ := List.getElem_of_mem hq
    have h5 : 1 + m < (aps x).length := by simp at hm; omega
    rw [List.getElem_drop, ap_below hgx (1 + m) h5, Option.getD_some] at hv
    obtain ⟨y, hy⟩ : ∃ y, y = (parts x)[1 + m]'(by rw [parts_len, ← aps_len]; exact h5) := ⟨_, rfl⟩
    rw [← hy] at hv
    have hym : y ∈ partsL x.kids := by
      have : (parts x)[1 + m]'(by rw [parts_len, ← aps_len]; exact h5) ∈ partsL x.kids := by
        have e : partsL x.kids = (parts x).drop 1 := by rw [parts_eq]; rfl
        rw [e, ← List.getElem_drop (h := by simp [parts_len]; rw [aps_len] at h5; omega)]
        exact List.getElem_mem _
      rw [hy]; exact this
    have hgy := good_part x hgx y (by rw [parts_eq]; exact List.mem_cons_of_mem _ hym)
    have hys := partL_size x.kids y hym
    unfold smallC1 at hv
    split at hv
    · rw [List.mem_singleton] at hv
      subst hv
      refine ⟨putT_good _ t x y hb h hgy, ?_⟩
      have := putT_size_eq _ t x y hb
      rw [Tree.size_eq x] at this
      omega
    · simp at hv
theorem small_mem {g : Gram} {t v : Tree} (h : good g t) (hv : v ∈ smallerC g t) : good g v ∧ v.size < t.size := by
  unfold smallerC at hv
  rw [List.mem_flatMap] at hv
  obtain ⟨p, hp, hv⟩ := hv
  obtain ⟨n, hn, rfl⟩ := List.getElem_of_mem hp
  exact smallC_mem h hn hv

def least (g : Gram) (F : Tree → Bool) : Nat → Tree → Tree
  | 0, t => t
  | m + 1, t => match (smallerR g t).find? F with
    | some v => least g F m v
    | none => t
theorem least_hit {g : Gram} {F : Tree → Bool} {m i : Nat} {t : Tree} (hi : i < (smallerR g t).length) (hF : F (smallerR g t)[i] = true) (hn : ∀ j (h : j < i), F ((smallerR g t)[j]'(by omega)) = false) : least g F (m + 1) t = least g F m (smallerR g t)[i] := by
  have e : (smallerR g t).find? F = some (smallerR g t)[i] := by
    rw [List.find?_eq_some_iff_getElem]
    exact ⟨hF, i, hi, rfl, fun j hj => by rw [hn j hj]; rfl⟩
  rw [least, e]
theorem least_end {g : Gram} {F : Tree → Bool} {m : Nat} {t : Tree} (hn : ∀ j (h : j < (smallerR g t).length), F (smallerR g t)[j] = false) : least g F (m + 1) t = t := by
  have e : (smallerR g t).find? F = none := by
    rw [List.find?_eq_none]
    intro x hx
    obtain ⟨j, hj, rfl⟩ := List.getElem_of_mem hx
    rw [hn j hj]; decide
  rw [least, e]
end Go.Proofs.Ytjehmleckcmilaa
