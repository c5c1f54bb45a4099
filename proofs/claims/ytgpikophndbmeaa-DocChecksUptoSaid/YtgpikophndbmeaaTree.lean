/- Trees, in plain Lean, and how they read. -/
import Derived.Test.YtgpikophndbmeaaData
namespace Go.Proofs.Ytgpikophndbmeaa
open Go.RowKit

inductive Tree where
  | node (rule term : Int) (kids : List Tree)
def Tree.rule : Tree → Int | .node r _ _ => r
def Tree.term : Tree → Int | .node _ t _ => t
def Tree.kids : Tree → List Tree | .node _ _ k => k
/-- the subtrees that count -/
def kidsOf (t : Tree) : List Tree := if t.rule = -1 then [] else t.kids

mutual
def Tree.d : Tree → D
  | .node r t ks => .agg [.int r, .int t, .sl (Tree.dL ks)]
def Tree.dL : List Tree → List D
  | [] => []
  | k :: ks => Tree.d k :: Tree.dL ks
end
theorem dL_map : ∀ ks : List Tree, Tree.dL ks = ks.map Tree.d
  | [] => rfl
  | k :: ks => by simp [Tree.dL, dL_map ks]
theorem Tree.d_eq (t : Tree) : t.d = .agg [.int t.rule, .int t.term, .sl (t.kids.map Tree.d)] := by
  cases t; simp [Tree.d, dL_map, Tree.rule, Tree.term, Tree.kids]
theorem Tree.d_cells (t : Tree) : t.d.cells = 3 := by rw [Tree.d_eq]; simp [D.cells, D.cellsAll]
theorem trees_cells (ts : List Tree) : ∀ d ∈ ts.map Tree.d, d.cells = 3 := by
  intro d hd
  simp at hd
  obtain ⟨t, _, rfl⟩ := hd
  exact t.d_cells

mutual
/-- the nodes in preorder; the kids of leaves are left out -/
def nodes : Tree → List Tree
  | .node r t ks => .node r t ks :: (if r = -1 then [] else nodesL ks)
def nodesL : List Tree → List Tree
  | [] => []
  | k :: ks => nodes k ++ nodesL ks
end
theorem nodes_eq (t : Tree) : nodes t = t :: nodesL (kidsOf t) := by
  cases t with
  | node r t ks =>
    rw [nodes]
    by_cases h : r = -1 <;> simp [kidsOf, Tree.rule, Tree.kids, h, nodesL]
theorem nodesL_append : ∀ (a b : List Tree), nodesL (a ++ b) = nodesL a ++ nodesL b
  | [], b => by simp [nodesL]
  | x :: a, b => by simp [nodesL, nodesL_append a b]
theorem nodesL_take {ks : List Tree} {i : Nat} (h : i < ks.length) : nodesL (ks.take (i + 1)) = nodesL (ks.take i) ++ nodes ks[i] := by
  rw [List.take_succ_eq_append_getElem h, nodesL_append]; simp [nodesL]
theorem nodes_pos (t : Tree) : 0 < (nodes t).length := by rw [nodes_eq]; simp
theorem nodesL_take_le (ks : List Tree) (i : Nat) : (nodesL (ks.take i)).length ≤ (nodesL ks).length := by
  conv => rhs; rw [← List.take_append_drop i ks, nodesL_append]
  simp
theorem nodesL_kid {ks : List Tree} {i : Nat} (h : i < ks.length) : (nodesL (ks.take i)).length + (nodes ks[i]).length ≤ (nodesL ks).length := by
  have := nodesL_take_le ks (i + 1)
  rw [nodesL_take h] at this
  simpa using this

theorem nodesL_split {ks : List Tree} {i : Nat} (h : i < ks.length) : nodesL ks = nodesL (ks.take i) ++ (nodes ks[i] ++ nodesL (ks.drop (i + 1))) := by
  conv => lhs; rw [← List.take_append_drop i ks, nodesL_append, List.drop_eq_getElem_cons h, nodesL]

/-- what is seen until a condition fails -/
def upTo (p : Tree → Bool) : List Tree → List Tree
  | [] => []
  | x :: l => if p x then x :: upTo p l else [x]
theorem upTo_all {p : Tree → Bool} : ∀ {l : List Tree}, l.all p = true → upTo p l = l
  | [], _ => rfl
  | x :: l, h => by
    simp at h
    rw [upTo, if_pos h.1, upTo_all (by simpa using h.2)]
theorem upTo_append {p : Tree → Bool} : ∀ {l m : List Tree}, l.all p = true → upTo p (l ++ m) = l ++ upTo p m
  | [], _, _ => rfl
  | x :: l, m, h => by
    simp at h
    rw [List.cons_append, upTo, if_pos h.1, upTo_append (by simpa using h.2), List.cons_append]
theorem upTo_stop {p : Tree → Bool} : ∀ {l m : List Tree}, l.all p = false → upTo p (l ++ m) = upTo p l
  | [], _, h => by simp at h
  | x :: l, m, h => by
    rw [List.cons_append, upTo, upTo]
    by_cases hx : p x = true
    · rw [if_pos hx, if_pos hx, upTo_stop (by simpa [hx] using h)]
    · rw [if_neg hx, if_neg hx]

/-- outside S nothing that was there has changed -/
structure Keeps (S : Nat → Prop) (w w' : World) : Prop where
  os : w'.os = w.os
  tape : w'.tape = w.tape
  output : w'.output = w.output
  size : w.heap.size ≤ w'.heap.size
  block : ∀ k, k < w.heap.size → ¬ S k → w'.heap[k]? = w.heap[k]?
theorem Keeps.below {S : Nat → Prop} {w w' : World} {B : Nat} (h : Keeps S w w') (hS : ∀ k, S k → B ≤ k) (hB : B ≤ w.heap.size) : Below B w w' :=
  ⟨h.os, h.tape, h.output, h.size, fun k hk => h.block k (by omega) (fun hs => by have := hS k hs; omega)⟩
theorem Below.keeps {S : Nat → Prop} {w w' : World} (h : Below w.heap.size w w') : Keeps S w w' := ⟨h.os, h.tape, h.output, h.size, fun k hk _ => h.block k hk⟩
theorem Keeps.trans {S S' : Nat → Prop} {a b c : World} (h : Keeps S a b) (k : Keeps S' b c) (hs : ∀ k, S' k → S k ∨ a.heap.size ≤ k) : Keeps S a c :=
  ⟨k.os.trans h.os, k.tape.trans h.tape, k.output.trans h.output, Nat.le_trans h.size k.size, fun i hi hn => (k.block i (Nat.lt_of_lt_of_le hi h.size) (fun e => (hs i e).elim (fun e => hn e) (fun e => by omega))).trans (h.block i hi hn)⟩
theorem Keeps.cells {S : Nat → Prop} {w w' : World} (h : Keeps S w w') {b : Nat} {o : Obj} (hb : w.heap[b]? = some o) (hS : ¬ S b) : w'.heap[b]? = some o := by
  rw [h.block b (Array.getElem?_eq_some_iff.1 hb).1 hS]; exact hb

/-- three cells of an element -/
theorem Rd.tree {S : Nat → Prop} {w : World} {t : Tree} {cs : List Value} (h : Rd S w t.d cs) : ∃ v, cs = [.int .i64 t.rule, .int .i64 t.term, v] ∧ Rd S w (.sl (t.kids.map Tree.d)) [v] := by
  rw [Tree.d_eq] at h
  obtain ⟨c1, c2, rfl, h1, c3, c4, rfl, h2, h3⟩ := h
  rw [RdAll.one_iff] at h3
  simp [Rd] at h1 h2
  subst h1 h2
  have h4 := h3
  obtain ⟨a, cap, L, e, _⟩ := h3
  subst e
  exact ⟨_, rfl, h4⟩
theorem rd_tree {S : Nat → Prop} {w : World} {t : Tree} {v : Value} (h : Rd S w (.sl (t.kids.map Tree.d)) [v]) : Rd S w t.d [.int .i64 t.rule, .int .i64 t.term, v] := by
  rw [Tree.d_eq]
  exact ⟨[.int .i64 t.rule], [.int .i64 t.term, v], rfl, rfl, [.int .i64 t.term], [v], rfl, rfl, RdAll.one h⟩
theorem Rd.kid {S : Nat → Prop} {w : World} {ks : List Tree} {a : Option Addr} {n cap i : Nat} (h : Rd S w (.sl (ks.map Tree.d)) [.slice a n cap]) (hi : i < ks.length) :
    ∃ b off v, a = some ⟨b, off, none⟩ ∧ S b ∧ b < w.heap.size ∧ w.cell? ⟨b, off + i * 3, none⟩ = some (.int .i64 ks[i].rule) ∧ w.cell? ⟨b, off + i * 3 + 1, none⟩ = some (.int .i64 ks[i].term) ∧ w.cell? ⟨b, off + i * 3 + 2, none⟩ = some v ∧ Rd S w (.sl (ks[i].kids.map Tree.d)) [v] := by
  obtain ⟨b, off, cs, ha, hS, hlt, hr, hl, hc⟩ := h.at (trees_cells ks) (by decide) (i := i) (by simpa using hi)
  simp at hr
  obtain ⟨v, rfl, hk⟩ := hr.tree
  exact ⟨b, off, v, ha, hS, hlt, by simpa using hc 0 (by simp), by simpa [Nat.add_assoc] using hc 1 (by simp), by simpa [Nat.add_assoc] using hc 2 (by simp), hk⟩
end Go.Proofs.Ytgpikophndbmeaa
