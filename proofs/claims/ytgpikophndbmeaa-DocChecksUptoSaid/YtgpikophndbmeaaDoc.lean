/- Documents, in plain Lean, and how they read. -/
import Derived.Test.YtgpikophndbmeaaTree
namespace Go.Proofs.Ytgpikophndbmeaa
open Go.RowKit
namespace Dc

inductive Doc where
  | mk (kind : Int) (txt : ByteArray) (n : Int) (kids : List Doc)
def Doc.kind : Doc → Int | .mk k _ _ _ => k
def Doc.txt : Doc → ByteArray | .mk _ t _ _ => t
def Doc.n : Doc → Int | .mk _ _ n _ => n
def Doc.kids : Doc → List Doc | .mk _ _ _ l => l
mutual
def Doc.d : Doc → D
  | .mk k t n l => .agg [.int k, .str t, .int n, .sl (Doc.dL l)]
def Doc.dL : List Doc → List D
  | [] => []
  | k :: ks => Doc.d k :: Doc.dL ks
end
theorem dL_map : ∀ ks : List Doc, Doc.dL ks = ks.map Doc.d
  | [] => rfl
  | k :: ks => by simp [Doc.dL, dL_map ks]
theorem Doc.d_eq (t : Doc) : t.d = .agg [.int t.kind, .str t.txt, .int t.n, .sl (t.kids.map Doc.d)] := by
  cases t; simp [Doc.d, dL_map, Doc.kind, Doc.txt, Doc.n, Doc.kids]
theorem Doc.d_cells (t : Doc) : t.d.cells = 4 := by rw [Doc.d_eq]; simp [D.cells, D.cellsAll]
theorem docs_cells (ts : List Doc) : ∀ d ∈ ts.map Doc.d, d.cells = 4 := by
  intro d hd
  simp at hd
  obtain ⟨t, _, rfl⟩ := hd
  exact t.d_cells
mutual
/-- the nodes in preorder -/
def nodes : Doc → List Doc
  | .mk k t n ks => .mk k t n ks :: nodesL ks
def nodesL : List Doc → List Doc
  | [] => []
  | k :: ks => nodes k ++ nodesL ks
end
theorem nodes_eq (t : Doc) : nodes t = t :: nodesL t.kids := by
  cases t; rw [nodes]; rfl
theorem nodesL_append : ∀ (a b : List Doc), nodesL (a ++ b) = nodesL a ++ nodesL b
  | [], b => by simp [nodesL]
  | x :: a, b => by simp [nodesL, nodesL_append a b]
theorem nodesL_take {ks : List Doc} {i : Nat} (h : i < ks.length) : nodesL (ks.take (i + 1)) = nodesL (ks.take i) ++ nodes ks[i] := by
  rw [List.take_succ_eq_append_getElem h, nodesL_append]; simp [nodesL]
theorem nodes_pos (t : Doc) : 0 < (nodes t).length := by rw [nodes_eq]; simp
theorem nodesL_take_le (ks : List Doc) (i : Nat) : (nodesL (ks.take i)).length ≤ (nodesL ks).length := by
  conv => rhs; rw [← List.take_append_drop i ks, nodesL_append]
  simp
theorem nodesL_kid {ks : List Doc} {i : Nat} (h : i < ks.length) : (nodesL (ks.take i)).length + (nodes ks[i]).length ≤ (nodesL ks).length := by
  have := nodesL_take_le ks (i + 1)
  rw [nodesL_take h] at this
  simpa using this

theorem nodesL_split {ks : List Doc} {i : Nat} (h : i < ks.length) : nodesL ks = nodesL (ks.take i) ++ (nodes ks[i] ++ nodesL (ks.drop (i + 1))) := by
  conv => lhs; rw [← List.take_append_drop i ks, nodesL_append, List.drop_eq_getElem_cons h, nodesL]

/-- what is seen until a condition fails -/
def upTo (p : Doc → Bool) : List Doc → List Doc
  | [] => []
  | x :: l => if p x then x :: upTo p l else [x]
theorem upTo_all {p : Doc → Bool} : ∀ {l : List Doc}, l.all p = true → upTo p l = l
  | [], _ => rfl
  | x :: l, h => by
    simp at h
    rw [upTo, if_pos h.1, upTo_all (by simpa using h.2)]
theorem upTo_append {p : Doc → Bool} : ∀ {l m : List Doc}, l.all p = true → upTo p (l ++ m) = l ++ upTo p m
  | [], _, _ => rfl
  | x :: l, m, h => by
    simp at h
    rw [List.cons_append, upTo, if_pos h.1, upTo_append (by simpa using h.2), List.cons_append]
theorem upTo_stop {p : Doc → Bool} : ∀ {l m : List Doc}, l.all p = false → upTo p (l ++ m) = upTo p l
  | [], _, h => by simp at h
  | x :: l, m, h => by
    rw [List.cons_append, upTo, upTo]
    by_cases hx : p x = true
    · rw [if_pos hx, if_pos hx, upTo_stop (by simpa [hx] using h)]
    · rw [if_neg hx, if_neg hx]

/-- a condition that counts -/
def allN (p : Nat → Doc → Bool) : Nat → List Doc → Bool
  | _, [] => true
  | k, x :: l => p k x && allN p (k + 1) l
def upN (p : Nat → Doc → Bool) : Nat → List Doc → List Doc
  | _, [] => []
  | k, x :: l => if p k x then x :: upN p (k + 1) l else [x]
theorem upN_all {p : Nat → Doc → Bool} : ∀ {k : Nat} {l : List Doc}, allN p k l = true → upN p k l = l
  | _, [], _ => rfl
  | k, x :: l, h => by
    simp [allN] at h
    rw [upN, if_pos h.1, upN_all h.2]
theorem allN_append {p : Nat → Doc → Bool} : ∀ {k : Nat} {l m : List Doc}, allN p k (l ++ m) = (allN p k l && allN p (k + l.length) m)
  | k, [], m => by simp [allN]
  | k, x :: l, m => by
    rw [List.cons_append, allN, allN, allN_append, Bool.and_assoc, List.length_cons, show k + 1 + l.length = k + (l.length + 1) by omega]
theorem upN_append {p : Nat → Doc → Bool} : ∀ {k : Nat} {l m : List Doc}, allN p k l = true → upN p k (l ++ m) = l ++ upN p (k + l.length) m
  | _, [], _, _ => by simp
  | k, x :: l, m, h => by
    simp [allN] at h
    rw [List.cons_append, upN, if_pos h.1, upN_append h.2, List.cons_append, List.length_cons, show k + 1 + l.length = k + (l.length + 1) by omega]
theorem upN_stop {p : Nat → Doc → Bool} : ∀ {k : Nat} {l m : List Doc}, allN p k l = false → upN p k (l ++ m) = upN p k l
  | _, [], _, h => by simp [allN] at h
  | k, x :: l, m, h => by
    rw [List.cons_append, upN, upN]
    by_cases hx : p k x = true
    · rw [if_pos hx, if_pos hx, upN_stop (by simpa [allN, hx] using h)]
    · rw [if_neg hx, if_neg hx]
theorem allN_const (p : Doc → Bool) : ∀ (k : Nat) (l : List Doc), allN (fun _ => p) k l = l.all p
  | _, [] => rfl
  | k, x :: l => by rw [allN, allN_const, List.all_cons]
/-- four cells of an element -/
theorem Rd.doc {S : Nat → Prop} {w : World} {t : Doc} {cs : List Value} (h : Rd S w t.d cs) : ∃ v, cs = [.int .i64 t.kind, .string t.txt, .int .i64 t.n, v] ∧ Rd S w (.sl (t.kids.map Doc.d)) [v] := by
  rw [Doc.d_eq] at h
  obtain ⟨c1, c2, rfl, h1, c3, c4, rfl, h2, c5, c6, rfl, h3, h4⟩ := h
  rw [RdAll.one_iff] at h4
  simp [Rd] at h1 h2 h3
  subst h1 h2 h3
  have h5 := h4
  obtain ⟨a, cap, L, e, _⟩ := h4
  subst e
  exact ⟨_, rfl, h5⟩
theorem rd_doc {S : Nat → Prop} {w : World} {t : Doc} {v : Value} (h : Rd S w (.sl (t.kids.map Doc.d)) [v]) : Rd S w t.d [.int .i64 t.kind, .string t.txt, .int .i64 t.n, v] := by
  rw [Doc.d_eq]
  exact ⟨[.int .i64 t.kind], [.string t.txt, .int .i64 t.n, v], rfl, rfl, [.string t.txt], [.int .i64 t.n, v], rfl, rfl, [.int .i64 t.n], [v], rfl, rfl, RdAll.one h⟩
theorem Rd.kid {S : Nat → Prop} {w : World} {ks : List Doc} {a : Option Addr} {n cap i : Nat} (h : Rd S w (.sl (ks.map Doc.d)) [.slice a n cap]) (hi : i < ks.length) :
    ∃ b off v, a = some ⟨b, off, none⟩ ∧ S b ∧ b < w.heap.size ∧ w.cell? ⟨b, off + i * 4, none⟩ = some (.int .i64 ks[i].kind) ∧ w.cell? ⟨b, off + i * 4 + 1, none⟩ = some (.string ks[i].txt) ∧ w.cell? ⟨b, off + i * 4 + 2, none⟩ = some (.int .i64 ks[i].n) ∧ w.cell? ⟨b, off + i * 4 + 3, none⟩ = some v ∧ Rd S w (.sl (ks[i].kids.map Doc.d)) [v] := by
  obtain ⟨b, off, cs, ha, hS, hlt, hr, hl, hc⟩ := h.at (docs_cells ks) (by decide) (i := i) (by simpa using hi)
  simp at hr
  obtain ⟨v, rfl, hk⟩ := Rd.doc hr
  exact ⟨b, off, v, ha, hS, hlt, by simpa using hc 0 (by simp), by simpa [Nat.add_assoc] using hc 1 (by simp), by simpa [Nat.add_assoc] using hc 2 (by simp), by simpa [Nat.add_assoc] using hc 3 (by simp), hk⟩
end Dc
end Go.Proofs.Ytgpikophndbmeaa
