/- Attribute systems: expressions, equations, in plain Lean, and how they read. -/
import Derived.Test.YthkdeljlhplkgaaCheckG
namespace Go.Proofs.Ythkdeljlhplkgaa
open Go.RowKit
namespace At

structure Ref where
  at' : Int
  attr : Int
  deriving DecidableEq
inductive Expr where
  | node (kind n : Int) (ref : Ref) (args : List Expr)
def Expr.kind : Expr → Int | .node k _ _ _ => k
def Expr.n : Expr → Int | .node _ n _ _ => n
def Expr.ref : Expr → Ref | .node _ _ r _ => r
def Expr.args : Expr → List Expr | .node _ _ _ l => l
structure Attr where
  non : Int
  inh : Bool
  deriving DecidableEq
structure Eqn where
  rule : Int
  to' : Ref
  is' : Expr
structure Sys where
  attrs : List Attr
  eqs : List Eqn

def Ref.d (r : Ref) : D := .agg [.int r.at', .int r.attr]
mutual
def Expr.d : Expr → D
  | .node k n r l => .agg [.int k, .int n, r.d, .sl (Expr.dL l)]
def Expr.dL : List Expr → List D
  | [] => []
  | x :: l => Expr.d x :: Expr.dL l
end
theorem dL_map : ∀ l : List Expr, Expr.dL l = l.map Expr.d
  | [] => rfl
  | x :: l => by simp [Expr.dL, dL_map l]
theorem Expr.d_eq (x : Expr) : x.d = .agg [.int x.kind, .int x.n, x.ref.d, .sl (x.args.map Expr.d)] := by
  cases x; simp [Expr.d, dL_map, Expr.kind, Expr.n, Expr.ref, Expr.args]
theorem Expr.d_cells (x : Expr) : x.d.cells = 5 := by rw [Expr.d_eq]; simp [D.cells, D.cellsAll, Ref.d]
theorem exprs_cells (l : List Expr) : ∀ d ∈ l.map Expr.d, d.cells = 5 := by
  intro d hd
  simp at hd
  obtain ⟨t, _, rfl⟩ := hd
  exact t.d_cells
def Attr.d (a : Attr) : D := .agg [.int a.non, .bool a.inh]
def Eqn.d (q : Eqn) : D := .agg [.int q.rule, q.to'.d, q.is'.d]
theorem attrs_cells (l : List Attr) : ∀ d ∈ l.map Attr.d, d.cells = 2 := by
  intro d hd
  simp at hd
  obtain ⟨t, _, rfl⟩ := hd
  simp [Attr.d, D.cells, D.cellsAll]
theorem Eqn.d_cells (q : Eqn) : q.d.cells = 8 := by simp [Eqn.d, Ref.d, D.cells, D.cellsAll, Expr.d_cells]
theorem eqs_cells (l : List Eqn) : ∀ d ∈ l.map Eqn.d, d.cells = 8 := by
  intro d hd
  simp at hd
  obtain ⟨t, _, rfl⟩ := hd
  exact t.d_cells

mutual
def Expr.size : Expr → Nat
  | .node _ _ _ l => 1 + sizeL l
def sizeL : List Expr → Nat
  | [] => 0
  | x :: l => Expr.size x + sizeL l
end
theorem Expr.size_eq (x : Expr) : x.size = 1 + sizeL x.args := by cases x; simp [Expr.size, Expr.args]
theorem Expr.size_pos (x : Expr) : 0 < x.size := by rw [Expr.size_eq]; omega
theorem sizeL_append : ∀ (a b : List Expr), sizeL (a ++ b) = sizeL a + sizeL b
  | [], b => by simp [sizeL]
  | x :: a, b => by simp [sizeL, sizeL_append a b]; omega
theorem sizeL_take {l : List Expr} {i : Nat} (h : i < l.length) : sizeL (l.take (i + 1)) = sizeL (l.take i) + l[i].size := by
  rw [List.take_succ_eq_append_getElem h, sizeL_append]; simp [sizeL]
theorem sizeL_take_le (l : List Expr) (i : Nat) : sizeL (l.take i) ≤ sizeL l := by
  conv => rhs; rw [← List.take_append_drop i l, sizeL_append]
  omega
theorem sizeL_kid {l : List Expr} {i : Nat} (h : i < l.length) : sizeL (l.take i) + l[i].size ≤ sizeL l := by
  have := sizeL_take_le l (i + 1)
  rw [sizeL_take h] at this
  exact this
theorem sizeL_len : ∀ (l : List Expr), l.length ≤ sizeL l
  | [] => by simp
  | x :: l => by have := sizeL_len l; have := x.size_pos; simp [sizeL]; omega
mutual
/-- all nodes in preorder -/
def enodes : Expr → List Expr
  | .node k n r l => .node k n r l :: enodesL l
def enodesL : List Expr → List Expr
  | [] => []
  | x :: l => enodes x ++ enodesL l
end
theorem enodes_eq (x : Expr) : enodes x = x :: enodesL x.args := by cases x; simp [enodes, Expr.args]
theorem enodesL_append : ∀ (a b : List Expr), enodesL (a ++ b) = enodesL a ++ enodesL b
  | [], b => by simp [enodesL]
  | x :: a, b => by simp [enodesL, enodesL_append a b]
theorem enodesL_take {l : List Expr} {i : Nat} (h : i < l.length) : enodesL (l.take (i + 1)) = enodesL (l.take i) ++ enodes l[i] := by
  rw [List.take_succ_eq_append_getElem h, enodesL_append]; simp [enodesL]
mutual
theorem enodes_len : ∀ x : Expr, (enodes x).length = x.size
  | .node k n r l => by rw [enodes, Expr.size, List.length_cons, enodesL_len l]; omega
theorem enodesL_len : ∀ l : List Expr, (enodesL l).length = sizeL l
  | [] => rfl
  | x :: l => by rw [enodesL, sizeL, List.length_append, enodes_len x, enodesL_len l]
end

/-- an occurrence is in a rule -/
def there (al : List Attr) (r : Rule) (x : Ref) : Bool :=
  decide (0 ≤ x.attr ∧ x.attr < al.length ∧ 0 ≤ x.at' ∧ x.at' ≤ r.right.length) &&
  match al[x.attr.toNat]? with
  | some a => if x.at' = 0 then decide (a.non = r.left) else decide (r.right[(x.at' - 1).toNat]? = some ⟨false, a.non⟩)
  | none => false
def inhAt (al : List Attr) (i : Int) : Bool := match al[i.toNat]? with | some a => a.inh | none => false
def defs (al : List Attr) (r : Rule) (x : Ref) : Bool := there al r x && (inhAt al x.attr == decide (0 < x.at'))
def okArgs (kind : Int) (m : Nat) : Bool :=
  if kind = 0 ∨ kind = 1 then m == 0 else if kind = 2 ∨ kind = 3 then true else if kind = 4 then decide (1 ≤ m) else if kind = 5 then m == 2 else if kind = 6 then m == 3 else false
def okNode (al : List Attr) (r : Rule) (x : Expr) : Bool :=
  okArgs x.kind x.args.length && (if x.kind = 0 then decide (0 ≤ x.n ∧ x.n < 1000003) else decide (x.n = 0)) && (if x.kind = 1 then there al r x.ref else decide (x.ref = ⟨0, 0⟩))
def valid (al : List Attr) (r : Rule) (x : Expr) : Bool := (enodes x).all (okNode al r)
theorem valid_eq (al : List Attr) (r : Rule) (x : Expr) : valid al r x = (okNode al r x && x.args.all (valid al r)) := by
  unfold valid
  rw [enodes_eq, List.all_cons]
  congr 1
  generalize x.args = l
  induction l with
  | nil => rfl
  | cons y l ih => rw [enodesL, List.all_append, List.all_cons, ih]

/-- the attributes' error -/
def cntA (al : List Attr) (n : Int) : Nat := (al.filter fun a => a.non = n).length
def attrErr (g : Gram) (al : List Attr) (i : Nat) (a : Attr) : Int :=
  if a.non < 0 ∨ g.nons ≤ a.non then 1 else if a.inh ∧ a.non = g.start then 3 else if 3 < cntA (al.take (i + 1)) a.non then 2 else 0
def attrsFrom (g : Gram) (al : List Attr) : Nat → List Attr → Int
  | _, [] => 0
  | i, a :: l => if attrErr g al i a ≠ 0 then attrErr g al i a else attrsFrom g al (i + 1) l
def attrsErr (g : Gram) (al : List Attr) : Int := attrsFrom g al 0 al
theorem attrsFrom_at {g : Gram} {al : List Attr} {i : Nat} (h : i < al.length) : attrsFrom g al i (al.drop i) = if attrErr g al i al[i] ≠ 0 then attrErr g al i al[i] else attrsFrom g al (i + 1) (al.drop (i + 1)) := by
  rw [List.drop_eq_getElem_cons h, attrsFrom]
theorem attrsFrom_zero {g : Gram} {al : List Attr} : ∀ {l : List Attr} {i : Nat}, attrsFrom g al i l = 0 → ∀ a ∈ l, 0 ≤ a.non ∧ a.non < g.nons
  | [], _, _, a, ha => by simp at ha
  | x :: l, i, h, a, ha => by
    rw [attrsFrom] at h
    by_cases h0 : attrErr g al i x = 0
    · rw [if_neg (by simpa using h0)] at h
      rcases List.mem_cons.1 ha with rfl | ha
      · unfold attrErr at h0
        by_cases h1 : a.non < 0 ∨ g.nons ≤ a.non
        · rw [if_pos h1] at h0; simp at h0
        · omega
      · exact attrsFrom_zero h a ha
    · rw [if_pos h0] at h; exact absurd h h0
/-- an equation's error -/
def had (es : List Eqn) (rule : Int) (x : Ref) : Bool := es.any fun q => decide (q.rule = rule ∧ q.to' = x)
def eqErr (g : Gram) (s : Sys) (i : Nat) (q : Eqn) : Int :=
  match g.rules[q.rule.toNat]? with
  | none => 1
  | some r => if q.rule < 0 then 1 else if 30 < q.is'.size then 2 else if defs s.attrs r q.to' = false ∨ valid s.attrs r q.is' = false then 3 else if had (s.eqs.take i) q.rule q.to' then 6 else 0
def eqsFrom (g : Gram) (s : Sys) : Nat → List Eqn → Int
  | _, [] => 0
  | i, q :: l => if eqErr g s i q ≠ 0 then eqErr g s i q else eqsFrom g s (i + 1) l
theorem eqsFrom_at {g : Gram} {s : Sys} {i : Nat} (h : i < s.eqs.length) : eqsFrom g s i (s.eqs.drop i) = if eqErr g s i s.eqs[i] ≠ 0 then eqErr g s i s.eqs[i] else eqsFrom g s (i + 1) (s.eqs.drop (i + 1)) := by
  rw [List.drop_eq_getElem_cons h, eqsFrom]
/-- an occurrence that a rule defines has no equation -/
def lacksAt (s : Sys) (i : Nat) (r : Rule) (k a : Nat) : Bool := defs s.attrs r ⟨k, a⟩ && !had s.eqs i ⟨k, a⟩
def lacks (g : Gram) (s : Sys) : Prop := ∃ i k a, ∃ h : i < g.rules.length, k < g.rules[i].right.length + 1 ∧ a < s.attrs.length ∧ lacksAt s i g.rules[i] k a = true
open Classical in
noncomputable def sysErr (g : Gram) (s : Sys) : Int :=
  if attrsErr g s.attrs ≠ 0 then attrsErr g s.attrs else if 200 < s.eqs.length then 2 else if eqsFrom g s 0 s.eqs ≠ 0 then eqsFrom g s 0 s.eqs else if lacks g s then 5 else 0
noncomputable def checkS (g : Gram) (s : Sys) : Int := if checkG g ≠ 0 then checkG g else sysErr g s
end At
end Go.Proofs.Ythkdeljlhplkgaa
