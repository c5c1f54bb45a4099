/- Symbols and rules of grammars, in plain Lean, and how they read. -/
import Derived.Test.YtgpikophndbmeaaTree
import Derived.Deep.LoopGhost
import Derived.Deep.Cut
import Derived.Shelf.Abstract
namespace Go.Proofs.Ytgpikophndbmeaa
open Go.RowKit

structure Sym where
  term : Bool
  n : Int
  deriving DecidableEq
structure Rule where
  left : Int
  right : List Sym
  deriving DecidableEq
def Sym.d (s : Sym) : D := .agg [.bool s.term, .int s.n]
def Rule.d (r : Rule) : D := .agg [.int r.left, .sl (r.right.map Sym.d)]
theorem syms_cells (l : List Sym) : ∀ d ∈ l.map Sym.d, d.cells = 2 := by
  intro d hd
  simp at hd
  obtain ⟨t, _, rfl⟩ := hd
  simp [Sym.d, D.cells, D.cellsAll]
theorem rules_cells (l : List Rule) : ∀ d ∈ l.map Rule.d, d.cells = 2 := by
  intro d hd
  simp at hd
  obtain ⟨t, _, rfl⟩ := hd
  simp [Rule.d, D.cells, D.cellsAll]
theorem Rd.sym {S : Nat → Prop} {w : World} {s : Sym} {cs : List Value} (h : Rd S w s.d cs) : cs = [.bool s.term, .int .i64 s.n] := by
  obtain ⟨c1, c2, rfl, h1, h2⟩ := h
  rw [RdAll.one_iff] at h2
  simp [Rd] at h1 h2
  subst h1 h2
  rfl
theorem rd_sym {S : Nat → Prop} {w : World} (s : Sym) : Rd S w s.d [.bool s.term, .int .i64 s.n] := ⟨[.bool s.term], [.int .i64 s.n], rfl, rfl, RdAll.one rfl⟩
theorem Rd.rule {S : Nat → Prop} {w : World} {r : Rule} {cs : List Value} (h : Rd S w r.d cs) : ∃ v, cs = [.int .i64 r.left, v] ∧ Rd S w (.sl (r.right.map Sym.d)) [v] := by
  obtain ⟨c1, c2, rfl, h1, h2⟩ := h
  rw [RdAll.one_iff] at h2
  simp [Rd] at h1
  subst h1
  have h4 := h2
  obtain ⟨a, cap, L, e, _⟩ := h2
  subst e
  exact ⟨_, rfl, h4⟩
theorem rd_rule {S : Nat → Prop} {w : World} {r : Rule} {v : Value} (h : Rd S w (.sl (r.right.map Sym.d)) [v]) : Rd S w r.d [.int .i64 r.left, v] := ⟨[.int .i64 r.left], [v], rfl, rfl, RdAll.one h⟩
theorem Rd.sym_at {S : Nat → Prop} {w : World} {l : List Sym} {a : Option Addr} {n cap i : Nat} (h : Rd S w (.sl (l.map Sym.d)) [.slice a n cap]) (hi : i < l.length) :
    ∃ b off, a = some ⟨b, off, none⟩ ∧ S b ∧ b < w.heap.size ∧ w.cell? ⟨b, off + i * 2, none⟩ = some (.bool l[i].term) ∧ w.cell? ⟨b, off + i * 2 + 1, none⟩ = some (.int .i64 l[i].n) := by
  obtain ⟨b, off, cs, ha, hS, hlt, hr, hl, hc⟩ := h.at (syms_cells l) (by decide) (i := i) (by simpa using hi)
  simp at hr
  obtain rfl := hr.sym
  exact ⟨b, off, ha, hS, hlt, by simpa using hc 0 (by simp), by simpa [Nat.add_assoc] using hc 1 (by simp)⟩
theorem Rd.rule_at {S : Nat → Prop} {w : World} {l : List Rule} {a : Option Addr} {n cap i : Nat} (h : Rd S w (.sl (l.map Rule.d)) [.slice a n cap]) (hi : i < l.length) :
    ∃ b off v, a = some ⟨b, off, none⟩ ∧ S b ∧ b < w.heap.size ∧ w.cell? ⟨b, off + i * 2, none⟩ = some (.int .i64 l[i].left) ∧ w.cell? ⟨b, off + i * 2 + 1, none⟩ = some v ∧ Rd S w (.sl (l[i].right.map Sym.d)) [v] := by
  obtain ⟨b, off, cs, ha, hS, hlt, hr, hl, hc⟩ := h.at (rules_cells l) (by decide) (i := i) (by simpa using hi)
  simp at hr
  obtain ⟨v, rfl, hk⟩ := hr.rule
  exact ⟨b, off, v, ha, hS, hlt, by simpa using hc 0 (by simp), by simpa [Nat.add_assoc] using hc 1 (by simp), hk⟩
end Go.Proofs.Ytgpikophndbmeaa
