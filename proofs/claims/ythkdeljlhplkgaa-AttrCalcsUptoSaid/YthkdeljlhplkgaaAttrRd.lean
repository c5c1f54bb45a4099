/- How attribute systems read in memory; the contract of attr.size. -/
import Derived.Test.YthkdeljlhplkgaaAttr
import Derived.Deep.DeepCutAuto
namespace Go.Proofs.Ythkdeljlhplkgaa
open Go.RowKit
namespace At

theorem bx_cells5 {w : World} {b : Nat} {x0 x1 x2 x3 x4 : Value} {T : TypeId} (h : w.heap[b]? = some (.cells #[x0, x1, x2, x3, x4] T (0, 0))) :
    w.cell? ⟨b, 0, none⟩ = some x0 ∧ w.cell? ⟨b, 0 + 1, none⟩ = some x1 ∧ w.cell? ⟨b, 0 + 2, none⟩ = some x2 ∧ w.cell? ⟨b, 0 + 3, none⟩ = some x3 ∧ w.cell? ⟨b, 0 + 4, none⟩ = some x4 := by
  refine ⟨?_, ?_, ?_, ?_, ?_⟩ <;> simp [World.cell?, h]
theorem rd_ref {S : Nat → Prop} {w : World} (r : Ref) : Rd S w r.d [.int .i64 r.at', .int .i64 r.attr] := ⟨[.int .i64 r.at'], [.int .i64 r.attr], rfl, rfl, RdAll.one rfl⟩
theorem Rd.ref {S : Nat → Prop} {w : World} {r : Ref} {cs : List Value} (h : Rd S w r.d cs) : cs = [.int .i64 r.at', .int .i64 r.attr] := by
  obtain ⟨c1, c2, rfl, h1, h2⟩ := h
  rw [RdAll.one_iff] at h2
  simp [Rd] at h1 h2
  subst h1 h2
  rfl
theorem Rd.expr {S : Nat → Prop} {w : World} {x : Expr} {cs : List Value} (h : Rd S w x.d cs) : ∃ v, cs = [.int .i64 x.kind, .int .i64 x.n, .int .i64 x.ref.at', .int .i64 x.ref.attr, v] ∧ Rd S w (.sl (x.args.map Expr.d)) [v] := by
  rw [Expr.d_eq] at h
  obtain ⟨c1, c2, rfl, h1, c3, c4, rfl, h2, c5, c6, rfl, h3, h4⟩ := h
  rw [RdAll.one_iff] at h4
  have h3' := Rd.ref h3
  simp [Rd] at h1 h2
  subst h1 h2 h3'
  have h5 := h4
  obtain ⟨a, cap, L, e, _⟩ := h4
  subst e
  exact ⟨_, rfl, h5⟩
theorem rd_expr {S : Nat → Prop} {w : World} {x : Expr} {v : Value} (h : Rd S w (.sl (x.args.map Expr.d)) [v]) : Rd S w x.d [.int .i64 x.kind, .int .i64 x.n, .int .i64 x.ref.at', .int .i64 x.ref.attr, v] := by
  rw [Expr.d_eq]
  exact ⟨[_], [_, _, _, v], rfl, rfl, [_], [_, _, v], rfl, rfl, [_, _], [v], rfl, rd_ref _, RdAll.one h⟩
theorem Rd.arg {S : Nat → Prop} {w : World} {l : List Expr} {a : Option Addr} {n cap i : Nat} (h : Rd S w (.sl (l.map Expr.d)) [.slice a n cap]) (hi : i < l.length) :
    ∃ b off v, a = some ⟨b, off, none⟩ ∧ S b ∧ b < w.heap.size ∧ w.cell? ⟨b, off + i * 5, none⟩ = some (.int .i64 l[i].kind) ∧ w.cell? ⟨b, off + i * 5 + 1, none⟩ = some (.int .i64 l[i].n) ∧ w.cell? ⟨b, off + i * 5 + 2, none⟩ = some (.int .i64 l[i].ref.at') ∧ w.cell? ⟨b, off + i * 5 + 3, none⟩ = some (.int .i64 l[i].ref.attr) ∧ w.cell? ⟨b, off + i * 5 + 4, none⟩ = some v ∧ Rd S w (.sl (l[i].args.map Expr.d)) [v] := by
  obtain ⟨b, off, cs, ha, hS, hlt, hr, hl, hc⟩ := h.at (exprs_cells l) (by decide) (i := i) (by simpa using hi)
  simp at hr
  obtain ⟨v, rfl, hk⟩ := Rd.expr hr
  exact ⟨b, off, v, ha, hS, hlt, by simpa using hc 0 (by simp), by simpa [Nat.add_assoc] using hc 1 (by simp), by simpa [Nat.add_assoc] using hc 2 (by simp), by simpa [Nat.add_assoc] using hc 3 (by simp), by simpa [Nat.add_assoc] using hc 4 (by simp), hk⟩

def SizePost (x : Expr) (w : World) (e : Ending) (w' : World) : Prop := e = .returned (.int .i64 (min x.size 31 : Nat)) ∧ Below w.heap.size w w'
end At
end Go.Proofs.Ythkdeljlhplkgaa
