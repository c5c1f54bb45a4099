/- Edits: how they read. -/
import Derived.Test.YtjehmleckcmilaaRowD
namespace Go.Proofs.Ytjehmleckcmilaa
open Go.RowKit

structure Ed where
  f : Int
  t : Int
  new : List Int
deriving DecidableEq, Inhabited

def Ed.d (e : Ed) : D := .agg [.int e.f, .int e.t, D.ints e.new]
theorem eds_cells (l : List Ed) : ∀ d ∈ l.map Ed.d, d.cells = 3 := by
  intro d hd
  simp at hd
  obtain ⟨t, _, rfl⟩ := hd
  simp [Ed.d, D.ints, D.cells, D.cellsAll]
theorem Rd.ed {S : Nat → Prop} {w : World} {e : Ed} {cs : List Value} (h : Rd S w e.d cs) : ∃ u, cs = [.int .i64 e.f, .int .i64 e.t, u] ∧ Rd S w (D.ints e.new) [u] := by
  obtain ⟨c1, c2, rfl, h1, c3, c4, rfl, h2, h3⟩ := h
  rw [RdAll.one_iff] at h3
  simp [Rd] at h1 h2
  subst h1 h2
  have h4 := h3
  obtain ⟨a, cap, L, e, _⟩ := h3
  subst e
  exact ⟨_, rfl, h4⟩
theorem rd_ed {S : Nat → Prop} {w : World} (e : Ed) {u : Value} (h : Rd S w (D.ints e.new) [u]) : Rd S w e.d [.int .i64 e.f, .int .i64 e.t, u] :=
  ⟨[.int .i64 e.f], _, rfl, rfl, [.int .i64 e.t], [u], rfl, rfl, RdAll.one h⟩
theorem Rd.ed_at {S : Nat → Prop} {w : World} {l : List Ed} {a : Option Addr} {n cap i : Nat} (h : Rd S w (.sl (l.map Ed.d)) [.slice a n cap]) (hi : i < l.length) :
    ∃ b off u, a = some ⟨b, off, none⟩ ∧ S b ∧ b < w.heap.size ∧ w.cell? ⟨b, off + i * 3, none⟩ = some (.int .i64 l[i].f) ∧ w.cell? ⟨b, off + i * 3 + 1, none⟩ = some (.int .i64 l[i].t) ∧ w.cell? ⟨b, off + i * 3 + 2, none⟩ = some u ∧ Rd S w (D.ints l[i].new) [u] := by
  obtain ⟨b, off, cs, ha, hS, hlt, hr, hl, hc⟩ := h.at (eds_cells l) (by decide) (i := i) (by simpa using hi)
  simp at hr
  obtain ⟨u, rfl, hu⟩ := Rd.ed hr
  exact ⟨b, off, u, ha, hS, hlt, by simpa using hc 0 (by simp), by simpa [Nat.add_assoc] using hc 1 (by simp), by simpa [Nat.add_assoc] using hc 2 (by simp), hu⟩
end Go.Proofs.Ytjehmleckcmilaa
