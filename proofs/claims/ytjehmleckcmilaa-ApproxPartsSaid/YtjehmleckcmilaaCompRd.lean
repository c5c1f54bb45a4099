/- Components: how they read. -/
import Derived.Test.YtjehmleckcmilaaComps
import Derived.Test.YtjehmleckcmilaaRowD
namespace Go.Proofs.Ytjehmleckcmilaa
open Go.RowKit

def Comp.d (c : Comp) : D := .agg [.int c.kind, D.ints c.nons]
theorem comps_cells (l : List Comp) : ∀ d ∈ l.map Comp.d, d.cells = 2 := by
  intro d hd
  simp at hd
  obtain ⟨t, _, rfl⟩ := hd
  simp [Comp.d, D.ints, D.cells, D.cellsAll]
theorem Rd.comp {S : Nat → Prop} {w : World} {c : Comp} {cs : List Value} (h : Rd S w c.d cs) : ∃ u, cs = [.int .i64 c.kind, u] ∧ Rd S w (D.ints c.nons) [u] := by
  obtain ⟨c1, c2, rfl, h1, h2⟩ := h
  rw [RdAll.one_iff] at h2
  simp [Rd] at h1
  subst h1
  have h4 := h2
  obtain ⟨a, cap, L, e, _⟩ := h2
  subst e
  exact ⟨_, rfl, h4⟩
theorem rd_comp {S : Nat → Prop} {w : World} (c : Comp) {u : Value} (h : Rd S w (D.ints c.nons) [u]) : Rd S w c.d [.int .i64 c.kind, u] := ⟨[.int .i64 c.kind], [u], rfl, rfl, RdAll.one h⟩
theorem Rd.comp_at {S : Nat → Prop} {w : World} {l : List Comp} {a : Option Addr} {n cap i : Nat} (h : Rd S w (.sl (l.map Comp.d)) [.slice a n cap]) (hi : i < l.length) :
    ∃ b off u, a = some ⟨b, off, none⟩ ∧ S b ∧ b < w.heap.size ∧ w.cell? ⟨b, off + i * 2, none⟩ = some (.int .i64 l[i].kind) ∧ w.cell? ⟨b, off + i * 2 + 1, none⟩ = some u ∧ Rd S w (D.ints l[i].nons) [u] := by
  obtain ⟨b, off, cs, ha, hS, hlt, hr, hl, hc⟩ := h.at (comps_cells l) (by decide) (i := i) (by simpa using hi)
  simp at hr
  obtain ⟨u, rfl, hu⟩ := Rd.comp hr
  exact ⟨b, off, u, ha, hS, hlt, by simpa using hc 0 (by simp), by simpa [Nat.add_assoc] using hc 1 (by simp), hu⟩
theorem elComp : ElemT Try.prog 94 98 2 32 := ElemT.mk' (z := .agg #[.int .i64 0, .slice none 0 0]) (by kernel_rfl) (by kernel_rfl) rfl (by decide)
end Go.Proofs.Ytjehmleckcmilaa
