/- A row of documents of the call's own, whose last document is changed in place. -/
import Derived.Test.YtgpikophndbmeaaDocNrm
namespace Go.Proofs.Ytgpikophndbmeaa
open Go.RowKit
namespace Dc

/-- a cell of a row of the call's own, stored into -/
theorem own_setD {w : World} {B : Nat} {e : TypeId} {size : Nat} {g n cap : Nat} {xs : List Value} (h : w.ownsRow B e size (.slice (some ⟨g, 0, none⟩) n cap) n xs) {j : Nat} (_hj : j < n * size) (u : Value) :
    (w.setCell ⟨g, j, none⟩ u).ownsRow B e size (.slice (some ⟨g, 0, none⟩) n cap) n (xs.set j u) := by
  obtain ⟨hl, h⟩ := h
  refine ⟨by simpa using hl, ?_⟩
  rcases h with ⟨h, _⟩ | ⟨g', cap', cur, hv, hg, hh, h1, h2, h3, h4⟩
  · cases h
  · cases hv
    refine .inr ⟨g, cap, cur.setIfInBounds j u, rfl, hg, bx_set hh j u, h1, h2, by simpa using h3, ?_⟩
    rw [← h4, Array.toList_setIfInBounds, List.take_set]
/-- where the last document lies -/
def glB (O : List Doc) (x : Doc) : Bool := match O.getLast? with
  | none => false
  | some y => glueB y x
theorem glB_nil (x : Doc) : glB [] x = false := rfl
theorem glB_app (o : List Doc) (y x : Doc) : glB (o ++ [y]) x = glueB y x := by unfold glB; simp
theorem glue_no {O : List Doc} {x : Doc} (h : dropB x = false) (hg : glB O x = false) : glue O x = O ++ [x] := by
  rcases List.eq_nil_or_concat O with rfl | ⟨o, y, rfl⟩
  · exact glue_nil h
  · rw [List.concat_eq_append] at hg ⊢
    rw [glB_app] at hg
    exact glue_app h hg
theorem glue_yes {O : List Doc} {x : Doc} (h : dropB x = false) (hg : glB O x = true) : ∃ o y, O = o ++ [y] ∧ glueB y x = true ∧ glue O x = o ++ [glue1 y x] := by
  rcases List.eq_nil_or_concat O with rfl | ⟨o, y, rfl⟩
  · cases hg
  · rw [List.concat_eq_append] at hg ⊢
    rw [glB_app] at hg
    exact ⟨o, y, rfl, hg, glue_join h hg⟩
theorem gluesL_len : ∀ (l out : List Doc), (gluesL out l).length ≤ out.length + l.length
  | [], out => by rw [gluesL]; simp
  | x :: l, out => by rw [gluesL, List.length_cons]; have := gluesL_len l (glue out x); have := glue_len out x; omega
structure LastD (S : Nat → Prop) (B : Nat) (o : List Doc) (y : Doc) (g cap n m : Nat) (vk : Value) (cs : List Value) (wr : World) : Prop where
  own : wr.ownsRow B 24 4 (.slice (some ⟨g, 0, none⟩) n cap) n (cs ++ [.int .i64 y.kind, .string y.txt, .int .i64 y.n, vk])
  rd : RdAll (fun k => S k ∧ g ≠ k) wr (o.map Doc.d) cs
  rl : Rd (fun k => S k ∧ g ≠ k) wr (.sl (y.kids.map Doc.d)) [vk]
  len : cs.length = m * 4
  hm : o.length = m
  hn : n = m + 1
  le : B ≤ wr.heap.size
  hc : n ≤ cap ∧ cap ≤ maxLen
  hg : B ≤ g ∧ g < wr.heap.size
theorem RowD.last {S : Nat → Prop} {B : Nat} {o : List Doc} {y : Doc} {v : Value} {wr : World} (h : RowD S B 24 4 ((o ++ [y]).map Doc.d) v wr) {n m : Nat} (hm : o.length = m) (hn : n = m + 1) : ∃ g cap vk cs, v = .slice (some ⟨g, 0, none⟩) n cap ∧ LastD S B o y g cap n m vk cs wr := by
  subst hn
  obtain ⟨⟨xs, h1, h2⟩, h3⟩ := h
  rw [List.map_append] at h2
  obtain ⟨c1, c2, rfl, h4, h5⟩ := h2.split
  obtain ⟨vk, rfl, h6⟩ := Rd.doc (RdAll.one_iff.1 h5)
  have hlen : ((o ++ [y]).map Doc.d).length = m + 1 := by simp [hm]
  rw [hlen] at h1
  have hl := h1.lt
  have hx := h1.1
  obtain ⟨a, cap, e, e1, e2⟩ := own_len h1
  rcases h1.2 with ⟨rfl, h0⟩ | ⟨g, cap', cur, rfl, hg, hh, hn', hc, _⟩
  · omega
  · cases e
    refine ⟨g, cap, vk, c1, rfl, h1, h4.mono (fun k hk _ => ⟨hk.1, fun e => hk.2 (by rw [e]; rfl)⟩), h6.mono (fun k hk _ => ⟨hk.1, fun e => hk.2 (by rw [e]; rfl)⟩), ?_, hm, rfl, h3, ⟨e1, e2⟩, hl g rfl⟩
    simp at hx; omega
section
variable {S : Nat → Prop} {B : Nat} {o : List Doc} {y : Doc} {g cap n m : Nat} {vk : Value} {cs : List Value} {wr w' : World}
theorem LastD.keep (h : LastD S B o y g cap n m vk cs wr) (hb : Below wr.heap.size wr w') : LastD S B o y g cap n m vk cs w' :=
  ⟨own_keep h.own hb, h.rd.below hb, h.rl.below hb, h.len, h.hm, h.hn, Nat.le_trans h.le hb.size, h.hc, h.hg.1, Nat.lt_of_lt_of_le h.hg.2 hb.size⟩
theorem LastD.cells (h : LastD S B o y g cap n m vk cs wr) : wr.cell? ⟨g, m * 4, none⟩ = some (.int .i64 y.kind) ∧ wr.cell? ⟨g, m * 4 + 1, none⟩ = some (.string y.txt) ∧ wr.cell? ⟨g, m * 4 + 2, none⟩ = some (.int .i64 y.n) ∧ wr.cell? ⟨g, m * 4 + 3, none⟩ = some vk := by
  have hc := fun {k : Nat} (hk : (Value.slice (some ⟨g, 0, none⟩) n cap).ownBlock = some k) => h.own.cells hk
  have hc := hc (k := g) rfl
  have hl := h.len
  refine ⟨?_, ?_, ?_, ?_⟩
  · have := hc (m * 4) (.int .i64 y.kind) (by simp [← hl]); rwa [add_at, Nat.zero_add] at this
  · have := hc (m * 4 + 1) (.string y.txt) (by rw [← hl]; simp); rwa [add_at, Nat.zero_add] at this
  · have := hc (m * 4 + 2) (.int .i64 y.n) (by rw [← hl]; simp); rwa [add_at, Nat.zero_add] at this
  · have := hc (m * 4 + 3) vk (by rw [← hl]; simp); rwa [add_at, Nat.zero_add] at this
theorem LastD.free (h : LastD S B o y g cap n m vk cs wr) (j : Nat) : wr.frozen? ⟨g, j, none⟩ = false := by
  rcases h.own.2 with ⟨h, _⟩ | ⟨g', cap', cur, e, hg, hh, _⟩
  · cases h
  · cases e; simp [World.frozen?, hh]
theorem LastD.row (h : LastD S B o y g cap n m vk cs wr) : RowD S B 24 4 ((o ++ [y]).map Doc.d) (.slice (some ⟨g, 0, none⟩) n cap) wr := by
  refine ⟨⟨_, by rw [List.length_map, List.length_append, h.hm]; have := h.own; rw [h.hn] at this; rw [h.hn]; exact this, ?_⟩, h.le⟩
  rw [List.map_append]
  exact (h.rd.mono (fun k hk _ => ⟨hk.1, fun e => hk.2 (by cases e; rfl)⟩)).append (RdAll.one (rd_doc (h.rl.mono (fun k hk _ => ⟨hk.1, fun e => hk.2 (by cases e; rfl)⟩))))
theorem keepG {P : Nat → Prop} (w : World) (g j : Nat) (u : Value) : ∀ k, (P k ∧ g ≠ k) → k < w.heap.size → (P k ∧ g ≠ k) ∧ (w.setCell ⟨g, j, none⟩ u).heap[k]? = w.heap[k]? := fun k hk _ => ⟨hk, Below.heap_setCell _ _ _ _ (fun e => hk.2 e.symm)⟩
theorem size_set (w : World) (a : Addr) (u : Value) : (w.setCell a u).heap.size = w.heap.size := by simp [World.setCell]
theorem LastD.set1 (h : LastD S B o y g cap n m vk cs wr) (s : ByteArray) : LastD S B o (.mk y.kind s y.n y.kids) g cap n m vk cs (wr.setCell ⟨g, m * 4 + 1, none⟩ (.string s)) := by
  refine ⟨?_, RdAll.keep (keepG wr g _ _) _ _ h.rd, Rd.keep (keepG wr g _ _) _ _ h.rl, h.len, h.hm, h.hn, by rw [size_set]; exact h.le, h.hc, by rw [size_set]; exact h.hg⟩
  have := own_setD h.own (j := m * 4 + 1) (by have := h.hn; omega) (.string s)
  rw [← h.len] at this ⊢
  simpa [Doc.kind, Doc.txt, Doc.n] using this
theorem LastD.set4 (h : LastD S B o y g cap n m vk cs wr) (s : ByteArray) : LastD S B o (.mk 0 s 0 []) g cap n m (.slice none 0 0) cs ((((wr.setCell ⟨g, m * 4, none⟩ (.int .i64 0)).setCell ⟨g, m * 4 + 1, none⟩ (.string s)).setCell ⟨g, m * 4 + 2, none⟩ (.int .i64 0)).setCell ⟨g, m * 4 + 3, none⟩ (.slice none 0 0)) := by
  refine ⟨?_, RdAll.keep (keepG _ g _ _) _ _ (RdAll.keep (keepG _ g _ _) _ _ (RdAll.keep (keepG _ g _ _) _ _ (RdAll.keep (keepG _ g _ _) _ _ h.rd))), ⟨none, 0, [], rfl, by simp [Doc.kids], by simp, fun _ => rfl, fun i hi => by simp at hi, by simp [Doc.kids, RdAll]⟩, h.len, h.hm, h.hn, by simp only [size_set]; exact h.le, h.hc, by simp only [size_set]; exact h.hg⟩
  have := own_setD (own_setD (own_setD (own_setD h.own (j := m * 4) (by have := h.hn; omega) (.int .i64 0)) (j := m * 4 + 1) (by have := h.hn; omega) (.string s)) (j := m * 4 + 2) (by have := h.hn; omega) (.int .i64 0)) (j := m * 4 + 3) (by have := h.hn; omega) (.slice none 0 0)
  rw [← h.len] at this ⊢
  simpa [Doc.kind, Doc.txt, Doc.n] using this
/-- an element of a row of the call's own -/
theorem RowD.elem {L : List Doc} {v : Value} (h : RowD S B 24 4 (L.map Doc.d) v wr) {i : Nat} (hi : i < L.length) : ∃ g cap u, v = .slice (some ⟨g, 0, none⟩) (L.map Doc.d).length cap ∧ g < wr.heap.size ∧ wr.cell? ⟨g, i * 4, none⟩ = some (.int .i64 L[i].kind) ∧ wr.cell? ⟨g, i * 4 + 1, none⟩ = some (.string L[i].txt) ∧ wr.cell? ⟨g, i * 4 + 2, none⟩ = some (.int .i64 L[i].n) ∧ wr.cell? ⟨g, i * 4 + 3, none⟩ = some u ∧ Rd S wr (.sl (L[i].kids.map Doc.d)) [u] := by
  obtain ⟨⟨xs, h1, h2⟩, h3⟩ := h
  have hl := h1.lt
  have hx := h1.1
  have hcs := fun {k : Nat} (hk : v.ownBlock = some k) => h1.cells hk
  have hg := RdAll.get h2 (docs_cells L) i (by simpa using hi)
  rw [List.getElem_map] at hg
  obtain ⟨u, hu, hr⟩ := Rd.doc hg
  rcases h1.2 with ⟨rfl, h0⟩ | ⟨g, cap, cur, rfl, hgB, hh, hn', hc, _⟩
  · rw [List.length_map] at h0; omega
  · have hcc := hcs rfl
    have hat : ∀ j, j < 4 → xs[i * 4 + j]? = ((xs.drop (i * 4)).take 4)[j]? := fun j hj => by rw [List.getElem?_take_of_lt hj, List.getElem?_drop]
    rw [hu] at hat
    refine ⟨g, cap, u, rfl, (hl g rfl).2, ?_, ?_, ?_, ?_, hr.mono fun k hk _ => hk.1⟩
    · have := hcc (i * 4) _ (hat 0 (by omega)); rwa [add_at, Nat.zero_add] at this
    · have := hcc (i * 4 + 1) _ (hat 1 (by omega)); rwa [add_at, Nat.zero_add] at this
    · have := hcc (i * 4 + 2) _ (hat 2 (by omega)); rwa [add_at, Nat.zero_add] at this
    · have := hcc (i * 4 + 3) _ (hat 3 (by omega)); rwa [add_at, Nat.zero_add] at this
end
/-- what a call returns: a document -/
def CatPost (S : Nat → Prop) (d : Doc) (w : World) (e : Ending) (w' : World) : Prop :=
  ∃ u, e = .returned (.agg #[.int .i64 d.kind, .string d.txt, .int .i64 d.n, u]) ∧ Rd (fun k => S k ∨ w.heap.size ≤ k) w' (.sl (d.kids.map Doc.d)) [u] ∧ Below w.heap.size w w'
end Dc
end Go.Proofs.Ytgpikophndbmeaa
