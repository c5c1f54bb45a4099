/- What the rounds of doc.norm keep. -/
import Derived.Test.YtgpikophndbmeaaDocSim
namespace Go.Proofs.Ytgpikophndbmeaa
open Go.RowKit
namespace Dc

/-- the arguments' row, and the box whose last cell names it -/
structure NoI (w : World) (t0 t2 : Int) (t1 : ByteArray) (t3 : Value) (L : List Doc) (v : Value) (wr : World) : Prop where
  base : SiI w 3 t0 t2 t1 t3 L v wr
  out : wr.heap[w.heap.size + 2]? = some (.cells #[.int .i64 t0, .string t1, .int .i64 t2, v] 24 (0, 0))
section
variable {w wr w' : World} {t0 t2 : Int} {t1 : ByteArray} {t3 v v' u : Value} {L : List Doc} {x : Doc}
theorem NoI.keep (h : NoI w t0 t2 t1 t3 L v wr) (hb : Below wr.heap.size wr w') : NoI w t0 t2 t1 t3 L v w' := ⟨h.base.keep hb, bx_keep h.out hb⟩
theorem set3 {b : Nat} {x0 x1 x2 x3 : Value} {T : TypeId} (h : wr.heap[b]? = some (.cells #[x0, x1, x2, x3] T (0, 0))) (v : Value) : (wr.setCell ⟨b, 3, none⟩ v).heap[b]? = some (.cells #[x0, x1, x2, v] T (0, 0)) := by
  rw [bx_set h]; rfl
theorem SiI.set (h : SiI w 3 t0 t2 t1 t3 L v wr) (j : Nat) (u : Value) : SiI w 3 t0 t2 t1 t3 L v (wr.setCell ⟨w.heap.size + 2, j, none⟩ u) := by
  obtain ⟨⟨xs, h1, h2⟩, h3⟩ := h.row
  refine ⟨⟨⟨xs, h1.kept (grown_cell _ _ _) (.inr fun e => by have h9 : w.heap.size + 3 ≤ w.heap.size + 2 := (h1.lt _ e).1; omega), RdAll.keep (fun k hk hlt => ⟨hk, Below.heap_setCell _ _ _ _ ?_⟩) _ _ h2⟩, by rw [size_set]; exact h3⟩, ?_, ?_, h.bel.setCell (by show w.heap.size ≤ w.heap.size + 2; omega) _⟩
  · have := hk.1; show k ≠ w.heap.size + 2; omega
  · exact bx_other h.top (by omega) _ _
  · exact bx_other h.res (by omega) _ _
/-- behind the append of a document and the store of the new header -/
theorem NoI.step {W0 W1 : World} {xs : List Value} {n : Nat} (h : NoI w t0 t2 t1 t3 L v W0) (hr : Below wr.heap.size wr W0) (hv : ∀ k, v.ownBlock = some k → k < wr.heap.size) (hw : w.heap.size + 3 ≤ wr.heap.size) (h1 : W0.ownsRow (w.heap.size + 3) 24 4 v n xs) (h2 : RdAll (fun k => w.heap.size + 3 ≤ k ∧ v.ownBlock ≠ some k) W0 (L.map Doc.d) xs) (hn : n = (L.map Doc.d).length)
    (hp : Rd (fun k => wr.heap.size ≤ k) W0 (.sl (x.kids.map Doc.d)) [u]) (ho : W1.ownsRow (w.heap.size + 3) 24 4 v' (n + 1) (xs ++ [.int .i64 x.kind, .string x.txt, .int .i64 x.n, u])) (hg : W0.grownBy W1 v.ownBlock) (hat : v'.ownBlock = v.ownBlock ∨ ∃ k, v'.ownBlock = some k ∧ W0.heap.size ≤ k) :
    W1.heap[w.heap.size + 2]? = some (.cells #[.int .i64 t0, .string t1, .int .i64 t2, v] 24 (0, 0)) ∧ NoI w t0 t2 t1 t3 (L ++ [x]) v' (W1.setCell ⟨w.heap.size + 2, 3, none⟩ v') := by
  have hle := h.base.row.le
  have ho1 : W1.heap[w.heap.size + 2]? = some (.cells #[.int .i64 t0, .string t1, .int .i64 t2, v] 24 (0, 0)) := by
    rw [hg.block _ (by omega) (fun e => by have := (h1.lt _ e.symm).1; omega)]; exact h.out
  exact ⟨ho1, (SiI.step h.base (by omega) hr hv hw h1 h2 hn hp ho hg hat).set 3 v', set3 ho1 v'⟩
/-- a row of documents that is being made behind a world -/
structure QuI (S : Nat → Prop) (w0 : World) (L : List Doc) (v : Value) (wr : World) : Prop where
  row : RowD S w0.heap.size 24 4 (L.map Doc.d) v wr
  bel : Below w0.heap.size w0 wr
theorem QuI.keep {S : Nat → Prop} {w0 : World} (h : QuI S w0 L v wr) (hb : Below wr.heap.size wr w') : QuI S w0 L v w' := ⟨h.row.keep hb, h.bel.trans (hb.mono h.bel.size)⟩
theorem QuI.step {S : Nat → Prop} {w0 : World} {M : List Doc} {W0 W1 : World} {xs news : List Value} {n : Nat} (h : QuI S w0 L v W0) (hS : ∀ k, S k → k < w0.heap.size) (h1 : W0.ownsRow w0.heap.size 24 4 v n xs) (h2 : RdAll (fun k => S k ∧ v.ownBlock ≠ some k) W0 (L.map Doc.d) xs) (hn : n = (L.map Doc.d).length)
    (hp : RdAll S W0 (M.map Doc.d) news) (ho : W1.ownsRow w0.heap.size 24 4 v' (n + (M.map Doc.d).length) (xs ++ news)) (hg : W0.grownBy W1 v.ownBlock) (hat : v'.ownBlock = v.ownBlock ∨ ∃ k, v'.ownBlock = some k ∧ W0.heap.size ≤ k) : QuI S w0 (L ++ M) v' W1 := by
  refine ⟨?_, ?_⟩
  · rw [List.map_append]
    exact RowD.step h1 h2 hn hp (fun k hk _ => ⟨hk, fun e => by have := (h1.lt k e).1; have := hS k hk; omega⟩) h.row.le ho hg hat
  · exact h.bel.grown hg (by have := h.row.le; omega) (fun k e => (h1.lt k e).1)
/-- the row whose header lies in the box ob, behind a world -/
structure GlI (S : Nat → Prop) (ob : Nat) (o0 o2 : Int) (o1 : ByteArray) (w0 : World) (L : List Doc) (v : Value) (wr : World) : Prop where
  out : wr.heap[ob]? = some (.cells #[.int .i64 o0, .string o1, .int .i64 o2, v] 24 (0, 0))
  row : RowD S w0.heap.size 24 4 (L.map Doc.d) v wr
  gr : w0.grownBy wr (some ob)
  lt : ob < w0.heap.size
variable {S : Nat → Prop} {ob : Nat} {o0 o2 : Int} {o1 : ByteArray} {w0 : World}
theorem GlI.keep (h : GlI S ob o0 o2 o1 w0 L v wr) (hb : Below wr.heap.size wr w') : GlI S ob o0 o2 o1 w0 L v w' :=
  ⟨bx_keep h.out hb, h.row.keep hb, grown_trans h.gr (grown_below hb _), h.lt⟩
theorem GlI.step {W0 W1 : World} {xs : List Value} {n : Nat} (h : GlI S ob o0 o2 o1 w0 L v W0) (hS : ∀ k, S k → k < w0.heap.size ∧ k ≠ ob) (h1 : W0.ownsRow w0.heap.size 24 4 v n xs) (h2 : RdAll (fun k => S k ∧ v.ownBlock ≠ some k) W0 (L.map Doc.d) xs) (hn : n = (L.map Doc.d).length)
    (hp : Rd S W0 (.sl (x.kids.map Doc.d)) [u]) (ho : W1.ownsRow w0.heap.size 24 4 v' (n + 1) (xs ++ [.int .i64 x.kind, .string x.txt, .int .i64 x.n, u])) (hg : W0.grownBy W1 v.ownBlock) (hat : v'.ownBlock = v.ownBlock ∨ ∃ k, v'.ownBlock = some k ∧ W0.heap.size ≤ k) :
    W1.heap[ob]? = some (.cells #[.int .i64 o0, .string o1, .int .i64 o2, v] 24 (0, 0)) ∧ GlI S ob o0 o2 o1 w0 (L ++ [x]) v' (W1.setCell ⟨ob, 3, none⟩ v') := by
  have hle := h.row.le
  have hlt := h.lt
  have ho1 : W1.heap[ob]? = some (.cells #[.int .i64 o0, .string o1, .int .i64 o2, v] 24 (0, 0)) := by
    rw [hg.block _ (by omega) (fun e => by have := (h1.lt _ e.symm).1; omega)]; exact h.out
  have hr : RowD S w0.heap.size 24 4 ((L ++ [x]).map Doc.d) v' W1 := by
    rw [List.map_append]
    exact RowD.step (es := [x.d]) h1 h2 hn (RdAll.one (rd_doc hp)) (fun k hk _ => ⟨hk, fun e => by have := (h1.lt k e).1; have := hS k hk; omega⟩) h.row.le ho hg hat
  refine ⟨ho1, set3 ho1 v', ?_, ⟨hg.os.trans h.gr.os, hg.tape.trans h.gr.tape, hg.output.trans h.gr.output, by rw [size_set]; exact Nat.le_trans h.gr.size hg.size, fun k hk hne => ?_⟩, hlt⟩
  · obtain ⟨⟨ys, k1, k2⟩, k3⟩ := hr
    refine ⟨⟨ys, k1.kept (grown_cell _ _ _) (.inr fun e => by have h9 : w0.heap.size ≤ ob := (k1.lt _ e).1; omega), RdAll.keep (fun k hk hlt => ⟨hk, Below.heap_setCell _ _ _ _ (hS k hk.1).2⟩) _ _ k2⟩, by rw [size_set]; exact k3⟩
  · have hkne : k ≠ ob := fun e => hne (by rw [e])
    rw [Below.heap_setCell _ _ _ _ hkne, hg.block k (Nat.lt_of_lt_of_le hk h.gr.size) (fun e => by have := (h1.lt _ e.symm).1; omega)]
    exact h.gr.block k hk hne
theorem GlI.set1 {o : List Doc} {y : Doc} {g cap n m : Nat} {vk : Value} {cs : List Value} (h : GlI S ob o0 o2 o1 w0 (o ++ [y]) (.slice (some ⟨g, 0, none⟩) n cap) wr) (hl : LastD S w0.heap.size o y g cap n m vk cs wr) (s : ByteArray) :
    GlI S ob o0 o2 o1 w0 (o ++ [.mk y.kind s y.n y.kids]) (.slice (some ⟨g, 0, none⟩) n cap) (wr.setCell ⟨g, m * 4 + 1, none⟩ (.string s)) := by
  have hgB := hl.hg.1
  have hlt := h.lt
  refine ⟨bx_other h.out (by omega) _ _, (hl.set1 s).row, ⟨h.gr.os, h.gr.tape, h.gr.output, by rw [size_set]; exact h.gr.size, fun k hk hne => ?_⟩, hlt⟩
  rw [Below.heap_setCell _ _ _ _ (by show k ≠ g; omega)]
  exact h.gr.block k hk hne
end
theorem RowD.grown {S : Nat → Prop} {B : Nat} {L : List Doc} {v : Value} {wr w' : World} {b : Nat} (h : RowD S B 24 4 (L.map Doc.d) v wr) (hg : wr.grownBy w' (some b)) (hS : ∀ k, S k → k ≠ b) (hB : b < B) : RowD S B 24 4 (L.map Doc.d) v w' := by
  obtain ⟨⟨xs, h1, h2⟩, h3⟩ := h
  refine ⟨⟨xs, ?_, RdAll.keep (fun k hk hlt => ⟨hk, hg.block k hlt (fun e => hS k hk.1 (by cases e; rfl))⟩) _ _ h2⟩, Nat.le_trans h3 hg.size⟩
  exact h1.kept hg (.inr fun e => by have := (h1.lt _ e).1; omega)
theorem rd_of_doc {S : Nat → Prop} {w : World} {x : Doc} {q0 q2 : Int} {q1 : ByteArray} {u : Value} (h : Rd S w x.d [.int .i64 q0, .string q1, .int .i64 q2, u]) : Rd S w (.sl (x.kids.map Doc.d)) [u] := by
  obtain ⟨v, e, hr⟩ := Rd.doc h
  cases e
  exact hr
theorem any_line (t : Doc) : ((nodes t).any fun x => ([1, 2, 3] : List Int).any fun y => x.kind == y) = (nodes t).any isLine := by
  congr 1
  funext x
  simp [isLine]
end Dc
end Go.Proofs.Ytgpikophndbmeaa
