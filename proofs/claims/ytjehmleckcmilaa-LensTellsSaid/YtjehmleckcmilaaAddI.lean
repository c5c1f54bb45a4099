/- lengthsOf: its boxes, its two rows of items, and its set. -/
import Derived.Test.YtjehmleckcmilaaItem
import Derived.Test.YtjehmleckcmilaaQueue
import Derived.Test.YtjehmleckcmilaaLensP
namespace Go.Proofs.Ytjehmleckcmilaa
open Go.RowKit
namespace Ln

def it3 (x : Nat × Nat × Nat) : List Value := [.int .i64 x.1, .int .i64 x.2.1, .int .i64 x.2.2]
def its (L : List (Nat × Nat × Nat)) : List Value := L.flatMap it3
theorem its_snoc (L : List (Nat × Nat × Nat)) (x : Nat × Nat × Nat) : its (L ++ [x]) = its L ++ it3 x := by simp [its]
theorem its_len (L : List (Nat × Nat × Nat)) : (its L).length = L.length * 3 := by
  induction L with
  | nil => rfl
  | cons x L ih => simp only [its, List.flatMap_cons, List.length_append] at ih ⊢; rw [ih]; simp [it3, Nat.add_mul]; omega
theorem its_at {L : List (Nat × Nat × Nat)} {j : Nat} (h : j < L.length) : (its L)[j * 3]? = some (.int .i64 L[j].1) ∧ (its L)[j * 3 + 1]? = some (.int .i64 L[j].2.1) ∧ (its L)[j * 3 + 2]? = some (.int .i64 L[j].2.2) := by
  have e : its L = its (L.take j) ++ (it3 L[j] ++ its (L.drop (j + 1))) := by
    have h1 := congrArg its (List.take_append_drop j L)
    rw [← h1, List.drop_eq_getElem_cons h]
    unfold its
    rw [List.flatMap_append, List.flatMap_cons]
  have hl : (its (L.take j)).length = j * 3 := by rw [its_len, List.length_take]; congr 1; omega
  rw [e]
  refine ⟨?_, ?_, ?_⟩ <;> (rw [List.getElem?_append_right (by omega), hl]; simp [it3, show j * 3 + 1 - j * 3 = 1 by omega, show j * 3 + 2 - j * 3 = 2 by omega])
open Classical in
noncomputable def inSet (L : List (Nat × Nat × Nat)) : Lit → Bool := fun l => decide (∃ x ∈ L, itL x.1 x.2.1 x.2.2 = l)
def small3 (x : Nat × Nat × Nat) : Prop := x.1 ≤ 1000 ∧ x.2.1 ≤ 1000 ∧ x.2.2 ≤ 1000
theorem itL_eq {x y : Nat × Nat × Nat} (hx : small3 x) (hy : small3 y) (h : itL x.1 x.2.1 x.2.2 = itL y.1 y.2.1 y.2.2) : x = y := by
  obtain ⟨h1, h2, h3⟩ := itL_inj hx.1 hx.2.1 hx.2.2 hy.1 hy.2.1 hy.2.2 h
  obtain ⟨a, b, c⟩ := x
  obtain ⟨a', b', c'⟩ := y
  simp at h1 h2 h3
  simp [h1, h2, h3]
open Classical in
theorem inSet_at {L : List (Nat × Nat × Nat)} {x : Nat × Nat × Nat} (hL : ∀ y ∈ L, small3 y) (hx : small3 x) : inSet L (itL x.1 x.2.1 x.2.2) = decide (x ∈ L) := by
  unfold inSet
  rw [decide_eq_decide]
  constructor
  · rintro ⟨y, hy, h⟩
    rw [← itL_eq (hL y hy) hx h]; exact hy
  · intro h; exact ⟨x, h, rfl⟩
theorem inSet_add {L : List (Nat × Nat × Nat)} {x : Nat × Nat × Nat} : inSet (L ++ [x]) (itL x.1 x.2.1 x.2.2) = true := by
  unfold inSet
  simp only [decide_eq_true_eq]
  exact ⟨x, by simp, rfl⟩
theorem inSet_other {L : List (Nat × Nat × Nat)} {x : Nat × Nat × Nat} {l : Lit} (h : l ≠ itL x.1 x.2.1 x.2.2) : inSet (L ++ [x]) l = inSet L l := by
  unfold inSet
  rw [decide_eq_decide]
  constructor
  · rintro ⟨y, hy, e⟩
    rcases List.mem_append.1 hy with hy | hy
    · exact ⟨y, hy, e⟩
    · simp at hy; subst hy; exact absurd e.symm h
  · rintro ⟨y, hy, e⟩; exact ⟨y, List.mem_append_left _ hy, e⟩
theorem elItem : ElemT Try.prog 269 271 3 24 := ElemT.mk' (z := .agg #[.int .i64 0, .int .i64 0, .int .i64 0]) (by kernel_rfl) (by kernel_rfl) rfl (by decide)
/-- the two rows of items: all, and those that wait; L0: what was read of all before; X: blocks beside them -/
structure RR (B : Nat) (X : Nat → Prop) (A Q L0 : List (Nat × Nat × Nat)) (g0 off0 : Nat) (va vq : Value) (W : World) : Prop where
  all : ownsQ W B 271 3 va A.length (its A)
  row : ownsQ W B 271 3 vq Q.length (its Q)
  ap : ∀ k, va.ownBlock = some k → vq.ownBlock ≠ some k
  sn : ∀ j u, (its L0)[j]? = some u → W.cell? ⟨g0, off0 + j, none⟩ = some u
  sl : g0 < W.heap.size
  sb : L0 = [] ∨ B ≤ g0
  sq : vq.ownBlock ≠ some g0
  sa : va.ownBlock = some g0 → ∃ cap, va = .slice (some ⟨g0, off0, none⟩) A.length cap ∧ L0 <+: A
  ax : ∀ k, X k → va.ownBlock ≠ some k ∧ vq.ownBlock ≠ some k ∧ B ≤ k ∧ k < W.heap.size
section
variable {B : Nat} {X : Nat → Prop} {A Q L0 : List (Nat × Nat × Nat)} {g0 off0 : Nat} {va vq : Value} {W W1 : World}
theorem cell_of_block {w w' : World} {b o : Nat} (h : w'.heap[b]? = w.heap[b]?) : w'.cell? ⟨b, o, none⟩ = w.cell? ⟨b, o, none⟩ := by simp [World.cell?, h]
theorem RR.other {row : Option Nat} (h : RR B X A Q L0 g0 off0 va vq W) (hg : W.grownBy W1 row) (hr : ∀ k, row = some k → k < B) : RR B X A Q L0 g0 off0 va vq W1 := by
  refine ⟨h.all.other hg (fun k e e2 => by have := (h.all.lt k e).1; have := hr k e2; omega), h.row.other hg (fun k e e2 => by have := (h.row.lt k e).1; have := hr k e2; omega), h.ap, fun j u hj => ?_, Nat.lt_of_lt_of_le h.sl hg.size, h.sb, h.sq, h.sa, fun k hk => ⟨(h.ax k hk).1, (h.ax k hk).2.1, (h.ax k hk).2.2.1, Nat.lt_of_lt_of_le (h.ax k hk).2.2.2 hg.size⟩⟩
  rcases h.sb with e | e
  · subst e; simp [its] at hj
  · rw [cell_of_block (hg.block g0 h.sl (fun e2 => by have := hr g0 e2.symm; omega))]; exact h.sn j u hj
theorem RR.keep (h : RR B X A Q L0 g0 off0 va vq W) (hb : Below W.heap.size W W1) : RR B X A Q L0 g0 off0 va vq W1 := h.other (grown_below hb none) (fun k e => by cases e)
theorem its_prefix {L0 A : List (Nat × Nat × Nat)} (h : L0 <+: A) {j : Nat} {u : Value} (hj : (its L0)[j]? = some u) (x : Nat × Nat × Nat) : (its A ++ it3 x)[j]? = some u := by
  obtain ⟨t, rfl⟩ := h
  have hl := (List.getElem?_eq_some_iff.1 hj).1
  rw [show its (L0 ++ t) = its L0 ++ its t by simp [its], List.append_assoc, List.getElem?_append_left hl]
  exact hj
theorem ob {g off n cap k : Nat} (h : (Value.slice (some ⟨g, off, none⟩) n cap).ownBlock = some k) : g = k := by simpa [Value.ownBlock] using h
theorem RR.appA {x : Nat × Nat × Nat} {g off cap : Nat} (h : RR B X A Q L0 g0 off0 va vq W) (ho : ownsQ W1 B 271 3 (.slice (some ⟨g, off, none⟩) (A.length + 1) cap) (A.length + 1) (its A ++ it3 x)) (hg : W.grownBy W1 va.ownBlock)
    (hat : (∃ cap0, va = .slice (some ⟨g, off, none⟩) A.length cap0) ∨ (g = W.heap.size ∧ W.grownBy W1 none)) : RR B X (A ++ [x]) Q L0 g0 off0 (.slice (some ⟨g, off, none⟩) (A.length + 1) cap) vq W1 := by
  refine ⟨by rw [its_snoc, List.length_append]; exact ho, h.row.other hg (fun k e e2 => h.ap k e2 e), fun k e => ?_, fun j u hj => ?_, Nat.lt_of_lt_of_le h.sl hg.size, h.sb, h.sq, fun e => ?_, fun k hk => ?_⟩
  · obtain rfl := ob e
    rcases hat with ⟨c0, rfl⟩ | ⟨rfl, _⟩
    · exact h.ap g rfl
    · intro e; have := (h.row.lt _ e).2; omega
  · rcases hat with ⟨c0, rfl⟩ | ⟨rfl, hn⟩
    · by_cases e : g = g0
      · subst e
        obtain ⟨c1, e1, hp⟩ := h.sa rfl
        cases e1
        obtain ⟨g', off', cap', e2, hc⟩ := ho.cells (by omega)
        cases e2
        exact hc j u (its_prefix hp hj x)
      · rw [cell_of_block (hg.block g0 h.sl (fun e2 => by cases e2; exact e rfl))]; exact h.sn j u hj
    · rw [cell_of_block (hn.block g0 h.sl (fun e2 => by cases e2))]; exact h.sn j u hj
  · obtain rfl := ob e
    rcases hat with ⟨c0, rfl⟩ | ⟨e, _⟩
    · obtain ⟨c1, e1, hp⟩ := h.sa rfl
      cases e1
      exact ⟨cap, by simp, hp.trans (List.prefix_append _ _)⟩
    · have := h.sl; omega
  · obtain ⟨k1, k2, k3, k4⟩ := h.ax k hk
    refine ⟨fun e => ?_, k2, k3, Nat.lt_of_lt_of_le k4 hg.size⟩
    obtain rfl := ob e
    rcases hat with ⟨c0, rfl⟩ | ⟨rfl, _⟩
    · exact k1 rfl
    · omega
theorem RR.appQ {x : Nat × Nat × Nat} {g off cap : Nat} (h : RR B X A Q L0 g0 off0 va vq W) (ho : ownsQ W1 B 271 3 (.slice (some ⟨g, off, none⟩) (Q.length + 1) cap) (Q.length + 1) (its Q ++ it3 x)) (hg : W.grownBy W1 vq.ownBlock)
    (hat : (∃ cap0, vq = .slice (some ⟨g, off, none⟩) Q.length cap0) ∨ (g = W.heap.size ∧ W.grownBy W1 none)) : RR B X A (Q ++ [x]) L0 g0 off0 va (.slice (some ⟨g, off, none⟩) (Q.length + 1) cap) W1 := by
  refine ⟨h.all.other hg (fun k e e2 => h.ap k e e2), by rw [its_snoc, List.length_append]; exact ho, fun k e e2 => ?_, fun j u hj => ?_, Nat.lt_of_lt_of_le h.sl hg.size, h.sb, fun e => ?_, h.sa, fun k hk => ?_⟩
  · obtain rfl := ob e2
    rcases hat with ⟨c0, rfl⟩ | ⟨rfl, _⟩
    · exact h.ap g e rfl
    · have := (h.all.lt _ e).2; omega
  · rw [cell_of_block (hg.block g0 h.sl (fun e2 => h.sq e2.symm))]; exact h.sn j u hj
  · obtain rfl := ob e
    rcases hat with ⟨c0, rfl⟩ | ⟨e, _⟩
    · exact h.sq rfl
    · have := h.sl; omega
  · obtain ⟨k1, k2, k3, k4⟩ := h.ax k hk
    refine ⟨k1, fun e => ?_, k3, Nat.lt_of_lt_of_le k4 hg.size⟩
    obtain rfl := ob e
    rcases hat with ⟨c0, rfl⟩ | ⟨rfl, _⟩
    · exact k2 rfl
    · omega
theorem RR.snap {g off n cap : Nat} (h : RR B X A Q [] g0 off0 (.slice (some ⟨g, off, none⟩) n cap) vq W) : RR B X A Q A g off (.slice (some ⟨g, off, none⟩) n cap) vq W := by
  have hl := h.all.lt g rfl
  obtain ⟨a, c, e, _⟩ := h.all.form
  cases e
  refine ⟨h.all, h.row, h.ap, fun j u hj => ?_, hl.2, .inr hl.1, h.ap g rfl, fun _ => ⟨cap, rfl, List.prefix_refl _⟩, h.ax⟩
  have h1 := (List.getElem?_eq_some_iff.1 hj).1
  rw [its_len] at h1
  obtain ⟨g', off', cap', e2, hc⟩ := h.all.cells (by omega)
  cases e2
  exact hc j u hj
theorem RR.unsnap (h : RR B X A Q L0 g0 off0 va vq W) (hB : 1 ≤ B) : RR B X A Q [] 0 0 va vq W := by
  refine ⟨h.all, h.row, h.ap, fun j u hj => by simp [its] at hj, by have := h.sl; omega, .inl rfl, fun e => by have := (h.row.lt _ e).1; omega, fun e => by have := (h.all.lt _ e).1; omega, h.ax⟩
theorem RR.protect (h : RR B X A Q L0 g0 off0 va vq W) {X' : Nat → Prop} (hb : Below W.heap.size W W1) (hx : ∀ k, X' k → X k ∨ (B ≤ k ∧ W.heap.size ≤ k ∧ k < W1.heap.size)) : RR B X' A Q L0 g0 off0 va vq W1 := by
  have h' := h.keep hb
  refine ⟨h'.all, h'.row, h'.ap, h'.sn, h'.sl, h'.sb, h'.sq, h'.sa, fun k hk => ?_⟩
  rcases hx k hk with e | ⟨e1, e2, e3⟩
  · exact h'.ax k e
  · exact ⟨fun e => by have := (h.all.lt k e).2; omega, fun e => by have := (h.row.lt k e).2; omega, e1, e3⟩
end
/-- what lengthsOf's boxes hold: s: the map; s + 1, s + 2, s + 3: the boxes of the map, of all items, of those that wait -/
structure AI (w2 : World) (nb s n : Nat) (X : Nat → Prop) (L : List (Nat × Nat × Nat)) (p : Nat) (L0 : List (Nat × Nat × Nat)) (g0 off0 : Nat) (wr : World) : Prop where
  nbox : wr.heap[nb]? = some (.cells #[.int .i64 n] 3 (0, 0))
  sbox : wr.heap[s + 1]? = some (.cells #[.map (some s)] 268 (0, 0))
  set : ∃ c, SetM Try.prog 271 4 s c (inSet L) wr ∧ c ≤ L.length
  rows : ∃ va vq, wr.heap[s + 2]? = some (.cells #[va] 269 (0, 0)) ∧ wr.heap[s + 3]? = some (.cells #[vq] 269 (0, 0)) ∧ RR (s + 4) X L (L.drop p) L0 g0 off0 va vq wr
  small : ∀ x ∈ L, small3 x
  bel : Below s w2 wr
  lo : nb < s
  le : s + 4 ≤ wr.heap.size
  pl : p ≤ L.length
  px : ∀ k, X k → k < w2.heap.size ∧ wr.heap[k]? = w2.heap[k]?
theorem AI.keep {w2 : World} {nb s n : Nat} {X : Nat → Prop} {L : List (Nat × Nat × Nat)} {p : Nat} {L0 : List (Nat × Nat × Nat)} {g0 off0 : Nat} {wr w' : World} (h : AI w2 nb s n X L p L0 g0 off0 wr) (hb : Below wr.heap.size wr w') : AI w2 nb s n X L p L0 g0 off0 w' := by
  obtain ⟨h1, h2, ⟨c, h3, h4⟩, ⟨va, vq, r1, r2, r3⟩, h5, h6, h7, h8, h9, h10⟩ := h
  exact ⟨bx_keep h1 hb, bx_keep h2 hb, ⟨c, h3.keep hb, h4⟩, ⟨va, vq, bx_keep r1 hb, bx_keep r2 hb, r3.keep hb⟩, h5, h6.trans (hb.mono (by omega)), h7, Nat.le_trans h8 hb.size, h9, fun k hk => ⟨(h10 k hk).1, (hb.block k (r3.ax k hk).2.2.2).trans (h10 k hk).2⟩⟩
open Classical in
noncomputable def addL (n : Nat) (L : List (Nat × Nat × Nat)) (x : Nat × Nat × Nat) : List (Nat × Nat × Nat) := if x.2.2 ≤ n ∧ x ∉ L then L ++ [x] else L
end Ln
end Go.Proofs.Ytjehmleckcmilaa
