/- Groups: its two rows, and the flags. -/
import Derived.Test.YtjehmleckcmilaaCompsWalk
import Derived.Test.YtjehmleckcmilaaUnderWalk
namespace Go.Proofs.Ytjehmleckcmilaa
open Go.RowKit

theorem elIntsG : ElemT Try.prog 49 22 1 24 := ElemT.mk' (z := .slice none 0 0) (by kernel_rfl) (by kernel_rfl) rfl (by decide)
/-- the components' nonterminals and kinds, in two rows of the call's own -/
structure GI (B : Nat) (C : List Comp) (v5 v6 : Value) (wr : World) : Prop where
  sets : ∃ xs, wr.ownsRow B 22 1 v5 C.length xs ∧ RdAll (fun k => (B ≤ k ∧ v6.ownBlock ≠ some k) ∧ v5.ownBlock ≠ some k) wr (C.map fun c => D.ints c.nons) xs
  kinds : wr.ownsRow B 3 1 v6 C.length (ints (C.map Comp.kind))
  apart : ∀ k, v5.ownBlock = some k → v6.ownBlock ≠ some k
  le : B ≤ wr.heap.size
section
variable {B : Nat} {C : List Comp} {v5 v6 v' : Value} {wr w' : World}
theorem GI.keep (h : GI B C v5 v6 wr) (hb : Below wr.heap.size wr w') : GI B C v5 v6 w' := by
  obtain ⟨⟨xs, h1, h2⟩, h3, h4, h5⟩ := h
  exact ⟨⟨xs, own_keep h1 hb, h2.below hb⟩, own_keep h3 hb, h4, Nat.le_trans h5 hb.size⟩
theorem GI.start (B : Nat) (w : World) (h : B ≤ w.heap.size) : GI B [] (.slice none 0 0) (.slice none 0 0) w :=
  ⟨⟨[], World.ownsRow_nil _ _ _ _, by simp [RdAll]⟩, by simpa [ints] using World.ownsRow_nil w B 3 1, (fun k e => by cases e), h⟩
theorem own_other {w w' : World} {B : Nat} {e : TypeId} {s : Nat} {v : Value} {n : Nat} {xs : List Value} {row : Option Nat} (h : w.ownsRow B e s v n xs) (hg : w.grownBy w' row) (hne : ∀ k, v.ownBlock = some k → row ≠ some k) : w'.ownsRow B e s v n xs := by
  have hlt := h.lt
  obtain ⟨h1, h2⟩ := h
  refine ⟨h1, ?_⟩
  rcases h2 with h2 | ⟨g, cap, cur, rfl, hg', hh, r⟩
  · exact .inl h2
  · exact .inr ⟨g, cap, cur, rfl, hg', (hg.block g (hlt g rfl).2 (fun e => hne g rfl e.symm)).trans hh, r⟩
/-- between the two appends: one component more in the first row -/
structure GM (B : Nat) (C : List Comp) (c : Comp) (v5 v6 : Value) (wr : World) : Prop where
  sets : ∃ xs, wr.ownsRow B 22 1 v5 (C.length + 1) xs ∧ RdAll (fun k => (B ≤ k ∧ v6.ownBlock ≠ some k) ∧ v5.ownBlock ≠ some k) wr ((C ++ [c]).map fun c => D.ints c.nons) xs
  kinds : wr.ownsRow B 3 1 v6 C.length (ints (C.map Comp.kind))
  apart : ∀ k, v5.ownBlock = some k → v6.ownBlock ≠ some k
  le : B ≤ wr.heap.size
theorem GI.one {c : Comp} {xs : List Value} {u : Value} (h1 : wr.ownsRow B 22 1 v5 C.length xs) (h2 : RdAll (fun k => (B ≤ k ∧ v6.ownBlock ≠ some k) ∧ v5.ownBlock ≠ some k) wr (C.map fun c => D.ints c.nons) xs) (h3 : wr.ownsRow B 3 1 v6 C.length (ints (C.map Comp.kind))) (h4 : ∀ k, v5.ownBlock = some k → v6.ownBlock ≠ some k) (h5 : B ≤ wr.heap.size)
    (hu : Rd (fun k => (B ≤ k ∧ v6.ownBlock ≠ some k) ∧ v5.ownBlock ≠ some k) wr (D.ints c.nons) [u]) (ho : w'.ownsRow B 22 1 v' (C.length + 1) (xs ++ [u])) (hg : wr.grownBy w' v5.ownBlock) (hat : v'.ownBlock = v5.ownBlock ∨ ∃ k, v'.ownBlock = some k ∧ wr.heap.size ≤ k) :
    GM B C c v' v6 w' := by
  refine ⟨⟨_, ho, ?_⟩, own_other h3 hg (fun k e e2 => h4 k e2 e), fun k e e2 => ?_, Nat.le_trans h5 hg.size⟩
  · rw [List.map_append]
    exact own_step (S := fun k => B ≤ k ∧ v6.ownBlock ≠ some k) h2 (RdAll.one hu) hg hat
  · rcases hat with h | ⟨j, h, hj⟩
    · exact h4 k (by rw [← h]; exact e) e2
    · rw [h] at e; cases e
      have := (h3.lt k e2).2; omega
theorem GM.two {c : Comp} (h : GM B C c v5 v6 wr) (ho : w'.ownsRow B 3 1 v' (C.length + 1) (ints (C.map Comp.kind) ++ [.int .i64 c.kind])) (hg : wr.grownBy w' v6.ownBlock) (hat : v'.ownBlock = v6.ownBlock ∨ ∃ k, v'.ownBlock = some k ∧ wr.heap.size ≤ k) : GI B (C ++ [c]) v5 v' w' := by
  obtain ⟨⟨xs, h1, h2⟩, h3, h4, h5⟩ := h
  have k1 : ∀ k, v6.ownBlock ≠ some k → k < wr.heap.size → v'.ownBlock ≠ some k := by
    intro k hk hlt
    rcases hat with h | ⟨j, h, hj⟩
    · rw [h]; exact hk
    · rw [h]; intro e; cases e; omega
  refine ⟨⟨xs, ?_, RdAll.keep (fun k hk hlt => ⟨⟨⟨hk.1.1, k1 k hk.1.2 hlt⟩, hk.2⟩, hg.block k hlt (fun e => hk.1.2 e.symm)⟩) _ _ h2⟩, ?_, fun k e => k1 k (h4 k e) (h1.lt k e).2, Nat.le_trans h5 hg.size⟩
  · rw [List.length_append]
    exact own_other h1 hg (fun k e e2 => h4 k e e2)
  · rw [List.length_append, List.map_append]
    simpa [ints] using ho
end
/-- a flag in the midst of a rule -/
def partV (A : Bool) (L : List Int) (p : Nat → Nat → Bool) (lf : Int) (R : List Sym) (q : Nat) : Bool := A && (!inL L lf || (List.range q).all (okAt L p R))
theorem partV_zero (A : Bool) (L : List Int) (p : Nat → Nat → Bool) (lf : Int) (R : List Sym) : partV A L p lf R 0 = A := by simp [partV]
theorem partV_next {A : Bool} {L : List Int} {p : Nat → Nat → Bool} {lf : Int} {R : List Sym} {q : Nat} (h : q < R.length) : partV A L p lf R (q + 1) = (partV A L p lf R q && (if (inL L lf && !R[q].term && inL L R[q].n) = true then p q R.length else true)) := by
  unfold partV
  rw [all_range_next, okAt_eq h]
  cases A <;> cases inL L lf <;> cases R[q].term <;> cases inL L R[q].n <;> simp
theorem partV_rule {K : List Rule} {L : List Int} {p : Nat → Nat → Bool} {j : Nat} (h : j < K.length) : (K.take (j + 1)).all (fitRule L p) = partV ((K.take j).all (fitRule L p)) L p K[j].left K[j].right K[j].right.length := by
  rw [List.take_succ_eq_append_getElem h, List.all_append]
  simp [partV, fitRule]
def GroupsPost (g : Gram) (w : World) (e : Ending) (w' : World) : Prop :=
  ∃ v5 v6, e = .returned (.tuple #[v5, v6]) ∧ Rd AnyB w' (.sl ((compsN g.rules (gEdges g) g.nons.toNat g.nons.toNat).map fun c => D.ints c.nons)) [v5] ∧ Sl w' v6 (ints ((compsN g.rules (gEdges g) g.nons.toNat g.nons.toNat).map Comp.kind)) ∧ Below w.heap.size w w'
end Go.Proofs.Ytjehmleckcmilaa
