/- teach.plain: the two rows that it makes, through the region of the two appends. -/
import Derived.Test.YtenkhjmedolknaaDfaCheck
import Derived.Test.YtenkhjmedolknaaSlicesTwo
import Derived.Test.YtenkhjmedolknaaRowD
namespace Go.Proofs.Ytenkhjmedolknaa
open Go.RowKit
namespace Df

def plainD (x : Dfa) : Dfa := ⟨x.start, x.acc.map (min · 0), x.next⟩
theorem elIntsP : ElemT Try.prog 23 22 1 24 := ElemT.mk' (z := .slice none 0 0) (by kernel_rfl) (by kernel_rfl) rfl (by decide)
/-- behind an append to another row -/
theorem own_otherP {w w' : World} {B : Nat} {e : TypeId} {s : Nat} {v : Value} {n : Nat} {xs : List Value} {row : Option Nat} (h : w.ownsRow B e s v n xs) (hg : w.grownBy w' row) (hne : ∀ k, v.ownBlock = some k → row ≠ some k) : w'.ownsRow B e s v n xs := by
  have hlt := h.lt
  obtain ⟨h1, h2⟩ := h
  refine ⟨h1, ?_⟩
  rcases h2 with h2 | ⟨g, cap, cur, rfl, hg', hh, r⟩
  · exact .inl h2
  · exact .inr ⟨g, cap, cur, rfl, hg', (hg.block g (hlt g rfl).2 (fun e => hne g rfl e.symm)).trans hh, r⟩
/-- the blocks where the rows' elements lie -/
def PT (B : Nat) (vR vA : Value) : Nat → Prop := fun k => B ≤ k ∧ vR.ownBlock ≠ some k ∧ vA.ownBlock ≠ some k
structure PS (B : Nat) (w1 : World) (r : List Int) (m : Int) (LR : List (List Int)) (LA : List Int) (vR vA : Value) (oc : Option Value) (ob oa : Option Nat) (W : World) : Prop where
  bel : Below B w1 W
  le : B ≤ w1.heap.size
  rows : ∃ xs, W.ownsRow B 22 1 vR LR.length xs ∧ RdAll (PT B vR vA) W (LR.map D.ints) xs
  acc : W.ownsRow B 3 1 vA LA.length (ints LA)
  apart : ∀ k, vR.ownBlock = some k → vA.ownBlock ≠ some k
  cl : ∀ v, oc = some v → Rd (PT B vR vA) W (D.ints r) [v]
  bB : ∀ g, ob = some g → PT B vR vA g ∧ ∃ v, oc = some v ∧ W.heap[g]? = some (.cells #[v] 22 (0, 0))
  bA : ∀ g, oa = some g → PT B vR vA g ∧ W.heap[g]? = some (.cells #[.int .i64 m] 3 (0, 0))
section
variable {B : Nat} {w1 : World} {r : List Int} {m : Int} {LR : List (List Int)} {LA : List Int} {vR vA : Value} {oc : Option Value} {ob oa : Option Nat} {W W' : World}
theorem PS.keep (h : PS B w1 r m LR LA vR vA oc ob oa W) (hb : Below W.heap.size W W') : PS B w1 r m LR LA vR vA oc ob oa W' := by
  obtain ⟨h1, h2, ⟨xs, h3, h4⟩, h5, h6, h7, h8, h9⟩ := h
  exact ⟨h1.trans (hb.mono (Nat.le_trans h2 h1.size)), h2, ⟨xs, own_keep h3 hb, h4.below hb⟩, own_keep h5 hb, h6, fun v e => (h7 v e).below hb, fun g e => by
    obtain ⟨k1, v, k2, k3⟩ := h8 g e
    exact ⟨k1, v, k2, bx_keep k3 hb⟩, fun g e => ⟨(h9 g e).1, bx_keep (h9 g e).2 hb⟩⟩
theorem PS.size (h : PS B w1 r m LR LA vR vA oc ob oa W) : B ≤ W.heap.size := Nat.le_trans h.le h.bel.size
theorem PS.fresh (h : PS B w1 r m LR LA vR vA oc ob oa W) {g : Nat} (hg : W.heap.size ≤ g) : PT B vR vA g := by
  obtain ⟨xs, h3, _⟩ := h.rows
  refine ⟨Nat.le_trans h.size hg, fun e => ?_, fun e => ?_⟩
  · have := (h3.lt g e).2; omega
  · have := (h.acc.lt g e).2; omega
theorem PS.call {v : Value} {n : Nat} (h : PS B w1 r m LR LA vR vA oc none oa W) (hb : Below W.heap.size W W') (ho : W'.ownsRow W.heap.size 3 1 v n (ints r)) (hn : n = r.length) : PS B w1 r m LR LA vR vA (some v) none oa W' := by
  have hk := h.keep hb
  refine { hk with cl := fun v' e => ?_, bB := fun g e => by cases e }
  cases e
  exact rd_of_own ho ((rdAll_ints r _).2 rfl) (by simpa using hn.symm) (fun k e => h.fresh (ho.lt k e).1)
theorem PS.bltB {v : Value} {g : Nat} (h : PS B w1 r m LR LA vR vA (some v) none oa W) (hg : g = W.heap.size) : PS B w1 r m LR LA vR vA (some v) (some g) oa (W.alloc (.cells #[v] 22)) := by
  have hk := h.keep (W' := W.alloc (.cells #[v] 22)) ((Below.refl _ _).alloc (Nat.le_refl _) _)
  subst hg
  exact { hk with bB := fun g e => by cases e; exact ⟨h.fresh (Nat.le_refl _), v, rfl, bx_new _ _ _ rfl⟩ }
theorem PS.bltA {g : Nat} (h : PS B w1 r m LR LA vR vA oc ob none W) (hg : g = W.heap.size) : PS B w1 r m LR LA vR vA oc ob (some g) (W.alloc (.cells #[.int .i64 m] 3)) := by
  have hk := h.keep (W' := W.alloc (.cells #[.int .i64 m] 3)) ((Below.refl _ _).alloc (Nat.le_refl _) _)
  subst hg
  exact { hk with bA := fun g e => by cases e; exact ⟨h.fresh (Nat.le_refl _), bx_new _ _ _ rfl⟩ }
theorem PS.appR {v v' : Value} {xs : List Value} {g : Nat} {N : List (List Int)} (h : PS B w1 r m LR LA vR vA (some v) (some g) oa W) (hxs : RdAll (PT B vR vA) W (LR.map D.ints) xs) (ho : W'.ownsRow B 22 1 v' (LR.length + 1) (xs ++ [v])) (hg : W.grownBy W' vR.ownBlock) (hat : v'.ownBlock = vR.ownBlock ∨ ∃ k, v'.ownBlock = some k ∧ W.heap.size ≤ k) (hN : N = LR ++ [r]) :
    PS B w1 r m N LA v' vA none none oa W' := by
  subst hN
  obtain ⟨h1, h2, ⟨xs0, h3, h4⟩, h5, h6, h7, h8, h9⟩ := h
  have hlt := h5.lt
  have hT : ∀ k, PT B vR vA k → k < W.heap.size → PT B v' vA k ∧ W'.heap[k]? = W.heap[k]? := by
    rintro k ⟨a1, a2, a3⟩ hk
    refine ⟨⟨a1, ?_, a3⟩, hg.block k hk (fun e => a2 e.symm)⟩
    rcases hat with e | ⟨j, e, hj⟩
    · rw [e]; exact a2
    · rw [e]; intro e; cases e; omega
  refine ⟨h1.grown hg (Nat.le_trans h2 h1.size) (fun k e => (h3.lt k e).1), h2, ⟨xs ++ [v], by rw [List.length_append]; exact ho, ?_⟩, own_otherP h5 hg (fun k e e' => h6 k e' e), ?_, (fun _ e => by cases e), (fun _ e => by cases e), fun g' e => ?_⟩
  · rw [List.map_append]
    exact RdAll.append (RdAll.keep hT _ _ hxs) (RdAll.one (Rd.keep hT _ _ (h7 v rfl)))
  · intro k e
    rcases hat with e' | ⟨j, e', hj⟩
    · exact h6 k (e'.symm.trans e)
    · rw [e'] at e; cases e
      intro e; have := (hlt k e).2; omega
  · obtain ⟨k1, k2⟩ := h9 g' e
    have hgl := (Array.getElem?_eq_some_iff.1 k2).1
    obtain ⟨k3, k4⟩ := hT g' k1 hgl
    exact ⟨k3, k4.trans k2⟩
theorem PS.appA {v' : Value} {g : Nat} {N : List Int} (h : PS B w1 r m LR LA vR vA oc ob (some g) W) (ho : W'.ownsRow B 3 1 v' (LA.length + 1) (ints LA ++ [.int .i64 m])) (hg : W.grownBy W' vA.ownBlock) (hat : v'.ownBlock = vA.ownBlock ∨ ∃ k, v'.ownBlock = some k ∧ W.heap.size ≤ k) (hN : N = LA ++ [m]) :
    PS B w1 r m LR N vR v' oc ob none W' := by
  subst hN
  obtain ⟨h1, h2, ⟨xs0, h3, h4⟩, h5, h6, h7, h8, h9⟩ := h
  have hlt := h3.lt
  have hT : ∀ k, PT B vR vA k → k < W.heap.size → PT B vR v' k ∧ W'.heap[k]? = W.heap[k]? := by
    rintro k ⟨a1, a2, a3⟩ hk
    refine ⟨⟨a1, a2, ?_⟩, hg.block k hk (fun e => a3 e.symm)⟩
    rcases hat with e | ⟨j, e, hj⟩
    · rw [e]; exact a3
    · rw [e]; intro e; cases e; omega
  refine ⟨h1.grown hg (Nat.le_trans h2 h1.size) (fun k e => (h5.lt k e).1), h2, ⟨xs0, own_otherP h3 hg (fun k e e' => h6 k e e'), RdAll.keep hT _ _ h4⟩, ?_, ?_, fun v e => Rd.keep hT _ _ (h7 v e), fun g' e => ?_, (fun _ e => by cases e)⟩
  · rw [List.length_append]; simpa [ints] using ho
  · intro k e
    rcases hat with e' | ⟨j, e', hj⟩
    · rw [e']; exact h6 k e
    · rw [e']; intro e2; cases e2; have := (hlt k e).2; omega
  · obtain ⟨k1, v, k0, k2⟩ := h8 g' e
    have hgl := (Array.getElem?_eq_some_iff.1 k2).1
    obtain ⟨k3, k4⟩ := hT g' k1 hgl
    exact ⟨k3, v, k0, k4.trans k2⟩
theorem PS.nil (B : Nat) (w1 : World) (r : List Int) (m : Int) (h : B ≤ w1.heap.size) : PS B w1 r m [] [] (.slice none 0 0) (.slice none 0 0) none none none w1 :=
  ⟨Below.refl _ _, h, ⟨[], World.ownsRow_nil _ _ _ _, by simp [RdAll]⟩, by simpa [ints] using World.ownsRow_nil w1 B 3 1, (fun _ e => by cases e), (fun _ e => by cases e), (fun _ e => by cases e), (fun _ e => by cases e)⟩
/-- behind a store into a box below the rows -/
theorem PS.store (h : PS B w1 r m LR LA vR vA oc ob oa W) {b : Nat} (hg : W.grownBy W' (some b)) (hb : b < B) (r' : List Int) (m' : Int) : PS B W' r' m' LR LA vR vA none none none W' := by
  obtain ⟨h1, h2, ⟨xs, h3, h4⟩, h5, h6, h7, h8, h9⟩ := h
  refine ⟨Below.refl _ _, Nat.le_trans (Nat.le_trans h2 h1.size) hg.size, ⟨xs, own_otherP h3 hg (fun k e e' => ?_), RdAll.keep (fun k hk hlt => ⟨hk, hg.block k hlt (fun e => ?_)⟩) _ _ h4⟩, own_otherP h5 hg (fun k e e' => ?_), h6, (fun _ e => by cases e), (fun _ e => by cases e), (fun _ e => by cases e)⟩
  · cases e'; have := (h3.lt _ e).1; omega
  · cases e; have := hk.1; omega
  · cases e'; have := (h5.lt _ e).1; omega
theorem PS.next (h : PS B w1 r m LR LA vR vA none none none W) (w2 : World) (r' : List Int) (m' : Int) : PS B W r' m' LR LA vR vA none none none W := by
  obtain ⟨h1, h2, h3, h5, h6, h7, h8, h9⟩ := h
  exact ⟨Below.refl _ _, Nat.le_trans h2 h1.size, h3, h5, h6, (fun _ e => by cases e), (fun _ e => by cases e), (fun _ e => by cases e)⟩
end
end Df
end Go.Proofs.Ytenkhjmedolknaa
