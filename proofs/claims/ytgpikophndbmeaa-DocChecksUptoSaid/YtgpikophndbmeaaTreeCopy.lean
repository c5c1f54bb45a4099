/- The contracts of gram.CopyTree and tree.Clone. -/
import Derived.Test.YtgpikophndbmeaaTreeWalk
import Derived.Deep.RegionHeld3
namespace Go.Proofs.Ytgpikophndbmeaa
open Go.RowKit

mutual
def Tree.size : Tree → Nat
  | .node _ _ ks => sizeL ks + 1
def sizeL : List Tree → Nat
  | [] => 0
  | k :: ks => Tree.size k + sizeL ks
end
theorem Tree.size_eq (t : Tree) : t.size = sizeL t.kids + 1 := by cases t; simp [Tree.size, Tree.kids]
theorem Tree.size_pos (t : Tree) : 0 < t.size := by rw [Tree.size_eq]; omega
theorem sizeL_get : ∀ {ks : List Tree} {i : Nat} (h : i < ks.length), ks[i].size ≤ sizeL ks
  | [], i, h => by simp at h
  | k :: ks, 0, h => by simp [sizeL]
  | k :: ks, i + 1, h => by have := sizeL_get (ks := ks) (i := i) (by simpa using h); simp [sizeL]; omega
theorem sizeL_len : ∀ (ks : List Tree), ks.length ≤ sizeL ks
  | [] => by simp
  | k :: ks => by have := sizeL_len ks; have := k.size_pos; simp [sizeL]; omega

def FreshB (w : World) : Nat → Prop := fun k => w.heap.size ≤ k
def TreePost (t : Tree) (w : World) (e : Ending) (w' : World) : Prop :=
  ∃ v, e = .returned (.agg #[.int .i64 t.rule, .int .i64 t.term, v]) ∧ Rd (FreshB w) w' (.sl (t.kids.map Tree.d)) [v] ∧ Below w.heap.size w w'
/-- a result box, stored into: it is new memory alone -/
theorem below_box3 {B b : Nat} {w w' : World} (h : Below B w w') (hb : B ≤ b) (x y z : Value) : Below B w (((w'.setCell ⟨b, 0, none⟩ x).setCell ⟨b, 1, none⟩ y).setCell ⟨b, 2, none⟩ z) :=
  ((h.setCell (p := ⟨b, 0, none⟩) hb x).setCell (p := ⟨b, 1, none⟩) hb y).setCell (p := ⟨b, 2, none⟩) hb z
theorem grown_box3 (b : Nat) (w : World) (x y z : Value) : w.grownBy (((w.setCell ⟨b, 0, none⟩ x).setCell ⟨b, 1, none⟩ y).setCell ⟨b, 2, none⟩ z) (some b) := grown_trans (grown_trans (grown_cell _ _ _) (grown_cell _ _ _)) (grown_cell _ _ _)
theorem Rd.box3 {S : Nat → Prop} {w : World} {d : D} {cs : List Value} (h : Rd S w d cs) {b : Nat} (hb : ¬ S b) (x y z : Value) : Rd S (((w.setCell ⟨b, 0, none⟩ x).setCell ⟨b, 1, none⟩ y).setCell ⟨b, 2, none⟩ z) d cs :=
  Rd.keep (fun k hk hlt => ⟨hk, (grown_box3 b w x y z).block k hlt (fun e => by cases e; exact hb hk)⟩) d cs h

end Go.Proofs.Ytgpikophndbmeaa
