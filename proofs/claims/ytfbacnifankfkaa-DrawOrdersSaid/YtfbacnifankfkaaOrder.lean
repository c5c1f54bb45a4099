/- Plain functions: which order is drawn; its laws. -/
import Derived.Test.YtfbacnifankfkaaDraw
namespace Go.Proofs.Ytfbacnifankfkaa.Draw

def ord : Nat → List Int → List Bool → Option (List Int × Nat)
  | 0, _, _ => some ([], 0)
  | n + 1, left, c => match num left.length c with
    | none => none
    | some (i, u) => (ord n (left.eraseIdx i) (c.drop u)).map fun p => (left.getD i 0 :: p.1, u + p.2)

/-- what has been taken so far, and what is still to come -/
def Mid (n : Nat) (l : List Int) (c : List Bool) (left out : List Int) (at' : Nat) : Prop :=
  ord n l c = (ord left.length left (c.drop at')).map fun p => (out ++ p.1, at' + p.2)

theorem mid_start (l : List Int) (c : List Bool) : Mid l.length l c l [] 0 := by
  unfold Mid; simp

theorem mid_none {n : Nat} {l : List Int} {c : List Bool} {left out : List Int} {k : Nat} (h : Mid n l c left out k) (h0 : 0 < left.length) (hn : num left.length (c.drop k) = none) : ord n l c = none := by
  rw [h]
  obtain ⟨m, hm⟩ : ∃ m, left.length = m + 1 := ⟨left.length - 1, by omega⟩
  rw [hm, ord, hn]; rfl

theorem mid_some {n : Nat} {l : List Int} {c : List Bool} {left out : List Int} {k i u : Nat} (h : Mid n l c left out k) (h0 : 0 < left.length) (hn : num left.length (c.drop k) = some (i, u)) :
    Mid n l c (left.eraseIdx i) (out ++ [left.getD i 0]) (k + u) := by
  have hi := (num_lt hn).1
  unfold Mid at *
  obtain ⟨m, hm⟩ : ∃ m, left.length = m + 1 := ⟨left.length - 1, by omega⟩
  rw [h, List.length_eraseIdx, if_pos hi, hm, Nat.add_sub_cancel]
  conv => lhs; rw [ord, hn]
  simp only [List.drop_drop]
  cases ord m (left.eraseIdx i) (c.drop (k + u)) with
  | none => rfl
  | some p => simp [Nat.add_assoc]

theorem mid_end {n : Nat} {l : List Int} {c : List Bool} {out : List Int} {k : Nat} (h : Mid n l c [] out k) : ord n l c = some (out, k) := by
  rw [h]; simp [ord]

def upto (n : Nat) : List Int := (List.range n).map fun (i : Nat) => (i : Int)
theorem upto_len (n : Nat) : (upto n).length = n := by simp [upto]
theorem upto_succ (n : Nat) : upto (n + 1) = upto n ++ [(n : Int)] := by simp [upto, List.range_succ]
end Go.Proofs.Ytfbacnifankfkaa.Draw
