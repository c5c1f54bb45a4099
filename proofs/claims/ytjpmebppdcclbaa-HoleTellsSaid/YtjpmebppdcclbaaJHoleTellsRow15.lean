/- The table of hole.fill while it is made. hole.fill of valid arguments. useful.Least and useful.Lengths, said by the values of Shortest. useful.Ends. -/
import Derived.Test.YtjpmebppdcclbaaJHoleTellsRow14
import Derived.Test.YtjpmebppdcclbaaJHoleTellsRow3
import Derived.Deep.CutBlock
import Derived.Deep.CutRange
import Derived.Test.YtjpmebppdcclbaaJHoleTellsRow13
import Derived.Test.YtjpmebppdcclbaaJHoleTellsRow12
import Derived.Test.YtjpmebppdcclbaaJHoleTellsRow10
import Derived.Test.YtjpmebppdcclbaaJHoleTellsRow9
namespace Go.Proofs.Ytjpmebppdcclbaa
open Go.RowKit
namespace Hl
open Rp Al
theorem elTabH : ElemT Try.prog 135 138 1 24 := ElemT.mk' (z := .slice none 0 0) Try.underlying135 (by kernel_rfl) rfl (by decide)
structure RUH (n1 R : Nat) (vals : Nat → Nat → Option Val) (i : Nat) (rbf : Nat → Nat) (wr : World) : Prop where
  rows : Vrow 139 R n1 (fun x => if x < i then .slice (some ⟨rbf x, 0, none⟩) n1 n1 else .slice none 0 0) wr
  row : ∀ x, x < i → HRow (fun k => R < k ∧ ∀ y, y < i → k ≠ rbf y) (rbf x) n1 (vals x) wr
  lt : ∀ x, x < i → R < rbf x ∧ rbf x < wr.heap.size
  inc : ∀ x y, x < y → y < i → rbf x < rbf y
section
variable {n1 R i : Nat} {vals vals' : Nat → Nat → Option Val} {rbf : Nat → Nat} {wr w' : World}
theorem RUH.keep (h : RUH n1 R vals i rbf wr) (hb : Below wr.heap.size wr w') : RUH n1 R vals i rbf w' :=
  ⟨h.rows.keep hb, fun x hx => (h.row x hx).keep hb, fun x hx => ⟨(h.lt x hx).1, Nat.lt_of_lt_of_le (h.lt x hx).2 hb.size⟩, h.inc⟩
theorem RUH.eqv (h : RUH n1 R vals i rbf wr) (he : ∀ x, x < i → ∀ k, k < n1 → vals x k = vals' x k) : RUH n1 R vals' i rbf wr :=
  ⟨h.rows, fun x hx => (h.row x hx).eq (he x hx), h.lt, h.inc⟩
theorem RUH.inj (h : RUH n1 R vals i rbf wr) {x y : Nat} (hx : x < i) (hy : y < i) (e : rbf x = rbf y) : x = y := by
  rcases Nat.lt_trichotomy x y with h1 | h1 | h1
  · have := h.inc x y h1 hy; omega
  · exact h1
  · have := h.inc y x h1 hx; omega
theorem RUH.step (h : RUH n1 R vals i rbf wr) (hi : i < n1) : RUH n1 R (fun x k => if x = i then none else vals x k) (i + 1) (fun x => if x = i then wr.heap.size else rbf x) ((wr.alloc (.cells (madeCells #[.int .i64 0, .slice none 0 0, .bool false] (n1 * 3)) 91)).setCell ⟨R, i, none⟩ (.slice (some ⟨wr.heap.size, 0, none⟩) n1 n1)) := by
  have hal : Below wr.heap.size wr (wr.alloc (.cells (madeCells #[.int .i64 0, .slice none 0 0, .bool false] (n1 * 3)) 91)) := (Below.refl _ _).alloc (Nat.le_refl _) _
  have hg := grown_cell (wr.alloc (.cells (madeCells #[.int .i64 0, .slice none 0 0, .bool false] (n1 * 3)) 91)) ⟨R, i, none⟩ (.slice (some ⟨wr.heap.size, 0, none⟩) n1 n1)
  have hR : R < wr.heap.size := h.rows.lt
  refine ⟨(h.rows.keep hal).set hi (fun k hk => ?_), fun x hx => ?_, fun x hx => ?_, fun x y hxy hy => ?_⟩
  · by_cases e : k = i
    · rw [if_pos e, e, if_pos (by omega), if_pos rfl]
    · by_cases h2 : k < i
      · simp [e, h2, show k < i + 1 by omega]
      · simp [e, h2, show ¬ k < i + 1 by omega]
  · by_cases e : x = i
    · subst e
      simp only [if_true]
      exact (hrow_new _ wr n1 rfl).grown hg (by simp; omega) (fun k e h => by cases e; exact absurd h.1 (Nat.lt_irrefl _))
    · have hx' : x < i := by omega
      have h1 := h.row x hx'
      have hl := (h.lt x hx').1
      rw [show (fun k => if x = i then none else vals x k) = vals x by funext k; rw [if_neg e], show (if x = i then wr.heap.size else rbf x) = rbf x from if_neg e]
      refine ((h1.mono (P' := fun k => R < k ∧ ∀ y, y < i + 1 → k ≠ if y = i then wr.heap.size else rbf y) (fun k hk hlt => ⟨hk.1, fun y hy => ?_⟩)).keep hal).grown hg (by simp; omega) (fun k e h => by cases e; exact absurd h.1 (Nat.lt_irrefl _))
      by_cases e2 : y = i
      · rw [if_pos e2]; omega
      · rw [if_neg e2]; exact hk.2 y (by omega)
  · have hs := hg.size
    have hs2 : (wr.alloc (.cells (madeCells #[.int .i64 0, .slice none 0 0, .bool false] (n1 * 3)) 91)).heap.size = wr.heap.size + 1 := by simp
    by_cases e : x = i
    · rw [if_pos e]; exact ⟨hR, by omega⟩
    · rw [if_neg e]
      have := h.lt x (by omega)
      exact ⟨this.1, by omega⟩
  · by_cases e : y = i
    · rw [if_pos e, if_neg (by omega)]
      exact (h.lt x (by omega)).2
    · rw [if_neg e, if_neg (by omega)]
      exact h.inc x y hxy (by omega)
theorem RUH.set (h : RUH n1 R vals i rbf wr) {x j : Nat} (hx : x < i) (hj : j < n1) {o : Option Val} {u : Value} (hu : Rd (fun k => R < k ∧ ∀ y, y < i → k ≠ rbf y) wr (D.ints (oW o)) [u]) (he : ∀ y, y < i → ∀ k, k < n1 → vals' y k = if y = x ∧ k = j then o else vals y k) :
    RUH n1 R vals' i rbf (((wr.setCell ⟨rbf x, j * 3, none⟩ (.int .i64 (oN o))).setCell ⟨rbf x, j * 3 + 1, none⟩ u).setCell ⟨rbf x, j * 3 + 2, none⟩ (.bool o.isSome)) := by
  have hg := grown_cellsAt3 wr (rbf x) (j * 3) (j * 3 + 1) (j * 3 + 2) (.int .i64 (oN o)) u (.bool o.isSome)
  obtain ⟨l1, l2⟩ := h.lt x hx
  refine ⟨h.rows.grown hg (by simp; omega), fun y hy => ?_, fun y hy => ⟨(h.lt y hy).1, Nat.lt_of_lt_of_le (h.lt y hy).2 hg.size⟩, h.inc⟩
  by_cases e : y = x
  · subst e
    refine (h.row y hy).set hj hu (fun h' => h'.2 y hy rfl) (fun k hk => ?_)
    rw [he y hy k hk]
    by_cases e2 : k = j
    · rw [if_pos ⟨rfl, e2⟩, if_pos e2]
    · rw [if_neg (fun h => e2 h.2), if_neg e2]
  · refine ((h.row y hy).grown hg (by simp; exact fun e2 => e (h.inj hx hy e2).symm) (fun k ek hk => by cases ek; exact hk.2 x hx rfl)).eq (fun k hk => ?_)
    rw [he y hy k hk, if_neg (fun h => e h.1)]
end
def PB (fb n1 a : Nat) (rb : Nat → Nat → Nat) (bv : Value) (k : Nat) : Prop := fb < k ∧ (∀ a' i, a' < a → i < n1 → k ≠ rb a' i) ∧ bv.ownBlock ≠ some k
structure BUH (W : World) (gt : Int) (N st : Nat) (gr lv : Value) (fb : Nat) (l : List Sym) (vals : Tb) (n1 a : Nat) (ra : Nat → Nat) (rb : Nat → Nat → Nat) (bv : Value) (wr : World) : Prop where
  bel : Below W.heap.size W wr
  gbox : wr.heap[W.heap.size]? = some (.cells #[.int .i64 gt, .int .i64 (N : Int), .int .i64 (st : Int), gr] 24 (0, 0))
  out : wr.heap[W.heap.size + 1]? = some (.cells #[.int .i64 0, .slice none 0 0, .bool false] 91 (0, 0))
  fm : FM fb gt N st gr lv bv l wr
  own : wr.ownsRow (fb + 1) 138 1 bv a ((List.range a).map fun k => .slice (some ⟨ra k, 0, none⟩) n1 n1)
  mid : ∀ a', a' < a → ∀ i, i < n1 → wr.cell? ⟨ra a', i, none⟩ = some (.slice (some ⟨rb a' i, 0, none⟩) n1 n1)
  row : ∀ a', a' < a → ∀ i, i < n1 → HRow (PB fb n1 a rb bv) (rb a' i) n1 (vals (a' : Int) i) wr
  lb : ∀ a', a' < a → fb < ra a' ∧ ra a' < wr.heap.size ∧ ∀ i, i < n1 → ra a' < rb a' i ∧ rb a' i < wr.heap.size
  inc : ∀ a', a' < a → ∀ x y, x < y → y < n1 → rb a' x < rb a' y
  sep : ∀ a' a'', a' < a'' → a'' < a → ra a' < ra a'' ∧ ∀ i, i < n1 → rb a' i < ra a''
  ob : ∀ k, bv.ownBlock = some k → ∀ a', a' < a → k ≠ ra a' ∧ ∀ i, i < n1 → k ≠ rb a' i
section
variable {W : World} {gt : Int} {N st : Nat} {gr lv : Value} {fb : Nat} {l : List Sym} {vals : Tb} {n1 a : Nat} {ra : Nat → Nat} {rb : Nat → Nat → Nat} {bv : Value} {wr w' w5 w7 wz : World}
theorem BUH.keep (h : BUH W gt N st gr lv fb l vals n1 a ra rb bv wr) (hb : Below wr.heap.size wr w') : BUH W gt N st gr lv fb l vals n1 a ra rb bv w' :=
  ⟨h.bel.trans (hb.mono h.bel.size), bx_keep h.gbox hb, bx_keep h.out hb, h.fm.keep hb, own_keep h.own hb, fun a' ha i hi => (hb.cell (p := ⟨ra a', i, none⟩) (lt_of_cell (h.mid a' ha i hi))).trans (h.mid a' ha i hi), fun a' ha i hi => (h.row a' ha i hi).keep hb, fun a' ha => by
    obtain ⟨h1, h2, h3⟩ := h.lb a' ha
    exact ⟨h1, Nat.lt_of_lt_of_le h2 hb.size, fun i hi => ⟨(h3 i hi).1, Nat.lt_of_lt_of_le (h3 i hi).2 hb.size⟩⟩, h.inc, h.sep, h.ob⟩
theorem BUH.app (h : BUH W gt N st gr lv fb l vals n1 a ra rb bv w5) (hb : Below w5.heap.size w5 w7) {rbf : Nat → Nat} (hr : RUH n1 w5.heap.size (vals (a : Int)) n1 rbf w7) {v' : Value}
    (hoz : wz.ownsRow (fb + 1) 138 1 v' (a + 1) (((List.range a).map fun k => .slice (some ⟨ra k, 0, none⟩) n1 n1) ++ [.slice (some ⟨w5.heap.size, 0, none⟩) n1 n1])) (hgz : w7.grownBy wz bv.ownBlock) (hat : v'.ownBlock = bv.ownBlock ∨ ∃ k, v'.ownBlock = some k ∧ w7.heap.size ≤ k) (hW : W.heap.size + 1 < fb) :
    BUH W gt N st gr lv fb l vals n1 (a + 1) (fun k => if k = a then w5.heap.size else ra k) (fun k i => if k = a then rbf i else rb k i) v' (wz.setCell ⟨fb, 0 + 5, none⟩ v') := by
  have h7 := h.keep hb
  have hg2 := grown_cell wz ⟨fb, 0 + 5, none⟩ v'
  have hfb5 : fb < w5.heap.size := h.fm.lt
  have hs7 := hb.size
  have hsz := hgz.size
  have hk : ∀ k, bv.ownBlock = some k → fb < k ∧ k < w5.heap.size := fun k e => by have := h.own.lt k e; omega
  have hkn : ∀ b, w5.heap.size ≤ b → bv.ownBlock ≠ some b := fun b hb e => by have := hk b e; omega
  have hnew : ∀ k, v'.ownBlock = some k → bv.ownBlock = some k ∨ w7.heap.size ≤ k := fun k e => by
    rcases hat with h1 | ⟨k', h1, h2⟩
    · exact .inl (by rw [← h1]; exact e)
    · rw [h1] at e; cases e; exact .inr h2
  refine ⟨(h7.bel.grown hgz h7.bel.size (fun k e => by have := hk k e; omega)).grown hg2 ?_ (fun k e => by cases e; show W.heap.size ≤ fb; omega), ?_, ?_, ?_, ?_, ?_, ?_, ?_, ?_, ?_, ?_⟩
  · have := h7.bel.size; omega
  · have h1 := (hgz.block _ (Array.getElem?_eq_some_iff.1 h7.gbox).1 (fun e => by have := hk _ e.symm; omega)).trans h7.gbox
    exact (hg2.block _ (Array.getElem?_eq_some_iff.1 h1).1 (by simp; omega)).trans h1
  · have h1 := (hgz.block _ (Array.getElem?_eq_some_iff.1 h7.out).1 (fun e => by have := hk _ e.symm; omega)).trans h7.out
    exact (hg2.block _ (Array.getElem?_eq_some_iff.1 h1).1 (by simp; omega)).trans h1
  · exact (h7.fm.grown hgz (fun k e => (hk k e).1)).setb v'
  · have e : ((List.range (a + 1)).map fun k => Value.slice (some ⟨(fun k => if k = a then w5.heap.size else ra k) k, 0, none⟩) n1 n1) = ((List.range a).map fun k => .slice (some ⟨ra k, 0, none⟩) n1 n1) ++ [.slice (some ⟨w5.heap.size, 0, none⟩) n1 n1] := by
      rw [List.range_succ, List.map_append]
      congr 1
      · refine List.map_congr_left fun k hk => ?_
        have := List.mem_range.1 hk
        simp; omega
      · simp
    rw [e]
    exact hoz.kept hg2 (.inr (fun e3 => by have h4 : v'.ownBlock = some fb := e3; have := (hoz.lt fb h4).1; omega))
  · intro a' ha' i hi
    by_cases e : a' = a
    · subst e
      simp only [if_true]
      have h1 := (hr.rows.grown hgz (hkn _ (Nat.le_refl _))).cell hi
      rw [if_pos hi] at h1
      exact cell_grown h1 hg2 (by simp; omega)
    · have ha : a' < a := by omega
      rw [show (if a' = a then w5.heap.size else ra a') = ra a' from if_neg e, show (if a' = a then rbf i else rb a' i) = rb a' i from if_neg e]
      have h1 := cell_grown (h7.mid a' ha i hi) hgz (fun e2 => (h.ob _ e2 a' ha).1 rfl)
      exact cell_grown h1 hg2 (by have := (h.lb a' ha).1; simp; omega)
  · intro a' ha' i hi
    have Qd : ∀ P0 : Nat → Prop, ∀ g A wx, HRow P0 g n1 A wx → wx.heap.size = w7.heap.size → wx = w7 → (∀ k, P0 k → k < w7.heap.size → fb < k ∧ (∀ a' i, a' < a + 1 → i < n1 → k ≠ (if a' = a then rbf i else rb a' i)) ∧ bv.ownBlock ≠ some k) → bv.ownBlock ≠ some g → g ≠ fb →
        HRow (PB fb n1 (a + 1) (fun k i => if k = a then rbf i else rb k i) v') g n1 A (wz.setCell ⟨fb, 0 + 5, none⟩ v') := by
      intro P0 g A wx h1 _ ex h2 h3 h4
      subst ex
      have h5 := h1.mono (P' := fun k => (fb < k ∧ (∀ a' i, a' < a + 1 → i < n1 → k ≠ (if a' = a then rbf i else rb a' i)) ∧ bv.ownBlock ≠ some k) ∧ v'.ownBlock ≠ some k) (fun k hk hl => ⟨h2 k hk hl, fun e => by
        rcases hnew k e with h6 | h6
        · exact (h2 k hk hl).2.2 h6
        · omega⟩)
      have h6 := (h5.grown hgz h3 (fun k e h => h.1.2.2 e)).grown hg2 (by simp; exact fun e => h4 e.symm) (fun k e h => by cases e; exact absurd h.1.1 (Nat.lt_irrefl _))
      exact h6.mono (fun k h _ => ⟨h.1.1, h.1.2.1, h.2⟩)
    by_cases e : a' = a
    · subst e
      simp only [if_true]
      refine Qd _ _ _ w7 (hr.row i hi) rfl rfl (fun k hk hl => ⟨by have := hk.1; omega, fun a'' i' ha'' hi' => ?_, hkn k (by have := hk.1; omega)⟩) (hkn _ (by have := (hr.lt i hi).1; omega)) (by have := (hr.lt i hi).1; omega)
      by_cases e2 : a'' = a'
      · rw [if_pos e2]; exact hk.2 i' hi'
      · rw [if_neg e2]
        have := ((h.lb a'' (by omega)).2.2 i' hi').2
        have := hk.1
        omega
    · have ha : a' < a := by omega
      rw [show (if a' = a then rbf i else rb a' i) = rb a' i from if_neg e]
      have h0 := ((h.row a' ha i hi).mono (P' := fun k => PB fb n1 a rb bv k ∧ k < w5.heap.size) (fun k hk hl => ⟨hk, hl⟩)).keep hb
      have hl := (h.lb a' ha).2.2 i hi
      have hf := (h.lb a' ha).1
      refine Qd _ _ _ w7 h0 rfl rfl (fun k hk _ => ⟨hk.1.1, fun a'' i' ha'' hi' => ?_, hk.1.2.2⟩) (fun e2 => (h.ob _ e2 a' ha).2 i hi rfl) (by omega)
      by_cases e2 : a'' = a
      · rw [if_pos e2]
        have := (hr.lt i' hi').1
        have := hk.2
        omega
      · rw [if_neg e2]
        exact hk.1.2.1 a'' i' (by omega) hi'
  · intro a' ha'
    have hs2 := hg2.size
    by_cases e : a' = a
    · rw [show (if a' = a then w5.heap.size else ra a') = w5.heap.size from if_pos e]
      have hR := hr.rows.lt
      refine ⟨hfb5, by omega, fun i hi => ?_⟩
      rw [show (if a' = a then rbf i else rb a' i) = rbf i from if_pos e]
      have := hr.lt i hi
      omega
    · rw [show (if a' = a then w5.heap.size else ra a') = ra a' from if_neg e]
      obtain ⟨h1, h2, h3⟩ := h7.lb a' (by omega)
      refine ⟨h1, by omega, fun i hi => ?_⟩
      rw [show (if a' = a then rbf i else rb a' i) = rb a' i from if_neg e]
      have := h3 i hi
      omega
  · intro a' ha' x y hxy hy
    by_cases e : a' = a
    · rw [show (if a' = a then rbf x else rb a' x) = rbf x from if_pos e, show (if a' = a then rbf y else rb a' y) = rbf y from if_pos e]
      exact hr.inc x y hxy hy
    · rw [show (if a' = a then rbf x else rb a' x) = rb a' x from if_neg e, show (if a' = a then rbf y else rb a' y) = rb a' y from if_neg e]
      exact h.inc a' (by omega) x y hxy hy
  · intro a' a'' h1 h2
    have e0 : a' ≠ a := by omega
    rw [show (if a' = a then w5.heap.size else ra a') = ra a' from if_neg e0]
    by_cases e : a'' = a
    · rw [show (if a'' = a then w5.heap.size else ra a'') = w5.heap.size from if_pos e]
      obtain ⟨_, h4, h5⟩ := h.lb a' (by omega)
      refine ⟨h4, fun i hi => ?_⟩
      rw [show (if a' = a then rbf i else rb a' i) = rb a' i from if_neg e0]
      exact (h5 i hi).2
    · rw [show (if a'' = a then w5.heap.size else ra a'') = ra a'' from if_neg e]
      obtain ⟨h4, h5⟩ := h.sep a' a'' h1 (by omega)
      refine ⟨h4, fun i hi => ?_⟩
      rw [show (if a' = a then rbf i else rb a' i) = rb a' i from if_neg e0]
      exact h5 i hi
  · intro k e a' ha'
    by_cases e2 : a' = a
    · rw [show (if a' = a then w5.heap.size else ra a') = w5.heap.size from if_pos e2]
      have hR := hr.rows.lt
      rcases hnew k e with h2 | h2
      · have := hk k h2
        refine ⟨by omega, fun i hi => ?_⟩
        rw [show (if a' = a then rbf i else rb a' i) = rbf i from if_pos e2]
        have := hr.lt i hi
        omega
      · refine ⟨by omega, fun i hi => ?_⟩
        rw [show (if a' = a then rbf i else rb a' i) = rbf i from if_pos e2]
        have := hr.lt i hi
        omega
    · rw [show (if a' = a then w5.heap.size else ra a') = ra a' from if_neg e2]
      rcases hnew k e with h2 | h2
      · obtain ⟨h3, h4⟩ := h.ob k h2 a' (by omega)
        refine ⟨h3, fun i hi => ?_⟩
        rw [show (if a' = a then rbf i else rb a' i) = rb a' i from if_neg e2]
        exact h4 i hi
      · obtain ⟨_, h3, h4⟩ := h7.lb a' (by omega)
        refine ⟨by omega, fun i hi => ?_⟩
        rw [show (if a' = a then rbf i else rb a' i) = rb a' i from if_neg e2]
        have := h4 i hi
        omega
end
structure MTH (W : World) (gt : Int) (N st : Nat) (gr lv : Value) (fb bk hi bb : Nat) (ra : Nat → Nat) (rb : Nat → Nat → Nat) (l : List Sym) (T : Tb) (wr : World) : Prop where
  bel : Below W.heap.size W wr
  gbox : wr.heap[W.heap.size]? = some (.cells #[.int .i64 gt, .int .i64 (N : Int), .int .i64 (st : Int), gr] 24 (0, 0))
  out : wr.heap[W.heap.size + 1]? = some (.cells #[.int .i64 0, .slice none 0 0, .bool false] 91 (0, 0))
  fm : FM fb gt N st gr lv (.slice (some ⟨bb, 0, none⟩) N bk) l wr
  bt : BH (fun k => fb < k ∧ ∀ a i, a < N → i ≤ l.length → k ≠ rb a i) 0 bb ra rb N l.length T wr
  lt : ∀ a i, a < N → i ≤ l.length → rb a i < hi ∧ fb < rb a i
  le : hi ≤ wr.heap.size
theorem MTH.keep {W : World} {gt : Int} {N st : Nat} {gr lv : Value} {fb bk hi bb : Nat} {ra : Nat → Nat} {rb : Nat → Nat → Nat} {l : List Sym} {T : Tb} {wr w' : World} (h : MTH W gt N st gr lv fb bk hi bb ra rb l T wr) (hb : Below wr.heap.size wr w') : MTH W gt N st gr lv fb bk hi bb ra rb l T w' :=
  ⟨h.bel.trans (hb.mono h.bel.size), bx_keep h.gbox hb, bx_keep h.out hb, h.fm.keep hb, h.bt.keep hb, h.lt, Nat.le_trans h.le hb.size⟩
theorem MTH.set {W : World} {gt : Int} {N st : Nat} {gr lv : Value} {fb bk hi bb : Nat} {ra : Nat → Nat} {rb : Nat → Nat → Nat} {l : List Sym} {T : Tb} {wr : World} (h : MTH W gt N st gr lv fb bk hi bb ra rb l T wr) (hW : W.heap.size + 1 < fb) {a i j : Nat} (ha : a < N) (hi' : i ≤ l.length) (hj : j ≤ l.length) {o : Option Val} {u : Value} (hu : Rd (fun k => fb < k ∧ ∀ a i, a < N → i ≤ l.length → k ≠ rb a i) wr (D.ints (oW o)) [u]) :
    MTH W gt N st gr lv fb bk hi bb ra rb l (upd T (a : Int) i j o) (((wr.setCell ⟨rb a i, j * 3, none⟩ (.int .i64 (oN o))).setCell ⟨rb a i, j * 3 + 1, none⟩ u).setCell ⟨rb a i, j * 3 + 2, none⟩ (.bool o.isSome)) := by
  have hg := grown_cellsAt3 wr (rb a i) (j * 3) (j * 3 + 1) (j * 3 + 2) (.int .i64 (oN o)) u (.bool o.isSome)
  obtain ⟨h1, h2⟩ := h.lt a i ha hi'
  refine ⟨h.bel.grown hg h.bel.size (fun k e => by cases e; omega), (hg.block _ (Array.getElem?_eq_some_iff.1 h.gbox).1 (by simp; omega)).trans h.gbox, (hg.block _ (Array.getElem?_eq_some_iff.1 h.out).1 (by simp; omega)).trans h.out, h.fm.grown hg (fun k e => by cases e; exact h2), h.bt.set ha hi' hj hu, h.lt, Nat.le_trans h.le hg.size⟩
theorem BUH.mt {W : World} {gt : Int} {N st : Nat} {gr lv : Value} {fb : Nat} {l : List Sym} {vals : Tb} {n1 : Nat} {ra : Nat → Nat} {rb : Nat → Nat → Nat} {bv : Value} {wr : World} (h : BUH W gt N st gr lv fb l vals n1 N ra rb bv wr) (hn1 : n1 = l.length + 1) (hN : 0 < N) :
    ∃ bb bk, MTH W gt N st gr lv fb bk wr.heap.size bb ra rb l vals wr := by
  subst hn1
  have hsl := sl_of_own h.own
  obtain ⟨g, k, hbv, _, _⟩ := h.own.form hN
  subst hbv
  have hob := h.ob g rfl
  have inj : ∀ a a' i i', a < N → a' < N → i ≤ l.length → i' ≤ l.length → rb a i = rb a' i' → a = a' ∧ i = i' := by
    intro a a' i i' ha ha' hi hi' e
    rcases Nat.lt_trichotomy a a' with h1 | h1 | h1
    · have h2 := (h.sep a a' h1 ha').2 i (by omega)
      have h3 := ((h.lb a' ha').2.2 i' (by omega)).1
      omega
    · subst h1
      rcases Nat.lt_trichotomy i i' with h2 | h2 | h2
      · have := h.inc a ha i i' h2 (by omega); omega
      · exact ⟨rfl, h2⟩
      · have := h.inc a ha i' i h2 (by omega); omega
    · have h2 := (h.sep a' a h1 ha).2 i' (by omega)
      have h3 := ((h.lb a ha).2.2 i (by omega)).1
      omega
  refine ⟨g, k, h.bel, h.gbox, h.out, h.fm, ⟨fun a ha => ?_, fun a ha i hi => h.mid a ha i (by omega), fun a ha i hi => (h.row a ha i (by omega)).mono (fun k hk _ => ⟨hk.1, fun a' i' ha' hi' => hk.2.1 a' i' ha' (by omega)⟩), fun _ _ _ _ => Nat.zero_le _, inj, fun a i ha hi => ⟨?_, fun a' ha' => ?_⟩, fun a i ha hi hh => hh.2 a i ha hi rfl⟩, fun a i ha hi => ⟨?_, ?_⟩, Nat.le_refl _⟩
  · obtain ⟨bb, oo, hae, hcc⟩ := hsl.at (k := a) ha
    have := hcc a (by simpa using ha)
    cases hae
    simpa using this
  · exact fun e => (hob a ha).2 i (by omega) e.symm
  · rcases Nat.lt_trichotomy a a' with h1 | h1 | h1
    · have := (h.sep a a' h1 ha').2 i (by omega); omega
    · subst h1; have := ((h.lb a ha).2.2 i (by omega)).1; omega
    · have := (h.sep a' a h1 ha).1; have := ((h.lb a ha).2.2 i (by omega)).1; omega
  · exact ((h.lb a ha).2.2 i (by omega)).2
  · have := ((h.lb a ha).2.2 i (by omega)).1; have := (h.lb a ha).1; omega
end Hl
end Go.Proofs.Ytjpmebppdcclbaa
namespace Go.Proofs.Ytjpmebppdcclbaa
open Go.RowKit
namespace Hl
open Rp Al
def lenV (sv : Sym → Option Val) (A : Nat) : Int := match sv ⟨false, (A : Int)⟩ with
  | none => -1
  | some v => v.n
def LenC (g : Gram) (gr : Value) (sv : Sym → Option Val) (N : Nat) (W : World) : Prop :=
  Calls Try.prog 79 #[.agg #[.int .i64 g.terms, .int .i64 g.nons, .int .i64 g.start, gr]] W fun e w' => ∃ p, e = .returned (.tuple #[.slice (some ⟨p, 0, none⟩) N N, .int .i64 0]) ∧ Vrow 3 p N (fun A => .int .i64 (lenV sv A)) w' ∧ W.heap.size ≤ p ∧ Below W.heap.size W w'
def LstC (g : Gram) (gr : Value) (a : Nat) (v : Val) (W : World) : Prop :=
  Calls Try.prog 89 #[.agg #[.int .i64 g.terms, .int .i64 g.nons, .int .i64 g.start, gr], .int .i64 (a : Nat)] W fun e w' => ∃ u z, e = .returned (.tuple #[u, .int .i64 z]) ∧ Rd (fun k => W.heap.size ≤ k) w' (D.ints v.w) [u] ∧ Below W.heap.size W w'
theorem start_row {sv : Sym → Option Val} {l : List Sym} {a i k : Nat} (hi : i < l.length) (hk : k ≤ l.length) : startH (leafH sv l) l.length (a : Int) i k = if k = i + 1 ∧ l[i] = ⟨false, (a : Int)⟩ then sv ⟨false, (a : Int)⟩ else none := by
  have hg : l.getD i ⟨true, 0⟩ = l[i] := by rw [List.getD_eq_getElem?_getD, List.getElem?_eq_getElem hi]; rfl
  unfold startH leafH
  rw [hg]
  have hf : fitB ⟨false, (a : Int)⟩ l[i] = decide (l[i] = ⟨false, (a : Int)⟩) := by
    unfold fitB
    simp only [Bool.false_and, Bool.or_false]
    exact decide_eq_decide.2 ⟨fun h => h.symm, fun h => h.symm⟩
  rw [hf]
  by_cases h1 : k = i + 1
  · rw [if_pos ⟨by omega, hk⟩]
    by_cases h2 : l[i] = ⟨false, (a : Int)⟩
    · rw [if_pos ⟨h1, by simpa using h2, hi⟩, if_pos ⟨h1, h2⟩]
    · rw [if_neg (fun h => h2 (by simpa using h.2.1)), if_neg (fun h => h2 h.2)]
  · rw [if_neg (fun h : k = i + 1 ∧ l[i] = _ => h1 h.1), if_neg (fun h : k = i + 1 ∧ _ ∧ _ => h1 h.1)]
    split <;> rfl
theorem start_last {sv : Sym → Option Val} {l : List Sym} {A : Int} {i k : Nat} (hi : ¬ i < l.length) : startH (leafH sv l) l.length A i k = none := by
  unfold startH leafH
  rw [if_neg (fun h : k = i + 1 ∧ _ ∧ _ => hi h.2.2)]
  split <;> rfl
section
variable {sv : Sym → Option Val} {l : List Sym} {N tm B0 : Nat} {K : List Rule} {T : Tb}
theorem inv_cell (hs : SvOk N tm B0 sv) (h : InvH (leafH sv l) l.length N K (GH sv l tm) T) (A : Int) (x y : Nat) : WfO (T A x y) ∧ cO (T A x y) := by
  refine ⟨cg_wf (gokH hs) h.1 A x y, ?_⟩
  show oC (T A x y) = 0
  cases e : T A x y with
  | none => rfl
  | some v => exact (h.1 A x y v e).2.2.2.2.1.2.1
theorem inv_sym (hs : SvOk N tm B0 sv) (h : InvH (leafH sv l) l.length N K (GH sv l tm) T) (s : Sym) (hsk : okS N tm s) (i j : Nat) (hij : i ≤ j) (hj : j ≤ l.length) : Bd (S0 sv l l.length) (hlT (leafH sv l) T s i j) ∧ cO (hlT (leafH sv l) T s i j) := by
  have hv := hl_vo (gokH hs) h.1
  have hw := hv.1 s i j
  unfold cO
  cases e : hlT (leafH sv l) T s i j with
  | none => exact ⟨bd_none _, rfl⟩
  | some v =>
    obtain ⟨h1, h2, h3, _⟩ := (hv.2 s i j v hij hj e).2 hsk
    have := S0_mono (sv := sv) (l := l) hj
    rw [e] at hw
    exact ⟨⟨hw, by show v.c ≤ _; omega, by show v.n ≤ _; omega⟩, h2⟩
theorem inv_rv (hs : SvOk N tm B0 sv) (hK : KG N K (okS N tm)) (h : InvH (leafH sv l) l.length N K (GH sv l tm) T) (r : Rule) (hr : r ∈ K) (i j : Nat) (hi : i ≤ l.length) (hj : j ≤ l.length) : WfO (rvH (leafH sv l) l.length T r i j) ∧ cO (rvH (leafH sv l) l.length T r i j) := by
  have hv : ∀ s ∈ r.right, ∀ k j, k ≤ j → j ≤ l.length → _ := fun s hsr k j h1 h2 => inv_sym hs h s ((hK r hr).2.2 s hsr) k j h1 h2
  exact ⟨(bd_foldF hi r.right (startF i) 0 (fun s hsr k j h1 h2 => (hv s hsr k j h1 h2).1) (fun j _ => bd_startF i j) j hj).1, cO_foldF hi r.right (startF i) (fun s hsr k j h1 h2 => (hv s hsr k j h1 h2).2) (fun j _ => cO_startF i j) j hj⟩
end
set_option maxHeartbeats 16000000 in
set_option maxRecDepth 100000 in
theorem fillE (g : Gram) (sv : Sym → Option Val) (l : List Sym) (hl : l.length ≤ 12) (N : Nat) (hN : g.nons = (N : Int)) (hN0 : 0 < N) (hN1 : N ≤ 10) (st : Nat) (hst : g.start = (st : Int)) (hsN : st < N) (tm B0 : Nat) (hB : B0 ≤ 1048576) (hs : SvOk N tm B0 sv) (hK : KG N g.rules (okS N tm)) (hr4 : ∀ r ∈ g.rules, r.right.length ≤ 4) (hcl : ∀ c ∈ l, cellOk N tm c)
    (ga : Option Addr) (gcap : Nat) (pa : Option Addr) (lk : Nat) (W : World) (hgr : Rd AnyB W (.sl (g.rules.map Rule.d)) [.slice ga g.rules.length gcap]) (hlv : Rd AnyB W (.sl (l.map Sym.d)) [.slice pa l.length lk])
    (hlen : ∀ W', Below W.heap.size W W' → LenC g (.slice ga g.rules.length gcap) sv N W') (hlst : ∀ a v, a < N → sv ⟨false, ((a : Nat) : Int)⟩ = some v → ∀ W', Below W.heap.size W W' → LstC g (.slice ga g.rules.length gcap) a v W') :
    Calls Try.prog 50 #[.agg #[.int .i64 g.terms, .int .i64 g.nons, .int .i64 g.start, .slice ga g.rules.length gcap], .slice pa l.length lk] W fun e w' =>
      ∃ x, e = .returned x ∧ HR (fun k => W.heap.size ≤ k) w' x (cvOf sv l g.rules N tm ⟨false, (st : Int)⟩ 0 l.length) ∧ Below W.heap.size W w' := by
  have hgb := hgr.bounds.2
  unfold maxLen at hgb
  obtain ⟨hgc1, hgc2⟩ := hgb
  have hlb := hlv.bounds.2
  unfold maxLen at hlb
  obtain ⟨hlc1, hlc2⟩ := hlb
  obtain ⟨n, HNN⟩ := nameIt l.length
  obtain ⟨RV, HRV0⟩ := nameIt (rvH (leafH sv l) l.length)
  obtain ⟨INV, HINV⟩ := nameIt (InvH (leafH sv l) l.length N g.rules (GH sv l tm))
  obtain ⟨mu, HMU⟩ := nameIt (muU (valsU tm 0 (S0 sv l l.length)) N l.length)
  obtain ⟨T00, HT00⟩ := nameIt (startH (leafH sv l) l.length)
  obtain ⟨M, HM⟩ := nameIt (S0 sv l l.length)
  have hM : M ≤ 288230376151711744 := by
    have := S0_le (l := l) hs l.length
    have h2 : l.length * (B0 + 1) ≤ 12 * 1048577 := Nat.mul_le_mul hl (by omega)
    rw [← HM.out]; omega
  have hpl := planF (l := l) hs hK
  rw [HRV0.out, HINV.out, HMU.out, HNN.out] at hpl
  have HPL := Lib.hid hpl
  have HSTART : Hid (INV T00) := by
    rw [← HINV.out, ← HT00.out]; exact inv_startH (gokH hs) (hloH hcl)
  have HCELL : Hid (∀ T, INV T → ∀ A x y, WfO (T A x y) ∧ cO (T A x y)) := by
    intro T h A x y; rw [← HINV.out] at h; exact inv_cell hs h A x y
  have HSYMB : Hid (∀ T, INV T → ∀ r ∈ g.rules, hruleOk (hlT (leafH sv l) T) M l.length r) := by
    intro T h r hr s hsr k j h1 h2
    rw [← HINV.out] at h
    have := inv_sym hs h s ((hK r hr).2.2 s hsr) k j h1 h2
    rw [HM.out] at this
    exact this
  have HRVB : Hid (∀ T, INV T → ∀ r ∈ g.rules, ∀ i j, i ≤ n → j ≤ n → WfO (RV T r i j) ∧ cO (RV T r i j)) := by
    intro T h r hr i j hi hj
    rw [← HINV.out] at h
    rw [← HRV0.out]
    exact inv_rv hs hK h r hr i j (by rw [HNN.out]; exact hi) (by rw [HNN.out]; exact hj)
  obtain ⟨cvo, HCVO⟩ := nameIt (cvOf sv l g.rules N tm ⟨false, (st : Int)⟩ 0 l.length)
  have HVAL : Hid (∀ T, INV T → ClosedG g.rules RV n T → T (st : Int) 0 n = cvo) := by
    intro T h hc
    rw [← HINV.out] at h
    rw [← HRV0.out, ← HNN.out] at hc
    rw [← HCVO.out, ← HNN.out]
    exact cv_eqF hs h hc (st : Int) (Nat.zero_le _) (Nat.le_refl _)
  have hsv := hs.tn
  have HSV := Lib.hid hsv
  have HKO := Lib.hid hK
  have HR4 := Lib.hid hr4
  have HKS : Hid (∀ r ∈ g.rules, ∀ s ∈ r.right, s.term = false → 0 ≤ s.n ∧ s.n < N) := fun r hr s hsr ht => ⟨((hK r hr).2.2 s hsr).1, ((hK r hr).2.2 s hsr).2.2 ht⟩
  have HSWF : Hid (∀ y, WfO (sv y)) := hs.wf
  rw [HCVO.out]
  clear hpl hs hK hr4 hsv HM HCVO HMU hcl
  obtain ⟨w0, HW0⟩ := nameIt (((W.alloc (.cells #[.int .i64 g.terms, .int .i64 g.nons, .int .i64 g.start, .slice ga g.rules.length gcap] 24)).alloc (.cells #[.int .i64 0, .slice none 0 0, .bool false] 91)).alloc (.cells #[.int .i64 g.terms, .int .i64 g.nons, .int .i64 g.start, .slice ga g.rules.length gcap, .slice pa l.length lk, .slice none 0 0] 137))
  have al : ∀ (w : World) (o : Obj), Below w.heap.size w (w.alloc o) := fun w o => (Below.refl _ _).alloc (Nat.le_refl _) _
  have hw0 : Below W.heap.size W w0 := by
    rw [← HW0.out]
    exact (((Below.refl _ _).alloc (Nat.le_refl _) _).alloc (by simp) _).alloc (by simp; omega) _
  have HSZ0 : Hid (w0.heap.size = W.heap.size + 1 + 1 + 1) := by show _ = _; rw [← HW0.out]; simp
  have HG0 : Hid (w0.heap[W.heap.size]? = some (.cells #[.int .i64 g.terms, .int .i64 g.nons, .int .i64 g.start, .slice ga g.rules.length gcap] 24 (0, 0))) := by
    rw [← HW0.out]; exact bx_keep (bx_keep (bx_new _ _ _ rfl) (al _ _)) (al _ _)
  have HO0 : Hid (w0.heap[W.heap.size + 1]? = some (.cells #[.int .i64 0, .slice none 0 0, .bool false] 91 (0, 0))) := by
    rw [← HW0.out]; exact bx_keep (bx_new _ _ _ (by simp)) (al _ _)
  have HF0 : Hid (w0.heap[W.heap.size + 1 + 1]? = some (.cells #[.int .i64 g.terms, .int .i64 g.nons, .int .i64 g.start, .slice ga g.rules.length gcap, .slice pa l.length lk, .slice none 0 0] 137 (0, 0))) := by
    rw [← HW0.out]; exact bx_new _ _ _ (by simp)
  have HLEN : Hid (∀ W', Below w0.heap.size w0 W' → LenC g (.slice ga g.rules.length gcap) sv N W') := fun W' hb => hlen W' (hw0.trans (hb.mono hw0.size))
  have HLST := Lib.hid hlst
  obtain ⟨gt, HGT⟩ := nameIt g.terms
  obtain ⟨kn, HKN⟩ := nameIt g.rules.length
  have hlen0 := HLEN.out w0 (Below.refl _ _)
  have hlst0 := HLST.out
  unfold LenC at hlen0
  unfold LstC at hlst0
  rw [HGT.out, hN, hst, HKN.out] at hlen0 hlst0 HG0
  rw [HGT.out, hN, hst, HKN.out, HNN.out] at HF0 HW0
  rw [HNN.out] at hl hlc1
  have HL0 := Lib.hid hlen0
  have HLS := Lib.hid hlst0
  obtain ⟨PST, HP⟩ := nameIt (fun (e : Ending) (w' : World) => ∃ x, e = .returned x ∧ HR (fun k => W.heap.size ≤ k) w' x cvo ∧ Below W.heap.size W w')
  rw [HP.out, HGT.out, hN, hst, HKN.out, HNN.out]
  have HFIN : Hid (∀ x w', HR (fun k => W.heap.size ≤ k) w' x cvo → Below W.heap.size W w' → PST (.returned x) w') := by
    intro x w' h1 h2; rw [← HP.out]; exact ⟨x, rfl, h1, h2⟩
  have HGR := Lib.hid (hgr.mono (S' := fun k => k < W.heap.size) (fun k _ hl => hl))
  rw [HKN.out] at HGR
  have HLV0 : Hid (Rd (fun k => k < W.heap.size + 1 + 1) w0 (.sl (l.map Sym.d)) [.slice pa n lk]) := by
    rw [← HNN.out]
    exact (hlv.mono (S' := fun k => k < W.heap.size + 1 + 1) (fun k _ hl => by show k < W.heap.size + 1 + 1; omega)).below hw0
  have HB0 := Lib.hid hw0
  obtain ⟨x0, x1, x2, x3⟩ := bx_cells4 HG0.out
  clear hgr hlv hlen hlst hlen0 hlst0 HLEN HLST hw0 al HP
  go_enter Try.func50, Try.ntmps50
  go_upto_region 2 with fail
  rw [HW0.out]
  clear HW0
  go_wp2_with fail
  refine HL0.out.mono ?_
  rintro e w1 ⟨p, rfl, hvp, hpl, hb1⟩
  obtain ⟨x0, x1, x2, x3⟩ := bx_cells4 (bx_keep HG0.out hb1)
  have HB1 := Lib.hid hb1
  have HVP := Lib.hid hvp
  have HPLT : Hid (W.heap.size + 1 + 1 < p) := by have := HSZ0.out; show _ < _; omega
  obtain ⟨fb, HFB⟩ := nameIt (W.heap.size + 1 + 1)
  rw [HFB.out] at HF0 HLV0 HPLT
  rw [HFB.out]
  have HBU0 : Hid (BUH W gt N st (.slice ga kn gcap) (.slice pa n lk) fb l T00 (n + 1) 0 (fun _ => 0) (fun _ _ => 0) (.slice none 0 0) w1) := by
    refine ⟨HB0.out.trans (hb1.mono HB0.out.size), bx_keep HG0.out hb1, bx_keep HO0.out hb1, ⟨bx_keep HF0.out hb1, HLV0.out.below hb1⟩, World.ownsRow_nil _ _ _ _, fun a' ha => (by omega), fun a' ha => (by omega), fun a' ha => (by omega), fun a' ha => (by omega), fun a' a'' _ ha => (by omega), fun k e => (by cases e)⟩
  have HFBW : Hid (W.heap.size + 1 < fb) := by show _ < _; rw [← HFB.out]; omega
  clear hb1 hvp hpl
  go_upto_block 0 with fail
  go_cut [8, 9, 10, 11, 12] from 30 to 99 (fun t8 t9 t10 t11 t12 wx => ∃ bk hi bb ra rb, Hid (MTH W gt N st (.slice ga kn gcap) (.slice pa n lk) fb bk hi bb ra rb l T00 wx))
  case first =>
    obtain ⟨n1, HN1⟩ := nameIt (n + 1)
    have hwn1 : IntKind.i64.wrap ((n : Int) + 1) = (n1 : Int) := by have := HN1.out; rw [IntWalk.i64_in _ (by omega)]; omega
    have hn13 : n1 ≤ 13 := by have := HN1.out; omega
    have hmkR : ∀ W : World, (Instr.makeSlice 138 (.int .i64 (n1 : Int)) (.int .i64 (n1 : Int))).run Try.prog W = .ok (.slice (some ⟨W.heap.size, 0, none⟩) n1 n1) (W.alloc (.cells (madeCells #[.slice none 0 0] n1) 139)) := fun W => by
      have := HN1.out
      have := run_make_row' (P := Try.prog) 138 139 (.slice none 0 0) 24 Try.underlying138 (by kernel_rfl) rfl .i64 .i64 n1 (by omega) (by omega) W
      simpa using this
    have hmkW : ∀ W : World, (Instr.makeSlice 139 (.int .i64 (n1 : Int)) (.int .i64 (n1 : Int))).run Try.prog W = .ok (.slice (some ⟨W.heap.size, 0, none⟩) n1 n1) (W.alloc (.cells (madeCells #[.int .i64 0, .slice none 0 0, .bool false] (n1 * 3)) 91)) := fun W => by
      obtain ⟨ti, h1, h2, h3, h4⟩ := info_parts (show (Try.prog.info? 91).map (fun i => (i.zero, i.size, i.bytes)) = some (some (.agg #[.int .i64 0, .slice none 0 0, .bool false]), 3, 40) by kernel_rfl)
      have := HN1.out
      have := run_makeSlice W 139 91 ti _ Try.underlying139 h1 h2 .i64 .i64 (n1 : Int) (n1 : Int) (by omega) (by omega) (by rw [h3]; omega) (by rw [h4]; omega) (by omega)
      simpa [h3, Value.cells] using this
    have HMKR := Lib.hid hmkR
    have HMKW := Lib.hid hmkW
    rw [HN1.out] at HBU0
    clear hmkR hmkW
    go_wp2_with fail
    go_loopg [8, 9, 10, 11, 12, 30] N (fun gg v8 v9 v10 v11 v12 v30 wr => ∃ (a : Nat) (ra : Nat → Nat) (rb : Nat → Nat → Nat) (bv : Value), a ≤ N ∧ N - a ≤ gg ∧ v30 = .int .i64 (a : Nat) ∧ Hid (BUH W gt N st (.slice ga kn gcap) (.slice pa n lk) fb l T00 n1 a ra rb bv wr) ∧ Hid (Vrow 3 p N (fun A => .int .i64 (lenV sv A)) wr) ∧ Hid (bv.ownBlock ≠ some p))
    case atStart => exact ⟨0, _, _, _, by omega, by omega, rfl, HBU0, HVP, (fun e => by cases e)⟩
    case round =>
      clear HBU0 HB1 HVP
      obtain ⟨a, ra, rb, bv, haN, hgg, rfl, HBU, HVP, HNO⟩ := hrel
      obtain ⟨w5, rfl⟩ : ∃ wo : World, wo = wr := ⟨_, rfl⟩
      by_cases hlt : a < N
      · have hlt' : (a : Int) < (N : Int) := by omega
        obtain ⟨w6, HW6⟩ := nameIt (w5.alloc (.cells (madeCells #[.slice none 0 0] n1) 139))
        have hw6 : Below w5.heap.size w5 w6 := by rw [← HW6.out]; exact (Below.refl _ _).alloc (Nat.le_refl _) _
        have HRU0 : Hid (RUH n1 w5.heap.size (T00 (a : Int)) 0 (fun _ => 0) w6) := by
          refine ⟨?_, fun x hx => (by omega), fun x hx => (by omega), fun x y _ hy => (by omega)⟩
          rw [← HW6.out]
          exact (vrow_new w5 _ (.slice none 0 0) n1 rfl).eq (fun k _ => by rw [if_neg (by omega)])
        have HB6 := Lib.hid hw6
        have hmr := HMKR.out w5
        clear hw6
        obtain ⟨R, HRN⟩ := nameIt w5.heap.size
        rw [HRN.out] at HRU0
        have HPR : Hid (p < R) := by show _ < _; rw [← HRN.out]; exact HVP.out.lt
        go_upto_region 7 with fail
        rw [HW6.out, HRN.out]
        clear HW6 hmr
        go_wp2_with fail
        go_loopg [10, 11, 12, 39] n1 (fun gg v10 v11 v12 v39 wr => ∃ (i : Nat) (rbf : Nat → Nat), i ≤ n1 ∧ n1 - i ≤ gg ∧ v39 = .int .i64 (i : Nat) ∧ Hid (Below w5.heap.size w5 wr) ∧ Hid (RUH n1 R (T00 (a : Int)) i rbf wr))
        case atStart => exact ⟨0, _, by omega, by omega, rfl, HB6, HRU0⟩
        case round =>
          clear HRU0 HB6 w6
          obtain ⟨i, rbf, hin, hgg2, rfl, HB6, HRU⟩ := hrel
          obtain ⟨w6, rfl⟩ : ∃ wo : World, wo = wr := ⟨_, rfl⟩
          by_cases hi1 : i < n1
          · have hi1' : (i : Int) < (n1 : Int) := by omega
            have hal : Below w6.heap.size w6 (w6.alloc (.cells (madeCells #[.int .i64 0, .slice none 0 0, .bool false] (n1 * 3)) 91)) := (Below.refl _ _).alloc (Nat.le_refl _) _
            have hrow := HRU.out.rows.keep hal
            have v0 := hrow.cell hi1
            have f0 := hrow.free i
            have hmw := HMKW.out w6
            obtain ⟨w7, HW7⟩ := nameIt ((w6.alloc (.cells (madeCells #[.int .i64 0, .slice none 0 0, .bool false] (n1 * 3)) 91)).setCell ⟨R, i, none⟩ (.slice (some ⟨w6.heap.size, 0, none⟩) n1 n1))
            have hst := HRU.out.step hi1
            rw [HW7.out] at hst
            have HB7 : Hid (Below w5.heap.size w5 w7) := by
              rw [← HW7.out]
              have h1 := HB6.out.trans (hal.mono HB6.out.size)
              exact h1.setCell (p := ⟨R, i, none⟩) (by show w5.heap.size ≤ R; rw [HRN.out]; exact Nat.le_refl _) _
            obtain ⟨g0, HG0N⟩ := nameIt w6.heap.size
            rw [HG0N.out] at hst
            have HST := Lib.hid hst
            clear hal hrow hst
            go_upto_region 11 with fail
            rw [HW7.out]
            clear HW7 hmw v0 f0 HG0N
            obtain ⟨cb, HCB⟩ : ∃ cb : Bool, Hid (cb = (decide (i < n) && ((l.getD i ⟨true, 0⟩).term == false && (l.getD i ⟨true, 0⟩).n == (a : Int)) && decide (0 ≤ lenV sv a))) := ⟨_, rfl⟩
            have HBU7 := Lib.hid (HBU.out.keep HB7.out)
            have HVP7 := Lib.hid (HVP.out.keep HB7.out)
            have HNV : Hid (∀ W', Below w7.heap.size w7 W' → Calls Try.prog 60 #[.int .i64 (a : Int)] W' fun e w' => e = .returned (.agg #[.bool false, .int .i64 (a : Int)]) ∧ Below W'.heap.size W' w') := fun W' _ => gramN (a : Int) W'
            go_cut [68] (fun t wx => t = .bool cb ∧ Hid (Below w7.heap.size w7 wx))
            case first =>
              by_cases hin2 : i < n
              · have hin2' : (i : Int) < (n : Int) := by omega
                have hil : i < l.length := by rw [HNN.out]; exact hin2
                obtain ⟨b', off', hae, -, -, q0, q1⟩ := (show Rd (fun k => k < fb) w7 (.sl (l.map Sym.d)) [.slice pa n lk] from HBU7.out.fm.row).sym_at hil
                have hg : l.getD i ⟨true, 0⟩ = l[i] := by rw [List.getD_eq_getElem?_getD, List.getElem?_eq_getElem hil]; rfl
                have hcb := HCB.out
                rw [hg, show decide (i < n) = true by simpa using hin2, Bool.true_and] at hcb
                obtain ⟨⟨ct, cn⟩, HC⟩ := nameIt l[i]
                rw [HC.out] at q0 q1 hcb
                simp only at q0 q1 hcb
                subst hae
                have v0 := HVP7.out.cell hlt
                obtain ⟨lv, HLVN⟩ := nameIt (lenV sv a)
                rw [HLVN.out] at v0 hcb
                have hse := symEq ct false cn (a : Int)
                obtain ⟨q, HQ⟩ := nameIt (ct == false && cn == (a : Int))
                rw [HQ.out] at hse hcb
                have i0 := aft_cell q0
                have i1 := aft_cell q1
                have i2 := aft_cell v0
                clear HC HQ HLVN hg hil q0 q1 v0
                cases q with
                | false =>
                  have hcb2 : cb = false := by rw [hcb]; simp
                  subst hcb2
                  clear hcb
                  refine wp_region_after (by kernel_rfl) (by kernel_rfl) ?_
                  repeat (go_big_quiet_step (with_reducible exact Calls.after (HNV.out _ (Aft.bel _))))
                  refine wpQuiet_nil ?_
                  rintro w8 ⟨⟨_, hb8⟩, rfl⟩
                  go_wp2_with fail
                  go_meet
                  exact ⟨rfl, hb8⟩
                | true =>
                  have hge : decide ((0 : Int) ≤ lv) = cb := by rw [hcb]; simp
                  clear hcb
                  refine wp_region_after (by kernel_rfl) (by kernel_rfl) ?_
                  repeat (go_big_quiet_step (with_reducible exact Calls.after (HNV.out _ (Aft.bel _))))
                  refine wpQuiet_nil ?_
                  rintro w8 ⟨⟨_, hb8⟩, rfl⟩
                  go_wp2_with fail
                  go_meet
                  exact ⟨rfl, hb8⟩
              · have hin2' : ¬ (i : Int) < (n : Int) := by omega
                have hcb2 : cb = false := by rw [HCB.out, show decide (i < n) = false by simpa using hin2]; simp
                subst hcb2
                refine wp_region_after (by kernel_rfl) (by kernel_rfl) ?_
                repeat (go_big_quiet_step (with_reducible exact Calls.after (HNV.out _ (Aft.bel _))))
                refine wpQuiet_nil ?_
                rintro w8 ⟨⟨_, hb8⟩, rfl⟩
                go_wp2_with fail
                go_meet
                exact ⟨rfl, hb8⟩
            case rest =>
            obtain ⟨rfl, HB78⟩ := hcut
            obtain ⟨w8, HW8⟩ := nameIt wc
            rw [HW8.out] at HB78 ⊢
            clear HW8 HNV
            have HST8 := Lib.hid (HST.out.keep HB78.out)
            have HB8 := Lib.hid (HB7.out.trans (HB78.out.mono HB7.out.size))
            cases cb with
            | false =>
              have HST9 : Hid (RUH n1 R (T00 (a : Int)) (i + 1) (fun x => if x = i then g0 else rbf x) w8) := by
                refine HST8.out.eqv (fun x hx k hk => ?_)
                by_cases e : x = i
                · rw [if_pos e, e, ← HT00.out]
                  by_cases hin2 : i < n
                  · have hil : i < l.length := by rw [HNN.out]; exact hin2
                    rw [start_row hil (by rw [HNN.out]; have := HN1.out; omega)]
                    have hg : l.getD i ⟨true, 0⟩ = l[i] := by rw [List.getD_eq_getElem?_getD, List.getElem?_eq_getElem hil]; rfl
                    have hcb := HCB.out
                    rw [hg, show decide (i < n) = true by simpa using hin2, Bool.true_and] at hcb
                    by_cases hc : k = i + 1 ∧ l[i] = ⟨false, (a : Int)⟩
                    · rw [if_pos hc]
                      rw [hc.2] at hcb
                      simp at hcb
                      unfold lenV at hcb
                      cases hsv : sv ⟨false, (a : Int)⟩ with
                      | none => rfl
                      | some v => rw [hsv] at hcb; simp at hcb; omega
                    · rw [if_neg hc]
                  · rw [start_last (by rw [HNN.out]; exact hin2)]
                · rw [if_neg e]
              go_wp2_with fail
              go_roundg (n1 - (i + 1))
              case measure => omega
              case rel => exact ⟨i + 1, _, by omega, by omega, by go_num, HB8, HST9⟩
            | true =>
              have hcb := HCB.out
              have hcc : i < n ∧ l.getD i ⟨true, 0⟩ = ⟨false, (a : Int)⟩ ∧ 0 ≤ lenV sv a := by
                have h := hcb.symm
                simp only [Bool.and_eq_true, decide_eq_true_eq, beq_iff_eq] at h
                obtain ⟨⟨h1, h2, h3⟩, h4⟩ := h
                have hx : ∀ c : Sym, c.term = false → c.n = (a : Int) → c = ⟨false, (a : Int)⟩ := by
                  rintro ⟨c1, c2⟩ h5 h6
                  simp only at h5 h6
                  rw [h5, h6]
                exact ⟨h1, hx _ h2 h3, h4⟩
              obtain ⟨hin2, hgd, hlv0⟩ := hcc
              obtain ⟨v, hv⟩ : ∃ v, sv ⟨false, (a : Int)⟩ = some v := by
                unfold lenV at hlv0
                cases hsv : sv ⟨false, (a : Int)⟩ with
                | none => rw [hsv] at hlv0; simp at hlv0
                | some v => exact ⟨v, rfl⟩
              have hlen : lenV sv a = ((oN (some v) : Nat) : Int) := by unfold lenV; rw [hv]; rfl
              have HLEN := Lib.hid hlen
              have HVV := Lib.hid hv
              have HGD := Lib.hid hgd
              have HBU8 := Lib.hid (HBU7.out.keep HB78.out)
              have HVP8 := Lib.hid (HVP7.out.keep HB78.out)
              have HLQ := Lib.hid (HLS.out a v hlt hv w8 HBU8.out.bel)
              obtain ⟨x0, x1, x2, x3⟩ := bx_cells4 HBU8.out.gbox
              clear hcb hgd hlv0 hlen hv
              go_wp2_with fail
              refine HLQ.out.mono ?_
              rintro e w9 ⟨u, z, rfl, hru, hb9⟩
              have HRU9 := Lib.hid hru
              obtain ⟨ua, uk, rfl⟩ := (sl_rd hru).form
              obtain ⟨um, HUM⟩ := nameIt (ints v.w).length
              rw [HUM.out] at HRU9 ⊢
              have HST9 := Lib.hid (HST8.out.keep hb9)
              have HB9 := Lib.hid (HB8.out.trans (hb9.mono HB8.out.size))
              have HVP9 := Lib.hid (HVP8.out.keep hb9)
              have HW89 : Hid (w8.heap.size ≤ w9.heap.size) := hb9.size
              have v0 := HST9.out.rows.cell hi1
              rw [if_pos (Nat.lt_succ_self i), if_pos rfl] at v0
              have v1 := HVP9.out.cell hlt
              rw [HLEN.out] at v1
              obtain ⟨i1, HI1⟩ := nameIt (i + 1)
              have hwi : IntKind.i64.wrap ((i : Int) + 1) = (i1 : Int) := by have := HI1.out; rw [IntWalk.i64_in _ (by omega)]; omega
              have hi1n : i1 < n1 := by have := HI1.out; have := HN1.out; omega
              have hi1n' : (i1 : Int) < (n1 : Int) := by omega
              have j0 := aft_cell v0
              have j1 := aft_cell v1
              clear hru hb9 v0 v1 x0 x1 x2 x3
              go_upto_region 13 with fail
              refine wp_region_after_tail 13 (by kernel_rfl) (by kernel_rfl) ?_
              simp only [List.take_succ_cons, List.take_zero, List.drop_succ_cons, List.drop_zero]
              repeat (go_big_quiet_step (fail))
              refine wpQuiet_nil ?_
              rintro wa ⟨⟨_, hba⟩, rfl⟩
              clear j0 j1
              have HSTA := Lib.hid (HST9.out.keep hba)
              have HBA := Lib.hid (HB9.out.trans (hba.mono HB9.out.size))
              have hrow := HSTA.out.row i (by omega)
              rw [if_pos rfl] at hrow
              have hfr := hrow.free
              obtain ⟨ae, me, ke, hge, -⟩ := hrow.get (j := i1) hi1n
              obtain ⟨d0, d1, d2⟩ := hge wa rfl
              have f0 := hfr (i1 * 3)
              have f1 := hfr (i1 * 3 + 1)
              have f2 := hfr (i1 * 3 + 2)
              have hrua := HRU9.out.below hba
              have HSET : Hid (RUH n1 R (T00 (a : Int)) (i + 1) (fun x => if x = i then g0 else rbf x) (((wa.setCell ⟨g0, i1 * 3, none⟩ (.int .i64 (oN (some v)))).setCell ⟨g0, i1 * 3 + 1, none⟩ (.slice ua um uk)).setCell ⟨g0, i1 * 3 + 2, none⟩ (.bool true))) := by
                have h1 := HSTA.out.set (x := i) (j := i1) (vals' := T00 (a : Int)) (o := some v) (u := .slice ua um uk) (by omega) hi1n (hrua.mono (fun k hk _ => ?_)) (fun y hy k hk => ?_)
                · rw [if_pos rfl] at h1; exact h1
                · have h2 := HST8.out.rows.lt
                  have h3 : w8.heap.size ≤ k := hk
                  refine ⟨by omega, fun y hy => ?_⟩
                  have := (HST8.out.lt y hy).2
                  omega
                · by_cases e : y = i
                  · subst e
                    have hil : y < l.length := by rw [HNN.out]; exact hin2
                    have hg : l.getD y ⟨true, 0⟩ = l[y] := by rw [List.getD_eq_getElem?_getD, List.getElem?_eq_getElem hil]; rfl
                    rw [← HT00.out, start_row hil (by rw [HNN.out]; have := HN1.out; omega), ← hg, HGD.out]
                    by_cases e2 : k = i1
                    · rw [if_pos ⟨by rw [e2]; exact HI1.out.symm, rfl⟩, if_pos ⟨rfl, e2⟩, HVV.out]
                    · rw [if_neg (fun h => e2 (by rw [h.1]; exact HI1.out)), if_neg (fun h => e2 h.2), if_pos rfl]
                  · rw [if_neg (fun h : y = i ∧ _ => e h.1), if_neg e]
              have HBS : Hid (Below w5.heap.size w5 (((wa.setCell ⟨g0, i1 * 3, none⟩ (.int .i64 (oN (some v)))).setCell ⟨g0, i1 * 3 + 1, none⟩ (.slice ua um uk)).setCell ⟨g0, i1 * 3 + 2, none⟩ (.bool true))) := by
                have hl : R < g0 := by have := (HSTA.out.lt i (by omega)).1; simpa using this
                exact HBA.out.grown (grown_cellsAt3 wa g0 (i1 * 3) (i1 * 3 + 1) (i1 * 3 + 2) _ _ _) HBA.out.size (fun k e => by cases e; rw [HRN.out]; omega)
              clear hba hrow hfr hge hrua
              go_wp2_with fail
              go_roundg (n1 - (i + 1))
              case measure => omega
              case rel => exact ⟨i + 1, _, by omega, by omega, by rw [HI1.out], HBS, HSET⟩
          · have hi1' : ¬ (i : Int) < (n1 : Int) := by omega
            obtain rfl : i = n1 := by omega
            have HBU7 := Lib.hid (HBU.out.keep HB6.out)
            have HVP7 := Lib.hid (HVP.out.keep HB6.out)
            obtain ⟨ab, kb, hbv, hbc1, hbc2⟩ := own_len HBU.out.own
            subst hbv
            have hfm := HBU7.out.fm.box
            obtain ⟨-, -, -, -, -, s5⟩ := bx_cells6 hfm
            have HBX := Lib.hid hfm
            have hfbl := HBU.out.fm.lt
            have hfb7 := HBU7.out.fm.lt
            have HOWN := Lib.hid HBU7.out.own
            have hn1 := HN1.out
            clear hfm
            go_wp2_with (at_builtin; refine wp_app1at elTabH rfl _ _ rfl HOWN.out rfl rfl rfl rfl rfl (by omega) (by unfold maxLen; omega) (by omega) ?_)
            intro v' wz hoz hgz hatz
            rw [← HRN.out] at hoz
            have happ := HBU.out.app HB6.out (rbf := rbf) (by rw [HRN.out]; exact HRU.out) hoz hgz hatz HFBW.out
            have HAPP := Lib.hid happ
            have hpl := HPR.out
            have HVPZ : Hid (Vrow 3 p N (fun A => .int .i64 (lenV sv A)) (wz.setCell ⟨fb, 0 + 5, none⟩ v')) := by
              have h1 := HPLT.out
              exact (HVP7.out.grown hgz HNO.out).grown (grown_cell wz ⟨fb, 0 + 5, none⟩ v') (by simp; omega)
            have HNOZ : Hid (v'.ownBlock ≠ some p) := by
              intro e
              rcases hatz with h1 | ⟨k', h1, h2⟩
              · rw [h1] at e; exact HNO.out e
              · rw [h1] at e
                cases e
                have := HVP7.out.lt
                omega
            obtain ⟨az, kz, rfl, -, -⟩ := own_len hoz
            have hne : ∀ k, (Value.slice ab a kb).ownBlock = some k → fb ≠ k := fun k e => by have := (HBU.out.own.lt k e).1; omega
            have hcz := (hgz.block fb hfb7 (fun e => hne fb e.symm rfl)).trans HBX.out
            obtain ⟨-, -, -, -, -, s5z⟩ := bx_cells6 hcz
            have fz : wz.frozen? ⟨fb, 0 + 5, none⟩ = false := by simp [World.frozen?, hcz]
            clear hoz hgz hatz happ hcz hpl
            go_wp2_with fail
            go_roundg (N - (a + 1))
            case measure => omega
            case rel => exact ⟨a + 1, _, _, _, by omega, by omega, by go_num, HAPP, HVPZ, HNOZ⟩
      · have hlt' : ¬ (a : Int) < (N : Int) := by omega
        obtain rfl : a = N := by omega
        obtain ⟨bb, bk, hmt⟩ := HBU.out.mt (by rw [HNN.out]; exact HN1.out.symm) (by omega)
        have HMT := Lib.hid hmt
        clear hmt
        go_wp2_with fail
        go_meet
        exact ⟨bk, _, bb, ra, rb, HMT⟩
  case rest =>
    obtain ⟨bk, hi, bb, ra, rb, HMT⟩ := hcut
    obtain ⟨w5, HW5⟩ := nameIt wc
    rw [HW5.out] at HMT ⊢
    clear HW5 HG0 HO0 HF0 HLV0 HB0 HB1 HBU0 HL0 HLS HVP HPLT x0 x1 x2 x3
    obtain ⟨fuel, HFU⟩ := nameIt (mu T00)
    go_wp2_with fail
    go_loopg [13, 15, 16, 17, 18] (fuel + 1) (fun gg v13 v15 v16 v17 v18 wr => ∃ (b : Bool) (T : Tb), v13 = .bool b ∧ Hid (MTH W gt N st (.slice ga kn gcap) (.slice pa n lk) fb bk hi bb ra rb l T wr) ∧ Hid (INV T) ∧ Hid (b = true → mu T + 1 ≤ gg) ∧ Hid (b = false → ClosedG g.rules RV n T))
    case atStart => exact ⟨true, _, rfl, HMT, HSTART.out, fun _ => by rw [HFU.out]; exact Nat.le_refl _, fun e => by cases e⟩
    case round =>
      clear HMT HFU fuel
      obtain ⟨b, T0, rfl, HMT, HIN, HLE, HCL⟩ := hrel
      obtain ⟨wo, rfl⟩ : ∃ wo : World, wo = wr := ⟨_, rfl⟩
      cases b with
      | false =>
        have hval := HVAL.out T0 HIN.out (HCL.out rfl)
        have hbt := HMT.out.bt
        have hfm := HMT.out.fm.box
        have t0 := hbt.top st hsN
        have t1 := hbt.mid st hsN 0 (by omega)
        obtain ⟨ac, mc, kc, hgc, hvc⟩ := (hbt.row st hsN 0 (by omega)).get (j := n) (by rw [HNN.out]; omega)
        have hrl := (hbt.row st hsN 0 (by omega)).lt
        obtain ⟨n1, HN1⟩ := nameIt (n + 1)
        rw [HNN.out, HN1.out] at t0 t1
        rw [hval] at hgc hvc
        obtain ⟨A, HA⟩ := nameIt (ra st)
        obtain ⟨B, HBB⟩ := nameIt (rb st 0)
        rw [HA.out] at t0 t1
        rw [HBB.out] at t1 hgc hrl
        obtain ⟨-, -, -, -, -, s5⟩ := bx_cells6 hfm
        obtain ⟨g0, g1, g2, g3⟩ := bx_cells4 HMT.out.gbox
        obtain ⟨v0, v1, v2⟩ := hgc wo rfl
        have hsN' : (st : Int) < (N : Int) := by omega
        have hn1' : (n : Int) < (n1 : Int) := by have := HN1.out; omega
        have hn10 : (0 : Int) < (n1 : Int) := by omega
        have hn1z : ¬ n1 = 0 := by omega
        have HVC := Lib.hid hvc
        have i0 := aft_cell s5
        have i1 := aft_cell g2
        have i2 := aft_cell t0
        have i3 := aft_cell t1
        have i4 := aft_cell v0
        have i5 := aft_cell v1
        have i6 := aft_cell v2
        clear hbt hfm t0 t1 hgc hvc hrl s5 g0 g1 g2 g3 v0 v1 v2 hval
        go_upto_region 34 with fail
        refine wp_region_after_tail 14 (by kernel_rfl) (by kernel_rfl) ?_
        simp only [List.take_succ_cons, List.take_zero, List.drop_succ_cons, List.drop_zero]
        repeat (go_big_quiet_step (fail))
        refine wpQuiet_nil ?_
        rintro w9 ⟨⟨_, hb9⟩, rfl⟩
        clear i0 i1 i2 i3 i4 i5 i6
        have HMT9 := Lib.hid (HMT.out.keep hb9)
        obtain ⟨z0, z1, z2⟩ := bx_cells3 HMT9.out.out
        obtain ⟨f0, f1, f2⟩ := bx_free3 HMT9.out.out
        have hg := grown_cell3 w9 (W.heap.size + 1) (.int .i64 (oN cvo)) (.slice ac mc kc) (.bool cvo.isSome)
        have hfw := HFBW.out
        have HE := Lib.hid (HFIN.out _ _ (((HVC.out.below hb9).grown hg (fun k e h => by cases e; have h2 := h.1; omega)).mono (P' := fun k => W.heap.size ≤ k) (fun k h _ => by have h2 : fb < k := h.1; show W.heap.size ≤ k; omega)) (HMT9.out.bel.grown hg HMT9.out.bel.size (fun k e => by cases e; omega)))
        clear hb9 hg hfw
        go_wp2_with fail
        refine bodyPost_ret (v := .agg #[.int .i64 (oN cvo), .slice ac mc kc, .bool cvo.isSome]) (by simp [results, Try.results50, go_sem, z0, z1, z2]) rfl ?_
        exact HE.out
      | true =>
        obtain ⟨m0, HM0⟩ := nameIt (mu T0)
        have hgg : m0 + 1 ≤ gk := by have := HLE.out rfl; rw [HM0.out] at this; exact this
        have HST0 : Hid (StG g.rules RV n INV mu m0 0 0 false T0) := by rw [← HM0.out]; exact StG.begin HIN.out
        obtain ⟨g0, g1, g2, g3⟩ := bx_cells4 HMT.out.gbox
        clear HLE HCL HIN HM0
        go_wp2_with fail
        go_loopg [13, 15, 16, 17, 18, 104] kn (fun gg v13 v15 v16 v17 v18 v104 wr => ∃ (a : Nat) (b : Bool) (T : Tb), a ≤ kn ∧ kn - a ≤ gg ∧ v13 = .bool b ∧ v104 = .int .i64 (a : Nat) ∧ Hid (StG g.rules RV n INV mu m0 a 0 b T) ∧ Hid (MTH W gt N st (.slice ga kn gcap) (.slice pa n lk) fb bk hi bb ra rb l T wr))
        case atStart => exact ⟨0, false, T0, by omega, by omega, rfl, rfl, HST0, HMT⟩
        case round =>
          clear HMT HST0 g0 g1 g2 g3 T0 wo
          obtain ⟨a, b, T0, hakn, hgg2, rfl, rfl, HST, HMT⟩ := hrel
          obtain ⟨w6, rfl⟩ : ∃ wo : World, wo = wr := ⟨_, rfl⟩
          by_cases hlt : a < kn
          · have haK : a < g.rules.length := by rw [HKN.out]; exact hlt
            have hlt' : (a : Int) < (kn : Int) := by omega
            obtain ⟨r, HR⟩ := nameIt (g.rules[a]'haK)
            have HRA : Hid (g.rules[a]? = some r) := by show _ = _; rw [List.getElem?_eq_getElem haK, HR.out]
            have hrm : r ∈ g.rules := by rw [← HR.out]; exact List.getElem_mem haK
            have HRM := Lib.hid hrm
            have HRK := Lib.hid (HKO.out r hrm)
            obtain ⟨gb0, go0, rsv, hga, -, -, e0, e1, hrr⟩ := (HGR.out.below HMT.out.bel).rule_at haK
            rw [HR.out] at e0 hrr
            obtain ⟨rsa, rsk, hrf, hrc1, hrc2⟩ := hrr.form
            rw [List.length_map] at hrf hrc1
            subst hrf
            obtain ⟨rn, HRN⟩ := nameIt r.right.length
            rw [HRN.out] at hrr hrc1 e1
            unfold maxLen at hrc2
            obtain ⟨la, hla⟩ : ∃ la : Nat, r.left = (la : Int) := ⟨r.left.toNat, by have := HRK.out.1; omega⟩
            have hlaN : la < N := by have := HRK.out.2.1; omega
            have HLA := Lib.hid hla
            rw [hla] at e0
            obtain ⟨w7, HW7⟩ := nameIt (w6.alloc (.cells #[.int .i64 (la : Int), .slice rsa rn rsk] 69))
            have hw7 : Below w6.heap.size w6 w7 := by rw [← HW7.out]; exact (Below.refl _ _).alloc (Nat.le_refl _) _
            have HRB7 : Hid (w7.heap[w6.heap.size]? = some (.cells #[.int .i64 (la : Int), .slice rsa rn rsk] 69 (0, 0))) := by rw [← HW7.out]; exact bx_new _ _ _ rfl
            have HRR7 := Lib.hid (hrr.below hw7)
            have HMT7 := Lib.hid (HMT.out.keep hw7)
            have HB16L : Hid (hi ≤ w6.heap.size) := HMT.out.le
            obtain ⟨b16, HB16⟩ := nameIt w6.heap.size
            rw [HB16.out] at HRB7 HB16L
            subst hga
            have hwn1 : IntKind.i64.wrap ((n : Int) + 1) = ((n + 1 : Nat) : Int) := by rw [IntWalk.i64_in _ (by omega)]; omega
            obtain ⟨n1, HN1⟩ := nameIt (n + 1)
            rw [HN1.out] at hwn1
            clear hrr hw7 hrm hla
            go_upto_region 23 with fail
            rw [HW7.out, HB16.out]
            clear HW7 HB16 e0 e1
            go_wp2_with fail
            go_loopg [13, 16, 17, 18, 111] (n + 1) (fun gg v13 v16 v17 v18 v111 wr => ∃ (i : Nat) (b : Bool) (T : Tb), i ≤ n + 1 ∧ n + 1 - i ≤ gg ∧ v13 = .bool b ∧ v111 = .int .i64 (i : Nat) ∧ Hid (StG g.rules RV n INV mu m0 a i b T) ∧ Hid (MTH W gt N st (.slice (some ⟨gb0, go0, none⟩) kn gcap) (.slice pa n lk) fb bk hi bb ra rb l T wr) ∧ Hid (wr.heap[b16]? = some (.cells #[.int .i64 (la : Int), .slice rsa rn rsk] 69 (0, 0))) ∧ Hid (Rd (fun k => k < W.heap.size) wr (.sl (r.right.map Sym.d)) [.slice rsa rn rsk]))
            case atStart => exact ⟨0, b, T0, by omega, by omega, rfl, rfl, HST, HMT7, HRB7, HRR7⟩
            case round =>
              clear HST HMT HMT7 HRB7 HRR7 w6 w7 T0 b
              obtain ⟨i, b, T0, hin1, hgg3, rfl, rfl, HST, HMT, HRB, HRR⟩ := hrel
              obtain ⟨w6, rfl⟩ : ∃ wo : World, wo = wr := ⟨_, rfl⟩
              by_cases hin : i ≤ n
              · have hin' : (i : Int) < (n1 : Int) := by have := HN1.out; omega
                have hsb := HSYMB.out T0 HST.out.inv r HRM.out
                have hru := hruleE fb gt N st (.slice (some ⟨gb0, go0, none⟩) kn gcap) (.slice pa n lk) sv HSV.out l (by rw [HNN.out]; exact hl) (fun k => (fb < k ∧ ∀ a i, a < N → i ≤ l.length → k ≠ rb a i) ∧ k < w6.heap.size) 0 bb ra rb N bk (by omega) T0 M hM r (HKS.out r HRM.out) (HR4.out r HRM.out) hsb i (by rw [HNN.out]; exact hin) w6 HMT.out.fm (HMT.out.bt.mono (fun k hk hl => ⟨hk, hl⟩) (fun a i ha hi' h => h.1.2 a i ha hi' rfl)) (fun k hk => hk.2) (.slice rsa rn rsk) HRR.out.any
                rw [HRV0.out] at hru
                clear hsb
                rw [HLA.out, HNN.out, HN1.out] at hru
                have HRU := Lib.hid hru
                obtain ⟨z0, z1⟩ := bx_cells2 HRB.out
                clear hru
                go_wp2_with fail
                refine HRU.out.mono ?_
                rintro e w8 ⟨gr, rfl, hgr, hrow, hb8⟩
                have HROW : Hid (HRow (fun k => (fb < k ∧ ∀ a i, a < N → i ≤ l.length → k ≠ rb a i)) gr n1 (RV T0 r i) w8) := hrow.mono (fun k hk _ => by
                  have hle := HMT.out.le
                  rcases hk.1 with h | h
                  · exact ⟨h.1.1, fun a i ha hi' => h.1.2 a i ha (by rw [← HNN.out]; exact hi')⟩
                  · have h2 : w6.heap.size ≤ k := h
                    refine ⟨by have := HMT.out.fm.lt; omega, fun a i ha hi' => ?_⟩
                    have := (HMT.out.lt a i ha hi').1
                    omega)
                have HGRL : Hid (hi ≤ gr) := Nat.le_trans HMT.out.le hgr
                have HMT8 := Lib.hid (HMT.out.keep hb8)
                have HRB8 := Lib.hid (bx_keep HRB.out hb8)
                have HRR8 := Lib.hid (HRR.out.below hb8)
                have HSR : Hid (SrG g.rules RV n INV mu m0 a i T0 r 0 b) := SrG.begin HST.out r
                have HMT9 : Hid (MTH W gt N st (.slice (some ⟨gb0, go0, none⟩) kn gcap) (.slice pa n lk) fb bk hi bb ra rb l (rowG RV T0 r i 0) w8) := by rw [rowG_zero]; exact HMT8.out
                clear hrow hb8 hgr
                go_wp2_with fail
                go_loopg [13, 17, 18, 119] (n + 1) (fun gg v13 v17 v18 v119 wr => ∃ (j : Nat) (b : Bool), j ≤ n + 1 ∧ n + 1 - j ≤ gg ∧ v13 = .bool b ∧ v119 = .int .i64 (j : Nat) ∧ Hid (SrG g.rules RV n INV mu m0 a i T0 r j b) ∧ Hid (MTH W gt N st (.slice (some ⟨gb0, go0, none⟩) kn gcap) (.slice pa n lk) fb bk hi bb ra rb l (rowG RV T0 r i j) wr) ∧ Hid (wr.heap[b16]? = some (.cells #[.int .i64 (la : Int), .slice rsa rn rsk] 69 (0, 0))) ∧ Hid (Rd (fun k => k < W.heap.size) wr (.sl (r.right.map Sym.d)) [.slice rsa rn rsk]) ∧ Hid (HRow (fun k => (fb < k ∧ ∀ a i, a < N → i ≤ l.length → k ≠ rb a i)) gr n1 (RV T0 r i) wr))
                case atStart => exact ⟨0, b, by omega, by omega, rfl, rfl, HSR, HMT9, HRB8, HRR8, HROW⟩
                case round =>
                  clear HSR HMT HMT8 HMT9 HRB HRB8 HRR HRR8 HROW HRU HST z0 z1 w6 w8 b
                  obtain ⟨j, b, hjn1, hgg4, rfl, rfl, HSR, HMT, HRB, HRR, HROW⟩ := hrel
                  obtain ⟨w6, rfl⟩ : ∃ wo : World, wo = wr := ⟨_, rfl⟩
                  by_cases hjn : j ≤ n
                  · have hjn' : (j : Int) < (n1 : Int) := by have := HN1.out; omega
                    have hjn1n : j < n1 := by have := HN1.out; omega
                    have hin' : (i : Int) < (n1 : Int) := by have := HN1.out; omega
                    obtain ⟨ad, md, kd, hgd, hvd⟩ := HROW.out.get hjn1n
                    obtain ⟨rv, HRV⟩ := nameIt (RV T0 r i j)
                    rw [HRV.out] at hgd hvd
                    obtain ⟨d0, d1, d2⟩ := hgd w6 rfl
                    have hgrl := HROW.out.lt
                    obtain ⟨w7, HW7⟩ := nameIt (w6.alloc (.cells #[.int .i64 (oN rv), .slice ad md kd, .bool rv.isSome] 91))
                    have hw7 : Below w6.heap.size w6 w7 := by rw [← HW7.out]; exact (Below.refl _ _).alloc (Nat.le_refl _) _
                    have HX7 : Hid (w7.heap[w6.heap.size]? = some (.cells #[.int .i64 (oN rv), .slice ad md kd, .bool rv.isSome] 91 (0, 0))) := by rw [← HW7.out]; exact bx_new _ _ _ rfl
                    have HMT7 := Lib.hid (HMT.out.keep hw7)
                    have HRB7 := Lib.hid (bx_keep HRB.out hw7)
                    have HRR7 := Lib.hid (HRR.out.below hw7)
                    have HROW7 := Lib.hid (HROW.out.keep hw7)
                    have HVD := Lib.hid (hvd.below hw7)
                    have HB67 := Lib.hid hw7
                    obtain ⟨b19, HB19⟩ := nameIt w6.heap.size
                    rw [HB19.out] at HX7
                    have HN19 : Hid (hi ≤ b19 ∧ ¬ b19 = W.heap.size) := by
                      show _ ∧ _
                      rw [← HB19.out]
                      have h1 := HMT.out.le
                      have h2 := (HMT.out.lt la i hlaN (by rw [HNN.out]; exact hin)).1
                      have h3 := (HMT.out.lt la i hlaN (by rw [HNN.out]; exact hin)).2
                      have h4 := HFBW.out
                      exact ⟨h1, by omega⟩
                    go_upto_region 29 with fail
                    rw [HW7.out, HB19.out]
                    clear HW7 HB19 d0 d1 d2 hgd hvd hw7
                    have hbt := HMT7.out.bt
                    have hbx := HMT7.out.fm.box
                    have t0 := hbt.top la hlaN
                    have t1 := hbt.mid la hlaN i (by rw [HNN.out]; exact hin)
                    have hrw := hbt.row la hlaN i (by rw [HNN.out]; exact hin)
                    obtain ⟨ac, mc, kc, hgc, hvc⟩ := hrw.get (j := j) (by rw [HNN.out]; omega)
                    have hfr := hrw.free
                    rw [HNN.out, HN1.out] at t0 t1
                    obtain ⟨cv, HCV⟩ := nameIt (rowG RV T0 r i j (la : Int) i j)
                    rw [HCV.out] at hgc hvc
                    obtain ⟨A, HA⟩ := nameIt (ra la)
                    obtain ⟨B, HBB⟩ := nameIt (rb la i)
                    rw [HA.out] at t0 t1
                    rw [HBB.out] at t1 hgc hfr hrw
                    obtain ⟨p0, p1, p2⟩ := bx_cells3 HX7.out
                    obtain ⟨q0, q1⟩ := bx_cells2 HRB7.out
                    obtain ⟨-, -, -, -, -, s8⟩ := bx_cells6 hbx
                    obtain ⟨v0, v1, v2⟩ := hgc w7 rfl
                    have hlaN' : (la : Int) < (N : Int) := by omega
                    have hbet : betG RV T0 r i j = lessB rv cv := by
                      unfold betG
                      rw [HRV.out, ← HCV.out, ← HLA.out, rowG_at]
                    obtain ⟨bb2, HB2⟩ := nameIt (lessB rv cv)
                    have HBET : Hid (betG RV T0 r i j = bb2) := by show _ = _; rw [hbet, HB2.out]
                    have hrvb := HRVB.out T0 HSR.out.inv r HRM.out i j hin hjn
                    rw [HRV.out] at hrvb
                    have hcvb := HCELL.out T0 HSR.out.inv (la : Int) i j
                    rw [show T0 (la : Int) i j = cv by rw [← HCV.out, ← HLA.out]; exact rowG_at.symm] at hcvb
                    have HLS : Hid (∀ W', Below w7.heap.size w7 W' → Calls Try.prog 91 #[.agg #[.int .i64 (oN rv), .slice ad md kd, .bool rv.isSome], .agg #[.int .i64 (oN cv), .slice ac mc kc, .bool cv.isSome]] W' fun e w' => e = .returned (.bool bb2) ∧ Below W'.heap.size W' w') := by
                      intro W' hb'
                      have := hlessE _ _ rv cv _ _ W' (HVD.out.below hb') (hvc.below hb') hrvb.1 hcvb.1 hrvb.2 hcvb.2
                      rw [HB2.out] at this
                      exact this
                    have i0 := aft_cell p0
                    have i1 := aft_cell p1
                    have i2 := aft_cell p2
                    have i4 := aft_cell q0
                    have i5 := aft_cell s8
                    have i6 := aft_cell t0
                    have i7 := aft_cell t1
                    have i8 := aft_cell v0
                    have i9 := aft_cell v1
                    have i10 := aft_cell v2
                    have HT0 := Lib.hid t0
                    have HT1 := Lib.hid t1
                    clear p0 p1 p2 q0 q1 s8 t0 t1 v0 v1 v2 hbt hbx hrw hgc hvc hfr hrvb hcvb hbet
                    refine wp_region_after (by kernel_rfl) (by kernel_rfl) ?_
                    repeat (go_big_quiet_step (with_reducible exact Calls.after (HLS.out _ (Aft.bel _))))
                    refine wpQuiet_nil ?_
                    rintro w8 ⟨⟨_, hb8⟩, rfl⟩
                    clear i0 i1 i2 i4 i5 i6 i7 i8 i9 i10
                    have HMT8 := Lib.hid (HMT7.out.keep hb8)
                    have HRB8 := Lib.hid (bx_keep HRB7.out hb8)
                    have HRR8 := Lib.hid (HRR7.out.below hb8)
                    have HROW8 := Lib.hid (HROW7.out.keep hb8)
                    have HX8 := Lib.hid (bx_keep HX7.out hb8)
                    have HVD8 := Lib.hid (HVD.out.below hb8)
                    have h80 := (hb8.cell (lt_of_cell HT0.out)).trans HT0.out
                    have h81 := (hb8.cell (lt_of_cell HT1.out)).trans HT1.out
                    clear hb8
                    cases bb2 with
                    | false =>
                      have HSR2 := Lib.hid (HSR.out.no HBET.out)
                      have HMT9 : Hid (MTH W gt N st (.slice (some ⟨gb0, go0, none⟩) kn gcap) (.slice pa n lk) fb bk hi bb ra rb l (rowG RV T0 r i (j + 1)) w8) := by rw [rowG_no HBET.out]; exact HMT8.out
                      clear h80 h81
                      go_wp2_with fail
                      go_roundg (n + 1 - (j + 1))
                      case measure => omega
                      case rel => exact ⟨j + 1, b, by omega, by omega, rfl, by go_num, HSR2, HMT9, HRB8, HRR8, HROW8⟩
                    | true =>
                      have HSR2 := Lib.hid (HSR.out.yes HPL.out HRA.out hin hjn HBET.out)
                      have hbx := HMT8.out.fm.box
                      obtain ⟨-, -, -, -, -, s8⟩ := bx_cells6 hbx
                      obtain ⟨p0, p1, p2⟩ := bx_cells3 HX8.out
                      obtain ⟨q0, q1⟩ := bx_cells2 HRB8.out
                      have i0 := aft_cell p0
                      have i1 := aft_cell p1
                      have i2 := aft_cell p2
                      have i4 := aft_cell q0
                      have i5 := aft_cell s8
                      have i6 := aft_cell h80
                      have i7 := aft_cell h81
                      have hin1 : (i : Int) < (n1 : Int) := by have := HN1.out; omega
                      clear p0 p1 p2 q0 q1 s8 h80 h81 hbx
                      go_upto_region 30 with fail
                      refine wp_region_after_tail 14 (by kernel_rfl) (by kernel_rfl) ?_
                      simp only [List.take_succ_cons, List.take_zero, List.drop_succ_cons, List.drop_zero]
                      repeat (go_big_quiet_step (fail))
                      refine wpQuiet_nil ?_
                      rintro w9 ⟨⟨_, hb9⟩, rfl⟩
                      clear i0 i1 i2 i4 i5 i6 i7
                      have HMT9 := Lib.hid (HMT8.out.keep hb9)
                      have HROW9 := Lib.hid (HROW8.out.keep hb9)
                      have HRR9 := Lib.hid (HRR8.out.below hb9)
                      have HRB9 := Lib.hid (bx_keep HRB8.out hb9)
                      have hvd9 := HVD8.out.below hb9
                      obtain ⟨u', eu, hrd⟩ := hvd9
                      simp at eu
                      subst eu
                      have hrow9 := HMT9.out.bt.row la hlaN i (by rw [HNN.out]; exact hin)
                      have hfr := hrow9.free
                      obtain ⟨ae, me, ke, hge, -⟩ := hrow9.get (j := j) (by rw [HNN.out]; omega)
                      obtain ⟨v0, v1, v2⟩ := hge w9 rfl
                      rw [HBB.out] at hfr v0 v1 v2
                      have f0 := hfr (j * 3)
                      have f1 := hfr (j * 3 + 1)
                      have f2 := hfr (j * 3 + 2)
                      obtain ⟨hl1, hl2⟩ := HMT9.out.lt la i hlaN (by rw [HNN.out]; exact hin)
                      have hset := HMT9.out.set HFBW.out hlaN (by rw [HNN.out]; exact hin) (by rw [HNN.out]; exact hjn) hrd
                      have hgrow := grown_cellsAt3 w9 (rb la i) (j * 3) (j * 3 + 1) (j * 3 + 2) (.int .i64 (oN rv)) (.slice ad md kd) (.bool rv.isSome)
                      have HMTA : Hid (MTH W gt N st (.slice (some ⟨gb0, go0, none⟩) kn gcap) (.slice pa n lk) fb bk hi bb ra rb l (rowG RV T0 r i (j + 1)) (((w9.setCell ⟨B, j * 3, none⟩ (.int .i64 (oN rv))).setCell ⟨B, j * 3 + 1, none⟩ (.slice ad md kd)).setCell ⟨B, j * 3 + 2, none⟩ (.bool rv.isSome))) := by
                        rw [rowG_yes HBET.out, HRV.out, HLA.out, ← HBB.out]
                        exact hset
                      rw [HBB.out] at hgrow hl1 hl2
                      have hfbw := HFBW.out
                      have hgl := HROW9.out.lt
                      have HROWA := Lib.hid (HROW9.out.grown hgrow (by have := HGRL.out; simp; omega) (fun k e h => by cases e; exact h.2 la i hlaN (by rw [HNN.out]; exact hin) HBB.out.symm))
                      have HRRA := Lib.hid (rd_grown HRR9.out hgrow (fun k e h => by cases e; have h2 : B < W.heap.size := h; omega))
                      have HRBA := Lib.hid ((hgrow.block b16 (Array.getElem?_eq_some_iff.1 HRB9.out).1 (by have := HB16L.out; simp; omega)).trans HRB9.out)
                      clear hb9 hrd hrow9 hfr hge hset hgrow hgl
                      go_wp2_with fail
                      go_roundg (n + 1 - (j + 1))
                      case measure => omega
                      case rel => exact ⟨j + 1, true, by omega, by omega, rfl, by go_num, HSR2, HMTA, HRBA, HRRA, HROWA⟩
                  · have hjn' : ¬ (j : Int) < (n1 : Int) := by have := HN1.out; omega
                    obtain rfl : j = n + 1 := by omega
                    have HST2 := Lib.hid (HSR.out.done HPL.out HRA.out hin)
                    go_wp2_with fail
                    go_roundg (n + 1 - (i + 1))
                    case measure => omega
                    case rel => exact ⟨i + 1, b, _, by omega, by omega, rfl, by go_num, HST2, HMT, HRB, HRR⟩
              · have hin' : ¬ (i : Int) < (n1 : Int) := by have := HN1.out; omega
                obtain rfl : i = n + 1 := by omega
                have HST2 := Lib.hid (HST.out.rule)
                clear HST
                go_wp2_with fail
                go_roundg (kn - (a + 1))
                case measure => omega
                case rel => exact ⟨a + 1, b, T0, by omega, by omega, rfl, by go_num, HST2, HMT⟩
          · have hlt' : ¬ (a : Int) < (kn : Int) := by omega
            have hae : a = g.rules.length := by have := HKN.out; omega
            have HST2 : Hid (StG g.rules RV n INV mu m0 g.rules.length 0 b T0) := by rw [← hae]; exact HST.out
            clear HST hae
            cases b with
            | true =>
              have hml := HST2.out.lt rfl
              go_wp2_with fail
              go_roundg (mu T0 + 1)
              case measure => omega
              case rel => exact ⟨true, T0, rfl, HMT, HST2.out.inv, fun _ => Nat.le_refl _, fun e => by cases e⟩
            | false =>
              go_wp2_with fail
              go_roundg 0
              case measure => omega
              case rel => exact ⟨false, T0, rfl, HMT, HST2.out.inv, (fun e => by cases e), fun _ => HST2.out.closed⟩
end Hl
end Go.Proofs.Ytjpmebppdcclbaa
namespace Go.Proofs.Ytjpmebppdcclbaa
open Go.RowKit
namespace Hl
open Rp Al
section
variable {g : Gram} {N tm : Nat} {V : Sym → Nat → Nat → Option Val}
set_option maxHeartbeats 8000000 in
set_option maxRecDepth 100000 in
theorem lenE (hck : checkG g = 0) (hok : Cs.OkC g N) (hK : KG N g.rules (okS N tm)) (hr4 : ∀ r ∈ g.rules, r.right.length ≤ 4) (hV : VO leafS emS 0 g.rules (okS N tm) (GS tm) V) (hVc : Closed g.rules (clL leafS 0) (clE emS 0) (clV 0 V)) (ra : Option Addr) (rcap : Nat) (w : World) (hr : Rd AnyB w (.sl (g.rules.map Rule.d)) [.slice ra g.rules.length rcap]) :
    LenC g (.slice ra g.rules.length rcap) (fun y => V y 0 0) N w := by
  unfold LenC
  obtain ⟨w0, HW0⟩ := nameIt (w.alloc (.cells #[.int .i64 g.terms, .int .i64 g.nons, .int .i64 g.start, .slice ra g.rules.length rcap] 24))
  have hb0 : Below w.heap.size w w0 := by rw [← HW0.out]; exact (Below.refl _ _).alloc (Nat.le_refl _) _
  have X0 : Hid (w0.heap[w.heap.size]? = some (.cells #[.int .i64 g.terms, .int .i64 g.nons, .int .i64 g.start, .slice ra g.rules.length rcap] 24 (0, 0))) := by rw [← HW0.out]; exact bx_new _ _ _ rfl
  have hck0 := checkE g ra rcap w0 (hr.below hb0)
  rw [hck] at hck0
  have HCK := Lib.hid hck0
  have HLE : Hid (∀ W, Below w0.heap.size w0 W → Calls Try.prog 100 #[.agg #[.int .i64 g.terms, .int .i64 g.nons, .int .i64 g.start, .slice ra g.rules.length rcap]] W (Cs.LnPost g.rules N W)) := fun W hb => Cs.lengthsE g N hok hr4 ra rcap W (hr.below (hb0.trans (hb.mono hb0.size)))
  obtain ⟨PST, HP⟩ := nameIt (fun (e : Ending) (w' : World) => ∃ p, e = .returned (.tuple #[.slice (some ⟨p, 0, none⟩) N N, .int .i64 0]) ∧ Vrow 3 p N (fun A => .int .i64 (lenV (fun y => V y 0 0) A)) w' ∧ w.heap.size ≤ p ∧ Below w.heap.size w w')
  rw [HP.out]
  have HE2 : Hid (∀ (p : Nat) (X : Nat → Int) w', Vrow 3 p N (fun A => .int .i64 (X A)) w' → Cs.LeastV g.rules N X → w0.heap.size ≤ p → Below w0.heap.size w0 w' → PST (.returned (.tuple #[.slice (some ⟨p, 0, none⟩) N N, .int .i64 0])) w') := by
    intro p X w' h3 h4 h5 h6
    rw [← HP.out]
    have hL := leastX hK h4
    exact ⟨p, rfl, h3.eq (fun A hA => by rw [← sv_len hL hV hVc hA]; rfl), Nat.le_trans hb0.size h5, hb0.trans (h6.mono hb0.size)⟩
  obtain ⟨gt, HGT⟩ := nameIt g.terms
  obtain ⟨gn, HGN⟩ := nameIt g.nons
  obtain ⟨gs, HGS⟩ := nameIt g.start
  obtain ⟨rl, HRL⟩ := nameIt g.rules.length
  rw [HGT.out, HGN.out, HGS.out, HRL.out] at HW0 X0 HCK HLE
  rw [HGT.out, HGN.out, HGS.out, HRL.out]
  obtain ⟨x0, x1, x2, x3⟩ := bx_cells4 X0.out
  clear hb0 hr HP hck0 hck hok hK hr4 hV hVc
  go_enter Try.func79, Try.ntmps79
  go_upto_region 1 with fail
  rw [HW0.out]
  go_wp2_with fail
  with_reducible refine HCK.out.mono ?_
  clear x0 x1 x2 x3
  rintro e w1 ⟨rfl, hb1⟩
  have X1 := Lib.hid (bx_keep X0.out hb1)
  have HB1 := Lib.hid hb1
  obtain ⟨x0, x1, x2, x3⟩ := bx_cells4 X1.out
  have HL1 := Lib.hid (HLE.out w1 HB1.out)
  clear hb1 HLE
  go_wp2_with fail
  with_reducible refine HL1.out.mono ?_
  rintro e w2 ⟨p, X, rfl, hv, hl, hp, hb2⟩
  have HF := Lib.hid (HE2.out p X w2 hv hl (Nat.le_trans HB1.out.size hp) (HB1.out.trans (hb2.mono HB1.out.size)))
  clear hv hl hp hb2 x0 x1 x2 x3
  go_wp2_with fail
  first | exact HF.out | (refine bodyPost_ret (results_tmp2 Try.results79 _ _ _) rfl ?_; exact HF.out)
set_option maxHeartbeats 8000000 in
set_option maxRecDepth 100000 in
theorem lstE (hck : checkG g = 0) (hok : Cs.OkC g N) (hK : KG N g.rules (okS N tm)) (hr4 : ∀ r ∈ g.rules, r.right.length ≤ 4) (hV : VO leafS emS 0 g.rules (okS N tm) (GS tm) V) (hVc : Closed g.rules (clL leafS 0) (clE emS 0) (clV 0 V)) (a : Nat) (v : Val) (ha : a < N) (hv : V ⟨false, (a : Int)⟩ 0 0 = some v) (ra : Option Addr) (rcap : Nat) (w : World) (hr : Rd AnyB w (.sl (g.rules.map Rule.d)) [.slice ra g.rules.length rcap]) :
    LstC g (.slice ra g.rules.length rcap) a v w := by
  unfold LstC
  have hwf := hV.1 _ _ _ _ hv
  obtain ⟨w0, HW0⟩ := nameIt (w.alloc (.cells #[.int .i64 g.terms, .int .i64 g.nons, .int .i64 g.start, .slice ra g.rules.length rcap] 24))
  have hb0 : Below w.heap.size w w0 := by rw [← HW0.out]; exact (Below.refl _ _).alloc (Nat.le_refl _) _
  have X0 : Hid (w0.heap[w.heap.size]? = some (.cells #[.int .i64 g.terms, .int .i64 g.nons, .int .i64 g.start, .slice ra g.rules.length rcap] 24 (0, 0))) := by rw [← HW0.out]; exact bx_new _ _ _ rfl
  have hck0 := checkE g ra rcap w0 (hr.below hb0)
  rw [hck] at hck0
  have HCK := Lib.hid hck0
  have HLE : Hid (∀ W, Below w0.heap.size w0 W → Calls Try.prog 100 #[.agg #[.int .i64 g.terms, .int .i64 g.nons, .int .i64 g.start, .slice ra g.rules.length rcap]] W (Cs.LnPost g.rules N W)) := fun W hb => Cs.lengthsE g N hok hr4 ra rcap W (hr.below (hb0.trans (hb.mono hb0.size)))
  have HWD : Hid (∀ W px (X : Nat → Int), Below w0.heap.size w0 W → Cs.LeastV g.rules N X → Vrow 3 px N (fun A => .int .i64 (X A)) W → Calls Try.prog 107 #[.agg #[.int .i64 g.terms, .int .i64 g.nons, .int .i64 g.start, .slice ra g.rules.length rcap], .slice (some ⟨px, 0, none⟩) N N] W (WdPost g.rules N tm X W)) := fun W px X hb h1 h2 =>
    wordsE g N hok.nons hok.n1 hok.n2 tm X hK hr4 (leastX hK h1) px ra rcap W (hr.below (hb0.trans (hb.mono hb0.size))) h2
  have HLX : Hid (∀ X : Nat → Int, Cs.LeastV g.rules N X → X a = (v.n : Int)) := by
    intro X h
    have := sv_len (leastX hK h) hV hVc ha
    rw [hv] at this
    exact this.symm
  have HVW : Hid (∀ (X : Nat → Int) (Tw : Nat → Option (List Int)), Cs.LeastV g.rules N X → WInv g.rules N tm X Tw → ClosedW g.rules X Tw → v.n ≤ 2000 → (Tw a).getD [] = v.w) := by
    intro X Tw h1 h2 h3 h4
    have h5 := sv_words (leastX hK h1) hK h2 h3 hV hVc ⟨false, (a : Int)⟩
    have h6 := HLX.out X h1
    rw [hv] at h5
    unfold VU at h5
    simp only [Bool.false_eq_true, if_false] at h5
    rw [show ((a : Int)).toNat = a by omega] at h5
    rw [if_pos ⟨by omega, by omega, by omega⟩, if_pos (by omega)] at h5
    have := Option.some.inj h5
    rw [this]
  obtain ⟨vn, HVN⟩ := nameIt v.n
  obtain ⟨vw, HVWN⟩ := nameIt v.w
  rw [HVN.out] at HLX HVW
  rw [HVWN.out] at HVW
  have HLW : Hid ((vn ≤ 2000 → vw.length ≤ 2000) ∧ (2000 < vn → vw = [])) := by
    show _ ∧ _
    rw [← HVN.out, ← HVWN.out]
    rcases hwf with ⟨h1, h2⟩ | ⟨h1, h2⟩
    · unfold maxL at h1; exact ⟨fun _ => by omega, fun h => by omega⟩
    · unfold maxL at h1; exact ⟨fun h => by omega, fun _ => h2⟩
  obtain ⟨PST, HP⟩ := nameIt (fun (e : Ending) (w' : World) => ∃ u z, e = .returned (.tuple #[u, .int .i64 z]) ∧ Rd (fun k => w.heap.size ≤ k) w' (D.ints vw) [u] ∧ Below w.heap.size w w')
  rw [HVWN.out, HP.out]
  have HE : Hid (∀ u z w', Rd (fun k => w0.heap.size ≤ k) w' (D.ints vw) [u] → Below w0.heap.size w0 w' → PST (.returned (.tuple #[u, .int .i64 z])) w') := by
    intro u z w' h1 h2
    rw [← HP.out]
    exact ⟨u, z, rfl, h1.mono (fun k hk _ => Nat.le_trans hb0.size hk), hb0.trans (h2.mono hb0.size)⟩
  have hgn := hok.nons
  obtain ⟨gt, HGT⟩ := nameIt g.terms
  obtain ⟨gs, HGS⟩ := nameIt g.start
  obtain ⟨rl, HRL⟩ := nameIt g.rules.length
  rw [HGT.out, hgn, HGS.out, HRL.out] at HW0 X0 HCK HLE HWD
  rw [HGT.out, hgn, HGS.out, HRL.out]
  obtain ⟨x0, x1, x2, x3⟩ := bx_cells4 X0.out
  have ha' : (a : Int) < (N : Int) := by omega
  have hlt0 : ((a : Int) < 0) = False := by simp
  have hge : decide ((N : Int) ≤ (a : Int)) = false := decide_eq_false (by omega)
  clear hb0 hr HP hck0 hck hok hK hr4 hV hVc hv hwf hgn
  go_enter Try.func89, Try.ntmps89
  go_upto_region 1 with fail
  rw [HW0.out]
  go_wp2_with fail
  with_reducible refine HCK.out.mono ?_
  clear x0 x1 x2 x3
  rintro e w1 ⟨rfl, hb1⟩
  have X1 := Lib.hid (bx_keep X0.out hb1)
  have HB1 := Lib.hid hb1
  obtain ⟨x0, x1, x2, x3⟩ := bx_cells4 X1.out
  have HL1 := Lib.hid (HLE.out w1 HB1.out)
  clear hb1 HLE
  go_wp2_with fail
  with_reducible refine HL1.out.mono ?_
  rintro e w2 ⟨p, X, rfl, hv, hl, hp, hb2⟩
  have HB2 := Lib.hid (HB1.out.trans (hb2.mono HB1.out.size))
  have X2 := Lib.hid (bx_keep X1.out hb2)
  have HXA := Lib.hid (HLX.out X hl)
  have HV2 := Lib.hid hv
  have HL2 := Lib.hid hl
  have v0 := hv.cell ha
  rw [HXA.out] at v0
  have hn0 : decide ((vn : Int) < 0) = false := decide_eq_false (by omega)
  clear hv hl hp hb2 x0 x1 x2 x3
  by_cases hbig : 2000 < vn
  · have hbig' : (2000 : Int) < (vn : Int) := by omega
    have HF := Lib.hid (HE.out (.slice none 0 0) 2 w2 (by rw [HLW.out.2 hbig]; exact rd_nil _ _) HB2.out)
    go_wp2_with fail
    first | exact HF.out | (refine bodyPost_ret (results_tmp2 Try.results89 _ _ _) rfl ?_; exact HF.out)
  · have hbig' : ¬ (2000 : Int) < (vn : Int) := by omega
    obtain ⟨x0, x1, x2, x3⟩ := bx_cells4 X2.out
    have HW2 := Lib.hid (HWD.out w2 p X HB2.out HL2.out HV2.out)
    go_wp2_with fail
    with_reducible refine HW2.out.mono ?_
    rintro e w3 ⟨po, pk, Tw, rfl, hwi, hcw, G0, hwt⟩
    have HB3 : Hid (Below w0.heap.size w0 w3) := HB2.out.trans (hwt.bel.mono HB2.out.size)
    obtain ⟨ao, ko, oc, hord⟩ := hwt.word ha
    have hvw := HVW.out X Tw HL2.out hwi hcw (by omega)
    rw [hvw] at oc hord
    obtain ⟨ul, HUL⟩ := nameIt vw.length
    rw [HUL.out] at oc hord
    have HCL : Hid (Calls Try.prog 31 #[.slice ao ul ko] w3 (NewInts vw w3)) := clone_int _ _ w3 (sl_rd hord) (by have := HLW.out.1 (by omega); omega)
    clear hwi hcw hwt hord hvw x0 x1 x2 x3 v0
    go_wp2_with fail
    with_reducible refine HCL.out.mono ?_
    rintro e w4 ⟨ac, kc, rfl, ho, hb4⟩
    have HF := Lib.hid (HE.out (.slice ac vw.length kc) 0 w4 ((rd_own rfl ho).mono (fun k hk _ => by
      have h2 : w3.heap.size ≤ k := hk
      have h3 := HB3.out.size
      show w0.heap.size ≤ k
      omega)) (HB3.out.trans (hb4.mono HB3.out.size)))
    rw [HUL.out] at HF ⊢
    clear ho hb4
    go_wp2_with fail
    first | exact HF.out | (refine bodyPost_ret (results_tmp2 Try.results89 _ _ _) rfl ?_; exact HF.out)
end
end Hl
end Go.Proofs.Ytjpmebppdcclbaa
namespace Go.Proofs.Ytjpmebppdcclbaa
open Go.RowKit
namespace Ho
open Rp Hl Al
open Ht hiding D
def bls (l : List Bool) : List Value := l.map Value.bool
theorem elBl : ElemT Try.prog 54 4 1 1 := ElemT.mk' (z := .bool false) Try.underlying54 (by kernel_rfl) rfl (by decide)
def endsL (hw : Sym → Bool) (k : Nat) : List Bool := (List.range k).map fun a : Nat => hw ⟨false, (a : Int)⟩
theorem endsL_succ (hw : Sym → Bool) (k : Nat) : endsL hw (k + 1) = endsL hw k ++ [hw ⟨false, (k : Int)⟩] := by
  unfold endsL
  rw [List.range_succ, List.map_append]; rfl
theorem endsL_len (hw : Sym → Bool) (k : Nat) : (endsL hw k).length = k := by simp [endsL]
def EndsPost (hw : Sym → Bool) (N : Nat) (W : World) (e : Ending) (w' : World) : Prop :=
  ∃ v, e = .returned (.tuple #[v, .int .i64 0]) ∧ w'.ownsRow W.heap.size 4 1 v N (bls (endsL hw N)) ∧ Below W.heap.size W w'
set_option maxHeartbeats 8000000 in
set_option maxRecDepth 100000 in
theorem endsE (g : Gram) (N : Nat) (hN : N ≤ 10) (sv : Sym → Option Val) (hw : Sym → Bool) (hhw : ∀ y, hw y = (sv y).isSome) (gr : Value) (W : World) (hl : ∀ W', Below W.heap.size W W' → LenC g gr sv N W') :
    Calls Try.prog 43 #[.agg #[.int .i64 g.terms, .int .i64 g.nons, .int .i64 g.start, gr]] W (EndsPost hw N W) := by
  unfold LenC at hl
  obtain ⟨w0, HW0⟩ := nameIt (W.alloc (.cells #[.int .i64 g.terms, .int .i64 g.nons, .int .i64 g.start, gr] 24))
  have hb0 : Below W.heap.size W w0 := by rw [← HW0.out]; exact (Below.refl _ _).alloc (Nat.le_refl _) _
  have X0 : Hid (w0.heap[W.heap.size]? = some (.cells #[.int .i64 g.terms, .int .i64 g.nons, .int .i64 g.start, gr] 24 (0, 0))) := by rw [← HW0.out]; exact bx_new _ _ _ rfl
  have HL0 := Lib.hid (hl w0 hb0)
  have HB0 := Lib.hid hb0
  obtain ⟨PST, HP⟩ := nameIt (EndsPost hw N W)
  have HFIN : Hid (∀ v w', w'.ownsRow W.heap.size 4 1 v N (bls (endsL hw N)) → Below W.heap.size W w' → PST (.returned (.tuple #[v, .int .i64 0])) w') := by
    intro v w' h1 h2
    rw [← HP.out]
    exact ⟨v, rfl, h1, h2⟩
  rw [HP.out]
  have HGE : Hid (∀ a : Nat, (∃ z : Int, lenV sv a = z ∧ decide (0 ≤ z) = hw ⟨false, (a : Int)⟩)) := by
    intro a
    refine ⟨_, rfl, ?_⟩
    rw [hhw]
    unfold lenV
    cases e : sv ⟨false, (a : Int)⟩ with
    | none => simp
    | some v => simp
  obtain ⟨gt, HGT⟩ := nameIt g.terms
  obtain ⟨gn, HGN⟩ := nameIt g.nons
  obtain ⟨gs, HGS⟩ := nameIt g.start
  rw [HGT.out, HGN.out, HGS.out] at HW0 X0 HL0
  rw [HGT.out, HGN.out, HGS.out]
  obtain ⟨x0, x1, x2, x3⟩ := bx_cells4 X0.out
  clear hb0 HP hl
  go_enter Try.func43, Try.ntmps43
  go_upto_region 1 with fail
  rw [HW0.out]
  clear HW0
  go_wp2_with fail
  refine HL0.out.mono ?_
  clear x0 x1 x2 x3
  rintro e w1 ⟨p, rfl, hv, hp, hb1⟩
  have HV := Lib.hid hv
  have HB1 : Hid (Below W.heap.size W w1) := HB0.out.trans (hb1.mono HB0.out.size)
  have HO0 : Hid (w1.ownsRow W.heap.size 4 1 (.slice none 0 0) 0 (bls (endsL hw 0))) := World.ownsRow_nil _ _ _ _
  clear hv hb1 hp
  go_wp2_with fail
  go_loopg [6, 8, 19] N (fun gg v6 v8 v19 wr => ∃ i : Nat, i ≤ N ∧ N - i ≤ gg ∧ v19 = .int .i64 (i : Int) ∧ Hid (Below w1.heap.size w1 wr) ∧ Hid (wr.ownsRow w1.heap.size 4 1 v6 i (bls (endsL hw i))))
  case atStart => exact ⟨0, by omega, by omega, rfl, Below.refl _ _, World.ownsRow_nil _ _ _ _⟩
  case round =>
    obtain ⟨i, hi, hg, rfl, HB, HO⟩ := hrel
    obtain ⟨a6, c6, rfl, -, -⟩ := own_len HO.out
    by_cases hlt : i < N
    · have hlt' : (i : Int) < (N : Int) := by omega
      have hc := (HV.out.keep HB.out).cell hlt
      obtain ⟨z, hz1, hz2⟩ := HGE.out i
      rw [hz1] at hc
      obtain ⟨b, HBN⟩ := nameIt (hw ⟨false, (i : Int)⟩)
      have hes := endsL_succ hw i
      rw [HBN.out] at hz2 hes
      have HES := Lib.hid hes
      have hsz := HB.out.size
      clear hz1 hes
      subst hz2
      go_wp2_with (at_builtin; refine wp_app1 elBl rfl _ _ rfl HO.out rfl rfl rfl rfl (by omega) (by unfold maxLen; omega) hsz ?_)
      intro v6 w6 ho6 hg6
      have HO6 : Hid (w6.ownsRow w1.heap.size 4 1 v6 (i + 1) (bls (endsL hw (i + 1)))) := by
        rw [HES.out]
        unfold bls at ho6 ⊢
        rw [List.map_append]
        exact ho6
      have HB6 : Hid (Below w1.heap.size w1 w6) := HB.out.grown hg6 hsz (fun k e => (HO.out.lt k e).1)
      clear ho6 hg6 hc
      go_wp2_with fail
      go_roundg (N - (i + 1))
      case measure => omega
      case rel => exact ⟨i + 1, by omega, by omega, by go_num, HB6, HO6⟩
    · have hlt' : ¬ (i : Int) < (N : Int) := by omega
      obtain rfl : i = N := by omega
      have HE := Lib.hid (HFIN.out _ wr (HO.out.mono HB1.out.size) (HB1.out.trans (HB.out.mono HB1.out.size)))
      go_wp2_with fail
      first | exact HE.out | (refine bodyPost_ret (results_tmp2 Try.results43 _ _ _) rfl ?_; exact HE.out)
end Ho
end Go.Proofs.Ytjpmebppdcclbaa
