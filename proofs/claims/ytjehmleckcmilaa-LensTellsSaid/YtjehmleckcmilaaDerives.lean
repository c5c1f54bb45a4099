/- The contract of approx.derives. -/
import Derived.Test.YtjehmleckcmilaaGrd
import Derived.Test.YtjehmleckcmilaaUnder
import Derived.Deep.DeepCutAuto
import Derived.StillTailTactics
import Derived.BigQuiet
namespace Go.Proofs.Ytjehmleckcmilaa
open Go.RowKit

/-- a still walk by the cheap steps of a quiet one -/
theorem still_of_quiet {P : Program} {ops : Array Oper} {w : World} {Q : Act → Prop} : ∀ (l : List Oper) (a : Act), wpQuiet P ops (fun W => W = w) Q l a → wpStill P ops w Q l a
  | [], _, h => h
  | o :: rest, a, h => by
    rw [wpQuiet] at h
    rw [wpStill]
    by_cases hw : Region.wanted o (yielded ops a.tmps) = true
    · rw [if_pos hw] at h ⊢
      obtain ⟨v, h1, h2⟩ := h
      have h3 := h1 w rfl
      have ih := still_of_quiet rest _ h2
      unfold Oper.quietAt at h3
      unfold Oper.still
      generalize (execOp a.eval o).run P w = res at h3 ⊢
      unfold Oper.quietUpon at h3
      unfold Oper.stillUpon
      split at h3
      · obtain ⟨rfl, rfl⟩ := h3; exact ⟨rfl, ih⟩
      · obtain ⟨rfl, rfl⟩ := h3; exact ⟨rfl, ih⟩
      · obtain ⟨rfl, h4⟩ := h3; exact ⟨rfl, v, h4, ih⟩
      · exact h3.elim
    · rw [if_neg hw] at h ⊢
      exact still_of_quiet rest _ h
abbrev BTab (B bt N hi : Nat) (rb : Nat → Nat) (val : Nat → Nat → Bool) (wr : World) : Prop := Grd 78 4 B bt N N hi rb (fun i j => .bool (val i j)) wr
def DerPost (g : Gram) (w : World) (e : Ending) (w' : World) : Prop :=
  ∃ bt rb, e = .returned (.slice (some ⟨bt, 0, none⟩) g.nons.toNat g.nons.toNat) ∧ BTab w.heap.size bt g.nons.toNat g.nons.toNat rb (fw (gEdges g) g.nons.toNat) w' ∧ Below w.heap.size w w'
structure DI (w : World) (bt N : Nat) (G : Array Value) (rb : Nat → Nat) (hi : Nat) (val : Nat → Nat → Bool) (wr : World) : Prop where
  tab : BTab (w.heap.size + 1) bt N hi rb val wr
  bel : Below w.heap.size w wr
  box : wr.heap[w.heap.size]? = some (.cells G 77 (0, 0))
section
variable {w : World} {bt N : Nat} {G : Array Value} {rb : Nat → Nat} {hi : Nat} {val val' : Nat → Nat → Bool} {wr w' : World}
theorem DI.keep (h : DI w bt N G rb hi val wr) (hb : Below wr.heap.size wr w') : DI w bt N G rb hi val w' := ⟨h.tab.keep hb, h.bel.trans (hb.mono h.bel.size), bx_keep h.box hb⟩
theorem DI.eq (h : DI w bt N G rb hi val wr) (he : ∀ i j, i < N → j < N → val i j = val' i j) : DI w bt N G rb hi val' wr := ⟨h.tab.eq (fun i j _ hi hj => by rw [he i j hi hj]), h.bel, h.box⟩
theorem DI.set (h : DI w bt N G rb N val wr) {i j : Nat} (hi : i < N) (hj : j < N) (x : Bool) (he : ∀ a b, a < N → b < N → val' a b = if a = i ∧ b = j then x else val a b) : DI w bt N G rb N val' (wr.setCell ⟨rb i, j, none⟩ (.bool x)) := by
  have hne := (h.tab.ne i hi hi).2
  refine ⟨(h.tab.set hi hi hj (.bool x)).eq (fun a b _ ha hb => ?_), h.bel.setCell (by show w.heap.size ≤ rb i; omega) _, bx_other h.box (by show w.heap.size ≠ rb i; omega) _ _⟩
  rw [he a b ha hb]
  split <;> rfl
end
/-- the table in the midst of round k -/
def mixV (E : List (Nat × Nat)) (k i j a b : Nat) : Bool := if a < i ∨ (a = i ∧ b < j) then fw E (k + 1) a b else fw E k a b
theorem mix_row (E : List (Nat × Nat)) (k i j a : Nat) : mixV E k i j a k = fw E k a k := by unfold mixV; split; exact fw_row k a; rfl
theorem mix_col (E : List (Nat × Nat)) (k i j b : Nat) : mixV E k i j k b = fw E k k b := by unfold mixV; split; exact fw_col k b; rfl
theorem mix_at (E : List (Nat × Nat)) (k i j : Nat) : mixV E k i j i j = fw E k i j := by unfold mixV; rw [if_neg (by omega)]
theorem mix_next (E : List (Nat × Nat)) (k i j a b : Nat) : mixV E k i (j + 1) a b = if a = i ∧ b = j then (fw E k i j || (fw E k i k && fw E k k j)) else mixV E k i j a b := by
  unfold mixV
  by_cases h : a = i ∧ b = j
  · rw [if_pos h, if_pos (by omega)]
    obtain ⟨rfl, rfl⟩ := h
    rfl
  · rw [if_neg h]
    by_cases h2 : a < i ∨ (a = i ∧ b < j)
    · rw [if_pos h2, if_pos (by omega)]
    · rw [if_neg h2, if_neg (by omega)]
theorem mix_line {E : List (Nat × Nat)} {k i j N a b : Nat} (hb : b < N) (hj : N ≤ j) : mixV E k i j a b = mixV E k (i + 1) 0 a b := by
  unfold mixV
  by_cases h : a < i + 1
  · rw [if_pos (by omega), if_pos (by omega)]
  · rw [if_neg (by omega), if_neg (by omega)]
theorem mix_start (E : List (Nat × Nat)) (k a b : Nat) : mixV E k 0 0 a b = fw E k a b := by unfold mixV; rw [if_neg (by omega)]
theorem mix_end {E : List (Nat × Nat)} {k i N a b : Nat} (ha : a < N) (hi : N ≤ i) : mixV E k i 0 a b = fw E (k + 1) a b := by unfold mixV; rw [if_pos (by omega)]
/-- the table behind some rules, and some symbols of the next one -/
def edV (K : List Rule) (j : Nat) (lf : Int) (R : List Sym) (q a b : Nat) : Bool := decide ((a, b) ∈ (K.take j).flatMap ruleEdges ++ (R.take q).filterMap (symEdge lf))
theorem edV_next {K : List Rule} {j : Nat} {lf : Int} {R : List Sym} {q : Nat} (h : q < R.length) (a b : Nat) : edV K j lf R (q + 1) a b = if ¬ R[q].term ∧ a = lf.toNat ∧ b = R[q].n.toNat then true else edV K j lf R q a b := by
  unfold edV
  rw [List.take_succ_eq_append_getElem h, List.filterMap_append]
  cases ht : R[q].term
  · by_cases h2 : a = lf.toNat ∧ b = R[q].n.toNat
    · obtain ⟨rfl, rfl⟩ := h2
      simp [symEdge, ht]
    · simp only [symEdge, ht, Bool.false_eq_true, not_false_eq_true, true_and, if_neg h2, List.filterMap_cons, if_false, List.filterMap_nil]
      rw [decide_eq_decide]
      simp only [List.mem_append, List.mem_singleton, Prod.mk.injEq, h2, or_false]
  · simp [symEdge, ht]
theorem edV_rule {K : List Rule} {j : Nat} (h : j < K.length) (lf : Int) (R : List Sym) (a b : Nat) : edV K j K[j].left K[j].right K[j].right.length a b = edV K (j + 1) lf R 0 a b := by
  unfold edV
  rw [List.take_length, List.take_succ_eq_append_getElem h, List.flatMap_append]
  simp [ruleEdges_eq]
theorem edV_any {K : List Rule} {j : Nat} (lf lf' : Int) (R R' : List Sym) (a b : Nat) : edV K j lf R 0 a b = edV K j lf' R' 0 a b := by simp [edV]
theorem edV_end {g : Gram} {j : Nat} (h : g.rules.length ≤ j) (lf : Int) (R : List Sym) (a b : Nat) : edV g.rules j lf R 0 a b = fw (gEdges g) 0 a b := by
  unfold edV
  rw [List.take_of_length_le h]
  simp [fw, gEdges]
end Go.Proofs.Ytjehmleckcmilaa
