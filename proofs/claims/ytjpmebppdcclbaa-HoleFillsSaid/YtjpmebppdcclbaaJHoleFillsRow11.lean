/- Plain: the measure of the rounds of useful.lengths; a least value is found (parlref5.Shortest). The least lengths and words of useful are the values of Shortest. The words that useful.words finds, in plain Lean: the values of Shortest. The contract of grid, of whole numbers. What parlref5.heights.row keeps. parlref5.heights in memory. copy between slices of elements of several cells, into a block that is known whole. slices.Repeat of one number, few times. useful.lengths: the least lengths. -/
import Derived.Test.YtjpmebppdcclbaaJHoleFillsRow10
import Derived.Test.YtjpmebppdcclbaaJHoleFillsRow6
import Derived.Deep.LoopGhost
import Derived.Deep.DeepCutAuto
import Derived.Test.YtjpmebppdcclbaaJHoleFillsRow3
import Derived.Test.YtjpmebppdcclbaaJHoleFillsRow9
import Derived.Test.YtjpmebppdcclbaaJHoleFillsRow5
import Derived.Test.YtjpmebppdcclbaaJHoleFillsRow2
import Derived.Test.YtjpmebppdcclbaaJHoleFillsRow1
import Derived.Laws.CopyRow
import Derived.Lib.Overlaps
import Derived.StillTailTactics
namespace Go.Proofs.Ytjpmebppdcclbaa
open Go.RowKit
namespace Cs

def muV (X : Nat → Int) (N : Nat) : Nat := sumN (fun A => if 0 ≤ X A then (X A).toNat else 2000000) N
section
variable {rules : List Rule} {X : Nat → Int} {N A : Nat} {v : Int}
theorem pow10 {m : Nat} (h : m ≤ 10) : 4 ^ m ≤ 1048576 := Nat.le_trans (Nat.pow_le_pow_right (by decide) h) (by decide)
theorem BdV.le (hb : BdV X N) (hN : N ≤ 10) (A : Nat) : X A ≤ 1048576 := by
  have h1 := hb.1 A
  have h2 := pow10 (m := nset X N) (Nat.le_trans nset_le hN)
  omega
theorem foldV_ge : ∀ (l : List Sym) (a : Int), -1 ≤ a → -1 ≤ l.foldl (stepV X) a
  | [], _, h => h
  | s :: l, a, h => by
    rw [List.foldl_cons]
    refine foldV_ge l _ ?_
    unfold stepV
    repeat (any_goals split)
    all_goals omega
theorem sum_ge (l : List Sym) : -1 ≤ sumV X l := foldV_ge l 0 (by omega)
theorem sum_bd (hb : BdV X N) {l : List Sym} (hl : l.length ≤ 4) : sumV X l ≤ 4 * ((4 ^ nset X N : Nat) : Int) := by
  have h1 : 1 ≤ 4 ^ nset X N := Nat.one_le_pow _ _ (by decide)
  have h2 := fold_bd (X := X) (M := ((4 ^ nset X N : Nat) : Int)) (by omega) hb.1 l 0
  unfold sumV
  have h3 : ((4 ^ nset X N : Nat) : Int) * (l.length : Int) ≤ ((4 ^ nset X N : Nat) : Int) * 4 := Int.mul_le_mul_of_nonneg_left (by omega) (by omega)
  have h4 : (if (0 : Int) ≤ 0 then (0 : Int) else 0) = 0 := rfl
  rw [h4] at h2
  omega
theorem sum_le (hb : BdV X N) (hN : N ≤ 10) {l : List Sym} (hl : l.length ≤ 4) : sumV X l ≤ 4194304 := by
  have h1 := sum_bd hb hl
  have h2 := pow10 (m := nset X N) (Nat.le_trans nset_le hN)
  omega
theorem mu_set (hN : N ≤ 10) (hA : A < N) (h0 : 0 ≤ v) (hv : v < X A ∨ (X A < 0 ∧ v ≤ 4 * ((4 ^ nset X N : Nat) : Int))) : muV (setV X A v) N < muV X N := by
  have hv2 : X A < 0 → v ≤ 1048576 := by
    intro hx
    have h1 := (nset_set (X := X) (N := N) hA h0).2 hx
    have h2 : nset (setV X A v) N ≤ N := nset_le
    have h3 := pow10 (m := nset X N + 1) (by omega)
    rw [Nat.pow_succ] at h3
    omega
  unfold muV
  have hs : ∀ i, i < N → (if 0 ≤ setV X A v i then (setV X A v i).toNat else 2000000) ≤ (if 0 ≤ X i then (X i).toNat else 2000000) := by
    intro i _
    unfold setV
    by_cases e : i = A
    · subst e
      rw [if_pos rfl, if_pos h0]
      by_cases hx : 0 ≤ X i
      · rw [if_pos hx]; omega
      · rw [if_neg hx]; have := hv2 (by omega); omega
    · rw [if_neg e]; exact Nat.le_refl _
  refine (sumN_lt_iff hs).2 ⟨A, hA, ?_⟩
  unfold setV
  rw [if_pos rfl, if_pos h0]
  by_cases hx : 0 ≤ X A
  · rw [if_pos hx]; omega
  · rw [if_neg hx]; have := hv2 (by omega); omega
theorem sound_start : SoundV rules (fun _ => -1) := fun _ => ⟨Int.le_refl _, fun h => absurd h (by show ¬ (0 : Int) ≤ -1; omega)⟩
theorem bd_start : BdV (fun _ => -1) N := ⟨fun _ => by show (-1 : Int) ≤ _; have : (0 : Int) ≤ ((4 ^ nset (fun _ => -1) N : Nat) : Int) := Int.natCast_nonneg _; omega, fun _ _ => rfl⟩
end
end Cs
end Go.Proofs.Ytjpmebppdcclbaa
namespace Go.Proofs.Ytjpmebppdcclbaa
namespace Hl
open Rp

/-- what the lengths are, by derivations -/
structure LeastX (K : List Rule) (N : Nat) (X : Nat → Int) : Prop where
  ge : ∀ A, A < N → -1 ≤ X A
  ex : ∀ A, A < N → 0 ≤ X A → ∃ v, DrG leafS emS 0 K ⟨false, (A : Int)⟩ 0 0 v ∧ (v.n : Int) = X A
  le : ∀ (A : Nat) v, A < N → DrG leafS emS 0 K ⟨false, (A : Int)⟩ 0 0 v → 0 ≤ X A ∧ X A ≤ (v.n : Int)
theorem clL_S {s : Sym} {v : Val} : clL leafS 0 s 0 0 = some v ↔ s.term = true ∧ v = ⟨0, 1, [s.n]⟩ := by
  unfold clL leafS
  rw [if_pos ⟨Nat.le_refl _, Nat.le_refl _⟩]
  cases s.term with
  | true => simp [eq_comm]
  | false => simp
section
variable {K : List Rule} {N tm : Nat}
theorem dr_term {h : Nat} {s : Sym} (ht : s.term = true) {v : Val} (hd : Dr K (clL leafS 0) (clE emS 0) h s 0 0 v) : v = ⟨0, 1, [s.n]⟩ := by
  cases h with
  | zero => exact (clL_S.1 hd).2
  | succ h =>
    rcases hd with hd | ⟨h1, _⟩
    · exact (clL_S.1 hd).2
    · rw [ht] at h1; cases h1
theorem dr_bnd {leaf : Sym → Nat → Nat → Option Val} {em : Nat → Nat → Option Val} {n : Nat} {K : List Rule} : ∀ (h : Nat) {s : Sym} {i j : Nat} {v : Val}, Dr K (clL leaf n) (clE em n) h s i j v → i ≤ j ∧ j ≤ n := by
  have hl : ∀ {s i j v}, clL leaf n s i j = some v → i ≤ j ∧ j ≤ n := by
    intro s i j v e
    unfold clL at e
    split at e
    · rename_i h; exact h
    · cases e
  have he : ∀ {i j v}, clE em n i j = some v → i ≤ j ∧ j ≤ n := by
    intro i j v e
    unfold clE at e
    split at e
    · rename_i h; exact h
    · cases e
  have hr : ∀ {P : Sym → Nat → Nat → Val → Prop} {l : List Sym}, (∀ s i j v, P s i j v → i ≤ j ∧ j ≤ n) → ∀ {i j v}, Row P l i j v → i ≤ j ∧ j ≤ n := by
    intro P l hP
    induction l with
    | nil => intro i j v h; exact h.elim
    | cons s l ih =>
      intro i j v h
      cases l with
      | nil => exact hP _ _ _ _ h
      | cons t l =>
        obtain ⟨m, a, b, h1, h2, h3, h4, _⟩ := h
        exact ⟨by omega, (ih h4).2⟩
  intro h
  induction h with
  | zero => intro s i j v hd; exact hl hd
  | succ h ih =>
    intro s i j v hd
    rcases hd with hd | ⟨_, r, _, _, ⟨_, hd⟩ | hd⟩
    · exact hl hd
    · exact he hd
    · exact hr (fun s i j v hp => ih hp) hd
/-- derivations of well formed values, as rows with the empty row -/
theorem row0_of {h : Nat} {l : List Sym} {v : Val} (hw : ∀ s i j v, Dr K (clL leafS 0) (clE emS 0) h s i j v → Wf v) (hne : l ≠ []) : Row (Dr K (clL leafS 0) (clE emS 0) h) l 0 0 v ↔ Row0 (Dr K (clL leafS 0) (clE emS 0) h) l 0 0 v :=
  row_row0 (fun s i j v hp => ⟨(dr_bnd h hp).1, hw s i j v hp⟩) hne
theorem dr_wf : ∀ (h : Nat) (s : Sym) (i j : Nat) (v : Val), Dr K (clL leafS 0) (clE emS 0) h s i j v → Wf v ∧ v.c = 0 := by
  have hl : ∀ {s i j v}, clL leafS 0 s i j = some v → Wf v ∧ v.c = 0 := by
    intro s i j v e
    unfold clL at e
    split at e
    · unfold leafS at e
      split at e
      · cases e; exact ⟨.inl ⟨by simp [maxL], rfl⟩, rfl⟩
      · cases e
    · cases e
  have he : ∀ {i j v}, clE emS 0 i j = some v → Wf v ∧ v.c = 0 := by
    intro i j v e
    unfold clE at e
    split at e
    · cases e; exact ⟨wf_zero, rfl⟩
    · cases e
  have hr : ∀ {P : Sym → Nat → Nat → Val → Prop} {l : List Sym}, (∀ s i j v, P s i j v → Wf v ∧ v.c = 0) → ∀ {i j v}, Row P l i j v → Wf v ∧ v.c = 0 := by
    intro P l hP
    induction l with
    | nil => intro i j v h; exact h.elim
    | cons s l ih =>
      intro i j v h
      cases l with
      | nil => exact hP _ _ _ _ h
      | cons t l =>
        obtain ⟨m, a, b, h1, h2, h3, h4, rfl⟩ := h
        obtain ⟨q1, q2⟩ := hP _ _ _ _ h3
        obtain ⟨q3, q4⟩ := ih h4
        exact ⟨wf_thn q1 q3, by show a.c + b.c = 0; omega⟩
  intro h
  induction h with
  | zero => intro s i j v hd; exact hl hd
  | succ h ih =>
    intro s i j v hd
    rcases hd with hd | ⟨_, r, _, _, ⟨_, hd⟩ | hd⟩
    · exact hl hd
    · exact he hd
    · exact hr (fun s i j v hp => ih s i j v hp) hd
/-- one level more, with the empty row -/
theorem dr_rule {h : Nat} {r : Rule} (hr : r ∈ K) {v : Val} (hv : Row0 (Dr K (clL leafS 0) (clE emS 0) h) r.right 0 0 v) : Dr K (clL leafS 0) (clE emS 0) (h + 1) ⟨false, r.left⟩ 0 0 v := by
  by_cases hre : r.right = []
  · rw [hre] at hv
    obtain ⟨_, rfl⟩ := hv
    exact .inr ⟨rfl, r, hr, rfl, .inl ⟨hre, by unfold clE; rw [if_pos ⟨Nat.le_refl _, Nat.le_refl _⟩]; rfl⟩⟩
  · exact .inr ⟨rfl, r, hr, rfl, .inr ((row0_of (fun s i j v hp => (dr_wf h s i j v hp).1) hre).2 hv)⟩
theorem dr_inv {h : Nat} {A : Int} {v : Val} (hd : Dr K (clL leafS 0) (clE emS 0) (h + 1) ⟨false, A⟩ 0 0 v) : ∃ r ∈ K, r.left = A ∧ Row0 (Dr K (clL leafS 0) (clE emS 0) h) r.right 0 0 v := by
  rcases hd with hd | ⟨_, r, hr, hl, ⟨hre, hd⟩ | hd⟩
  · exact absurd (clL_S.1 hd).1 (by simp)
  · refine ⟨r, hr, hl, ?_⟩
    unfold clE at hd
    rw [if_pos ⟨Nat.le_refl _, Nat.le_refl _⟩] at hd
    cases hd
    rw [hre]; exact ⟨rfl, rfl⟩
  · refine ⟨r, hr, hl, ?_⟩
    by_cases hre : r.right = []
    · rw [hre] at hd; exact hd.elim
    · exact (row0_of (fun s i j v hp => (dr_wf h s i j v hp).1) hre).1 hd
/-- sizes of derivations are the lengths of trees -/
theorem row_cn {h : Nat} (ih : ∀ (s : Sym) (k : Nat), 0 < Cs.oN (Cs.cnt K h) s k → (s.term = false → 0 ≤ s.n) → ∃ h' v, Dr K (clL leafS 0) (clE emS 0) h' s 0 0 v ∧ v.n = k) : ∀ (l : List Sym) (k : Nat), (∀ s ∈ l, s.term = false → 0 ≤ s.n) → 0 < Cs.cN (Cs.oN (Cs.cnt K h)) l k → ∃ h' v, Row0 (Dr K (clL leafS 0) (clE emS 0) h') l 0 0 v ∧ v.n = k
  | [], k, _, hp => by
    rw [Cs.cN] at hp
    by_cases e : k = 0
    · exact ⟨0, zero, ⟨rfl, rfl⟩, e.symm⟩
    · rw [if_neg e] at hp; omega
  | s :: l, k, hs, hp => by
    rw [Cs.cN] at hp
    obtain ⟨i, hi, hpi⟩ := Cs.sumN_pos_iff.1 hp
    obtain ⟨h1, a, ha, ea⟩ := ih s i (Nat.pos_of_mul_pos_right hpi) (hs s (by simp))
    obtain ⟨h2, b, hb, eb⟩ := row_cn ih l (k - i) (fun s hs' => hs s (by simp [hs'])) (Nat.pos_of_mul_pos_left hpi)
    refine ⟨max h1 h2, thn a b, ⟨0, a, b, Nat.le_refl _, Nat.le_refl _, dr_le (Nat.le_max_left _ _) ha, ?_, rfl⟩, by show a.n + b.n = k; omega⟩
    have : ∀ {l : List Sym} {i j : Nat} {v : Val}, Row0 (Dr K (clL leafS 0) (clE emS 0) h2) l i j v → Row0 (Dr K (clL leafS 0) (clE emS 0) (max h1 h2)) l i j v := by
      intro l
      induction l with
      | nil => intro i j v h; exact h
      | cons s l ih =>
        intro i j v h
        obtain ⟨m, a, b, q1, q2, q3, q4, q5⟩ := h
        exact ⟨m, a, b, q1, q2, dr_le (Nat.le_max_right _ _) q3, ih q4, q5⟩
    exact this hb
theorem cnt_dr (hK : ∀ r ∈ K, ∀ s ∈ r.right, s.term = false → 0 ≤ s.n) : ∀ (h A k : Nat), 0 < Cs.cnt K h A k → ∃ h' v, Dr K (clL leafS 0) (clE emS 0) h' ⟨false, (A : Int)⟩ 0 0 v ∧ v.n = k := by
  intro h
  induction h with
  | zero => intro A k hp; exact absurd hp (Nat.lt_irrefl _)
  | succ h ih =>
    intro A k hp
    rw [Cs.cnt] at hp
    obtain ⟨r, hr, hl, hc⟩ := (Cs.cR_posI _).1 hp
    obtain ⟨h', v, hv, e⟩ := row_cn (h := h) (fun s k hp hs => by
      unfold Cs.oN at hp
      by_cases ht : s.term = true
      · rw [if_pos ht] at hp
        by_cases e : k = 1
        · exact ⟨0, ⟨0, 1, [s.n]⟩, clL_S.2 ⟨ht, rfl⟩, e.symm⟩
        · rw [if_neg e] at hp; omega
      · rw [if_neg ht] at hp
        have ht' : s.term = false := by simpa using ht
        have := ih _ _ hp
        rw [show ((s.n.toNat : Nat) : Int) = s.n by have := hs ht'; omega] at this
        have es : s = ⟨false, s.n⟩ := by obtain ⟨a, b⟩ := s; simp at ht'; rw [ht']
        rw [es]; exact this) r.right k (hK r hr) hc
    exact ⟨h' + 1, v, by rw [← hl]; exact dr_rule hr hv, e⟩
theorem dr_row {h : Nat} (ih : ∀ (s : Sym) v, Dr K (clL leafS 0) (clE emS 0) h s 0 0 v → (s.term = false → 0 ≤ s.n) → 0 < Cs.oN (Cs.cnt K h) s v.n) : ∀ (l : List Sym) (v : Val), (∀ s ∈ l, s.term = false → 0 ≤ s.n) → Row0 (Dr K (clL leafS 0) (clE emS 0) h) l 0 0 v → 0 < Cs.cN (Cs.oN (Cs.cnt K h)) l v.n
  | [], v, _, hv => by
    obtain ⟨_, rfl⟩ := hv
    rw [Cs.cN]; show 0 < if (0 : Nat) = 0 then 1 else 0; simp
  | s :: l, v, hs, hv => by
    obtain ⟨m, a, b, h1, h2, h3, h4, rfl⟩ := hv
    obtain rfl : m = 0 := by omega
    have q1 := ih s a h3 (hs s (by simp))
    have q2 := dr_row ih l b (fun s hs' => hs s (by simp [hs'])) h4
    rw [Cs.cN]
    refine Cs.sumN_pos_iff.2 ⟨a.n, by show a.n < a.n + b.n + 1; omega, ?_⟩
    rw [show (thn a b).n - a.n = b.n by show a.n + b.n - a.n = b.n; omega]
    exact Nat.mul_pos q1 q2
theorem dr_cnt (hK : ∀ r ∈ K, ∀ s ∈ r.right, s.term = false → 0 ≤ s.n) : ∀ (h A : Nat) (v : Val), Dr K (clL leafS 0) (clE emS 0) h ⟨false, (A : Int)⟩ 0 0 v → 0 < Cs.cnt K h A v.n := by
  intro h
  induction h with
  | zero => intro A v hd; exact absurd (clL_S.1 hd).1 (by simp)
  | succ h ih =>
    intro A v hd
    obtain ⟨r, hr, hl, hv⟩ := dr_inv hd
    rw [Cs.cnt]
    refine (Cs.cR_posI _).2 ⟨r, hr, hl, dr_row (fun s v hd hs => ?_) r.right v (hK r hr) hv⟩
    unfold Cs.oN
    by_cases ht : s.term = true
    · rw [if_pos ht, dr_term ht hd]; show 0 < if (1 : Nat) = 1 then 1 else 0; simp
    · rw [if_neg ht]
      have ht' : s.term = false := by simpa using ht
      refine ih s.n.toNat v ?_
      rw [show ((s.n.toNat : Nat) : Int) = s.n by have := hs ht'; omega]
      have es : s = ⟨false, s.n⟩ := by obtain ⟨a, b⟩ := s; simp at ht'; rw [ht']
      rw [← es]; exact hd
theorem leastX (hK : KG N K (okS N tm)) {X : Nat → Int} (h : Cs.LeastV K N X) : LeastX K N X := by
  have hK' : ∀ r ∈ K, ∀ s ∈ r.right, s.term = false → 0 ≤ s.n := fun r hr s hs _ => ((hK r hr).2.2 s hs).1
  refine ⟨fun A hA => (h A hA).1, fun A hA h0 => ?_, fun A v hA hd => ?_⟩
  · obtain ⟨k, hk⟩ := (h A hA).2.1 h0
    obtain ⟨h', v, hv, e⟩ := cnt_dr hK' _ _ _ hk
    exact ⟨v, ⟨h', hv⟩, by omega⟩
  · obtain ⟨k, hk⟩ := hd
    exact (h A hA).2.2 v.n ⟨k, dr_cnt hK' k A v hk⟩
end
end Hl
end Go.Proofs.Ytjpmebppdcclbaa
namespace Go.Proofs.Ytjpmebppdcclbaa
namespace Hl
open Rp

def tv (w : List Int) : Val := ⟨0, w.length, w⟩
def symW (Tw : Nat → Option (List Int)) (s : Sym) : Option (List Int) := if s.term then some [s.n] else Tw s.n.toNat
def stepW (Tw : Nat → Option (List Int)) (lim : Nat) (o : Option (List Int)) (s : Sym) : Option (List Int) :=
  match o with
  | none => none
  | some w => match symW Tw s with
    | none => none
    | some u => if (w ++ u).length ≤ lim then some (w ++ u) else none
def foldW (Tw : Nat → Option (List Int)) (lim : Nat) (l : List Sym) (o : Option (List Int)) : Option (List Int) := l.foldl (stepW Tw lim) o
def rwW (X : Nat → Int) (Tw : Nat → Option (List Int)) (r : Rule) : Option (List Int) := if 0 ≤ X r.left.toNat ∧ X r.left.toNat ≤ 2000 then foldW Tw (X r.left.toNat).toNat r.right (some []) else none
def betW (X : Nat → Int) (Tw : Nat → Option (List Int)) (r : Rule) : Bool := lessB ((rwW X Tw r).map tv) ((Tw r.left.toNat).map tv)
def updW (Tw : Nat → Option (List Int)) (a : Nat) (w : List Int) : Nat → Option (List Int) := fun b => if b = a then some w else Tw b
def WInv (K : List Rule) (N tm : Nat) (X : Nat → Int) (Tw : Nat → Option (List Int)) : Prop :=
  ∀ A w, Tw A = some w → A < N ∧ X A = (w.length : Int) ∧ w.length ≤ 2000 ∧ ltrs tm (tv w) ∧ DrG leafS emS 0 K ⟨false, (A : Int)⟩ 0 0 (tv w)
def ClosedW (K : List Rule) (X : Nat → Int) (Tw : Nat → Option (List Int)) : Prop := ∀ r ∈ K, betW X Tw r = false
theorem foldW_none (Tw : Nat → Option (List Int)) (lim : Nat) : ∀ l, foldW Tw lim l none = none
  | [] => rfl
  | _ :: l => foldW_none Tw lim l
theorem foldW_snoc (Tw : Nat → Option (List Int)) (lim : Nat) (l : List Sym) (s : Sym) (o : Option (List Int)) : foldW Tw lim (l ++ [s]) o = stepW Tw lim (foldW Tw lim l o) s := by
  unfold foldW; rw [List.foldl_append]; rfl
theorem wf_tv {w : List Int} (h : w.length ≤ 2000) : Wf (tv w) := .inl ⟨h, rfl⟩
/-- values of the words found so far -/
def VW (Tw : Nat → Option (List Int)) (s : Sym) (i j : Nat) : Option Val := if s.term then leafS s i j else if 0 ≤ s.n then (Tw s.n.toNat).map tv else none
section
variable {K : List Rule} {N tm lim : Nat} {X : Nat → Int} {Tw : Nat → Option (List Int)}
theorem vw_sym {s : Sym} (hs : okS N tm s) : VW Tw s 0 0 = (symW Tw s).map tv := by
  unfold VW symW
  by_cases ht : s.term = true
  · rw [if_pos ht, if_pos ht]; unfold leafS; rw [if_pos ht]; rfl
  · rw [if_neg ht, if_neg ht, if_pos hs.1]
theorem vw_vo (hW : WInv K N tm X Tw) : VO leafS emS 0 K (okS N tm) (GS tm) (VW Tw) := by
  have key : ∀ s i j v, VW Tw s i j = some v → (Wf v ∧ v.c = 0) ∧ ((i = 0 ∧ j = 0) → DrG leafS emS 0 K s i j v) ∧ (okS N tm s → ltrs tm v) := by
    intro s i j v e
    unfold VW at e
    by_cases ht : s.term = true
    · rw [if_pos ht] at e
      have e2 := e
      unfold leafS at e
      rw [if_pos ht] at e
      cases e
      refine ⟨⟨.inl ⟨by simp [maxL], rfl⟩, rfl⟩, fun ⟨h1, h2⟩ => ⟨0, ?_⟩, fun hs t h => ?_⟩
      · show clL leafS 0 s i j = _
        unfold clL
        rw [if_pos ⟨by omega, by omega⟩]; exact e2
      · simp at h
        subst h
        exact ⟨hs.1, hs.2.1 ht⟩
    · rw [if_neg ht] at e
      split at e
      · rename_i h0
        cases e3 : Tw s.n.toNat with
        | none => rw [e3] at e; cases e
        | some w =>
          rw [e3] at e
          cases e
          obtain ⟨q1, q2, q3, q4, q5⟩ := hW _ _ e3
          have es : s = ⟨false, (s.n.toNat : Int)⟩ := by
            obtain ⟨a, b⟩ := s
            simp at ht h0
            simp only [ht, Sym.mk.injEq, true_and]
            omega
          refine ⟨⟨wf_tv q3, rfl⟩, fun ⟨h1, h2⟩ => ?_, fun _ => q4⟩
          rw [h1, h2]
          rw [es]; exact q5
      · cases e
  refine ⟨fun s i j v e => (key s i j v e).1.1, fun s i j v h1 h2 e => ⟨(key s i j v e).2.1 (by omega), fun hs => ⟨(key s i j v e).1.1, (key s i j v e).1.2, (key s i j v e).2.2 hs⟩⟩⟩
theorem dr_of_row0 (hK : KG N K (okS N tm)) {V : Sym → Nat → Nat → Option Val} (hV : VO leafS emS 0 K (okS N tm) (GS tm) V) {r : Rule} (hr : r ∈ K) {v : Val} (h : Row0 (VP V 0) r.right 0 0 v) : GS tm v 0 0 ∧ DrG leafS emS 0 K ⟨false, r.left⟩ 0 0 v := by
  refine ⟨(good_row0 (gokS N tm) (Nat.le_refl 0) (fun s hs i j v h1 h2 h3 => (hV.2 s i j v h1 h2 h3).2 ((hK r hr).2.2 s hs)) h).2, ?_⟩
  by_cases hre : r.right = []
  · rw [hre] at h
    obtain ⟨_, rfl⟩ := h
    exact ⟨1, .inr ⟨rfl, r, hr, rfl, .inl ⟨hre, by unfold clE; rw [if_pos ⟨Nat.le_refl _, Nat.le_refl _⟩]; rfl⟩⟩⟩
  · have h2 := (row_row0 (vp_ok (fun s i j _ _ => hV.1 s i j)) hre).2 h
    have h3 : Row (fun s i j v => ∃ k, Dr K (clL leafS 0) (clE emS 0) k s i j v) r.right 0 0 v := row_mem (fun s hs i j v hp => (hV.2 s i j v hp.1 hp.2.1 hp.2.2).1) h2
    obtain ⟨k, hk⟩ := row_ex h3
    exact ⟨k + 1, .inr ⟨rfl, r, hr, rfl, .inr hk⟩⟩
/-- what the scan gives is a value of the row -/
theorem fold_row (hlim : lim ≤ 2000) : ∀ (l : List Sym) (w0 w : List Int), (∀ s ∈ l, okS N tm s) → w0.length ≤ lim → foldW Tw lim l (some w0) = some w → ∃ u, w = w0 ++ u ∧ w.length ≤ lim ∧ Row0 (VP (VW Tw) 0) l 0 0 (tv u)
  | [], w0, w, _, h0, e => by
    cases e
    exact ⟨[], by simp, h0, rfl, rfl⟩
  | s :: l, w0, w, hs, h0, e => by
    have e' : foldW Tw lim l (stepW Tw lim (some w0) s) = some w := e
    unfold stepW at e'
    cases ex : symW Tw s with
    | none => rw [ex] at e'; simp only at e'; rw [foldW_none] at e'; cases e'
    | some x =>
      rw [ex] at e'
      simp only at e'
      by_cases hl : (w0 ++ x).length ≤ lim
      · rw [if_pos hl] at e'
        obtain ⟨u, h1, h2, h3⟩ := fold_row hlim l (w0 ++ x) w (fun s hs' => hs s (by simp [hs'])) hl e'
        refine ⟨x ++ u, by rw [h1, List.append_assoc], h2, 0, tv x, tv u, Nat.le_refl _, Nat.le_refl _, ⟨Nat.le_refl _, Nat.le_refl _, ?_⟩, h3, ?_⟩
        · rw [vw_sym (hs s (by simp)), ex]; rfl
        · have hn : x.length + u.length ≤ 2000 := by rw [h1] at h2; simp at h2; omega
          unfold tv thn
          simp only [Val.mk.injEq]
          refine ⟨trivial, by simp, ?_⟩
          rw [if_pos (show x.length + u.length ≤ maxL from hn)]
      · rw [if_neg hl, foldW_none] at e'; cases e'
/-- and each value of the row that is short enough is found -/
theorem row_fold (hlim : lim ≤ 2000) : ∀ (l : List Sym) (w0 : List Int) (v : Val), (∀ s ∈ l, okS N tm s) → Row0 (VP (VW Tw) 0) l 0 0 v → w0.length + v.n ≤ lim → foldW Tw lim l (some w0) = some (w0 ++ v.w)
  | [], w0, v, _, h, _ => by
    obtain ⟨_, rfl⟩ := h
    show some w0 = some (w0 ++ [])
    simp
  | s :: l, w0, v, hs, ⟨m, a, b, h1, h2, h3, h4, e⟩, hl => by
    subst e
    obtain rfl : m = 0 := by omega
    have hsv := h3.2.2
    rw [vw_sym (hs s (by simp))] at hsv
    cases ex : symW Tw s with
    | none => rw [ex] at hsv; cases hsv
    | some x =>
      rw [ex] at hsv
      have ea : tv x = a := by simpa using hsv
      subst ea
      have hl' : w0.length + (x.length + b.n) ≤ lim := hl
      show foldW Tw lim l (stepW Tw lim (some w0) s) = _
      unfold stepW
      rw [ex]
      simp only
      rw [if_pos (by simp; omega), row_fold hlim l (w0 ++ x) b (fun s hs' => hs s (by simp [hs'])) h4 (by simp; omega)]
      have hn : (tv x).n + b.n ≤ 2000 := by show x.length + b.n ≤ 2000; omega
      rw [thn_w, if_pos hn]
      show some (w0 ++ x ++ b.w) = some (w0 ++ (x ++ b.w))
      rw [List.append_assoc]
theorem rw_good (hK : KG N K (okS N tm)) (hW : WInv K N tm X Tw) {r : Rule} (hr : r ∈ K) {w : List Int} (e : rwW X Tw r = some w) : (w.length : Int) ≤ X r.left.toNat ∧ w.length ≤ 2000 ∧ ltrs tm (tv w) ∧ DrG leafS emS 0 K ⟨false, r.left⟩ 0 0 (tv w) := by
  unfold rwW at e
  split at e
  · rename_i h
    obtain ⟨u, h1, h2, h3⟩ := fold_row (N := N) (tm := tm) (by omega) r.right [] w (hK r hr).2.2 (by simp) e
    simp at h1
    subst h1
    obtain ⟨h4, h5⟩ := dr_of_row0 hK (vw_vo hW) hr h3
    exact ⟨by omega, by omega, h4.2.2, h5⟩
  · cases e
theorem w_upd (hK : KG N K (okS N tm)) (hL : LeastX K N X) (hW : WInv K N tm X Tw) {r : Rule} (hr : r ∈ K) {w : List Int} (e : rwW X Tw r = some w) : WInv K N tm X (updW Tw r.left.toNat w) := by
  intro A u eu
  unfold updW at eu
  split at eu
  · rename_i ea
    cases eu
    obtain ⟨h1, h2, h3, h4⟩ := rw_good hK hW hr e
    obtain ⟨q1, q2, _⟩ := hK r hr
    have el : ((r.left.toNat : Nat) : Int) = r.left := by omega
    have h5 := hL.le r.left.toNat (tv w) (by omega) (by rw [el]; exact h4)
    have h6 : X r.left.toNat ≤ (w.length : Int) := h5.2
    rw [ea]
    refine ⟨by omega, by omega, h2, h3, ?_⟩
    rw [el]; exact h4
  · exact hW A u eu
theorem w_none : WInv K N tm X (fun _ => none) := fun A w e => by cases e
/-- the measure -/
noncomputable def muW (tm N : Nat) (Tw : Nat → Option (List Int)) : Nat := ((List.range N).map fun a => rank (valsU tm 0 2000) ((Tw a).map tv)).sum
theorem muW_lt {a : Nat} (ha : a < N) {w : List Int} (hl : w.length ≤ 2000) (hx : ltrs tm (tv w)) (hW : WInv K N tm X Tw) (hb : lessB (some (tv w)) ((Tw a).map tv) = true) : muW tm N (updW Tw a w) < muW tm N Tw := by
  have hr := rank_lt (U := valsU tm 0 2000) (v := tv w) (o := (Tw a).map tv) (mem_valsU (Nat.le_refl _) hl (wf_tv hl) hx) (wf_tv hl) (fun v e => by
    cases e2 : Tw a with
    | none => rw [e2] at e; cases e
    | some u => rw [e2] at e; cases e; exact wf_tv (hW a u e2).2.2.1) hb
  unfold muW
  refine sum_lt _ _ _ (fun p => ?_) ⟨a, by simpa using ha, ?_⟩
  · unfold updW
    by_cases e : p = a
    · rw [if_pos e, e]; exact Nat.le_of_lt hr
    · rw [if_neg e]; exact Nat.le_refl _
  · unfold updW
    rw [if_pos rfl]; exact hr
/-! what is left at the end -/
def xs (X : Nat → Int) (s : Sym) : Nat := if s.term then 1 else (X s.n.toNat).toNat
def XL (X : Nat → Int) : List Sym → Nat
  | [] => 0
  | s :: l => xs X s + XL X l
theorem sz_ge (hL : LeastX K N X) {h : Nat} {s : Sym} (hs : okS N tm s) {v : Val} (hd : Dr K (clL leafS 0) (clE emS 0) h s 0 0 v) : (s.term = false → 0 ≤ X s.n.toNat) ∧ xs X s ≤ v.n := by
  unfold xs
  by_cases ht : s.term = true
  · rw [if_pos ht, dr_term ht hd]
    exact ⟨(fun e => by rw [ht] at e; cases e), Nat.le_refl _⟩
  · rw [if_neg ht]
    have ht' : s.term = false := by simpa using ht
    have h1 := hs.2.2 ht'
    have h0 := hs.1
    have es : s = ⟨false, (s.n.toNat : Int)⟩ := by
      obtain ⟨a, b⟩ := s
      simp at ht' h0
      simp only [ht', Sym.mk.injEq, true_and]
      omega
    have := hL.le s.n.toNat v (by omega) ⟨h, by rw [← es]; exact hd⟩
    exact ⟨fun _ => this.1, by omega⟩
theorem XL_le (hL : LeastX K N X) {h : Nat} : ∀ (l : List Sym) (v : Val), (∀ s ∈ l, okS N tm s) → Row0 (Dr K (clL leafS 0) (clE emS 0) h) l 0 0 v → (∀ s ∈ l, s.term = false → 0 ≤ X s.n.toNat) ∧ XL X l ≤ v.n
  | [], v, _, hv => ⟨(fun s hs => by cases hs), Nat.zero_le _⟩
  | s :: l, v, hs, ⟨m, a, b, h1, h2, h3, h4, e⟩ => by
    subst e
    obtain rfl : m = 0 := by omega
    obtain ⟨q1, q2⟩ := sz_ge hL (hs s (by simp)) h3
    obtain ⟨q3, q4⟩ := XL_le hL l b (fun s hs' => hs s (by simp [hs'])) h4
    refine ⟨fun t ht => ?_, ?_⟩
    · rcases List.mem_cons.1 ht with rfl | ht
      · exact q1
      · exact q3 t ht
    · show xs X s + XL X l ≤ a.n + b.n
      omega
theorem XL_dr (hL : LeastX K N X) : ∀ (l : List Sym), (∀ s ∈ l, okS N tm s) → (∀ s ∈ l, s.term = false → 0 ≤ X s.n.toNat) → ∃ h v, Row0 (Dr K (clL leafS 0) (clE emS 0) h) l 0 0 v ∧ v.n = XL X l
  | [], _, _ => ⟨0, zero, ⟨rfl, rfl⟩, rfl⟩
  | s :: l, hs, hx => by
    obtain ⟨h2, b, hb, eb⟩ := XL_dr hL l (fun s hs' => hs s (by simp [hs'])) (fun s hs' => hx s (by simp [hs']))
    have ha : ∃ h a, Dr K (clL leafS 0) (clE emS 0) h s 0 0 a ∧ a.n = xs X s := by
      unfold xs
      by_cases ht : s.term = true
      · rw [if_pos ht]
        exact ⟨0, ⟨0, 1, [s.n]⟩, clL_S.2 ⟨ht, rfl⟩, rfl⟩
      · rw [if_neg ht]
        have ht' : s.term = false := by simpa using ht
        have h1 := (hs s (by simp)).2.2 ht'
        have h0 := (hs s (by simp)).1
        have hx0 := hx s (by simp) ht'
        have es : s = ⟨false, (s.n.toNat : Int)⟩ := by
          obtain ⟨a, b⟩ := s
          simp at ht' h0
          simp only [ht', Sym.mk.injEq, true_and]
          omega
        obtain ⟨v, ⟨h, hd⟩, ev⟩ := hL.ex s.n.toNat (by omega) hx0
        exact ⟨h, v, by rw [es]; exact hd, by omega⟩
    obtain ⟨h1, a, ha, ea⟩ := ha
    refine ⟨max h1 h2, thn a b, ⟨0, a, b, Nat.le_refl _, Nat.le_refl _, dr_le (Nat.le_max_left _ _) ha, ?_, rfl⟩, by show a.n + b.n = xs X s + XL X l; omega⟩
    have : ∀ {l : List Sym} {i j : Nat} {v : Val}, Row0 (Dr K (clL leafS 0) (clE emS 0) h2) l i j v → Row0 (Dr K (clL leafS 0) (clE emS 0) (max h1 h2)) l i j v := by
      intro l
      induction l with
      | nil => intro i j v h; exact h
      | cons s l ih =>
        intro i j v h
        obtain ⟨m, a, b, q1, q2, q3, q4, q5⟩ := h
        exact ⟨m, a, b, q1, q2, dr_le (Nat.le_max_right _ _) q3, ih q4, q5⟩
    exact this hb
theorem XL_eq (hL : LeastX K N X) {h : Nat} : ∀ (l : List Sym) (v : Val), (∀ s ∈ l, okS N tm s) → Row0 (Dr K (clL leafS 0) (clE emS 0) h) l 0 0 v → v.n ≤ XL X l → ∀ s ∈ l, s.term = false → ∃ a, Dr K (clL leafS 0) (clE emS 0) h s 0 0 a ∧ (a.n : Int) = X s.n.toNat
  | [], v, _, _, _, s, hs => by cases hs
  | t :: l, v, hs, ⟨m, a, b, h1, h2, h3, h4, e⟩, hle, s, hm => by
    subst e
    obtain rfl : m = 0 := by omega
    have q1 := sz_ge hL (hs t (by simp)) h3
    have q2 := XL_le hL l b (fun s hs' => hs s (by simp [hs'])) h4
    have hle' : a.n + b.n ≤ xs X t + XL X l := hle
    intro ht
    rcases List.mem_cons.1 hm with e | hm
    · subst e
      refine ⟨a, h3, ?_⟩
      have q3 := q1.1 ht
      have q4 := q1.2
      have hx : xs X s = (X s.n.toNat).toNat := by unfold xs; rw [if_neg (by rw [ht]; simp)]
      have q5 := q2.2
      rw [hx] at q4 hle'
      omega
    · exact XL_eq hL l b (fun s hs' => hs s (by simp [hs'])) h4 (by have := q1.2; omega) s hm ht
/-- all known: the row has a value of that size -/
theorem known_row (hW : WInv K N tm X Tw) : ∀ (l : List Sym), (∀ s ∈ l, okS N tm s) → (∀ s ∈ l, s.term = false → ∃ w, Tw s.n.toNat = some w) → ∃ v, Row0 (VP (VW Tw) 0) l 0 0 v ∧ v.n = XL X l
  | [], _, _ => ⟨zero, ⟨rfl, rfl⟩, rfl⟩
  | s :: l, hs, hk => by
    obtain ⟨b, hb, eb⟩ := known_row hW l (fun s hs' => hs s (by simp [hs'])) (fun s hs' => hk s (by simp [hs']))
    have ha : ∃ a, VW Tw s 0 0 = some a ∧ a.n = xs X s := by
      rw [vw_sym (hs s (by simp))]
      unfold symW xs
      by_cases ht : s.term = true
      · rw [if_pos ht, if_pos ht]; exact ⟨_, rfl, rfl⟩
      · rw [if_neg ht, if_neg ht]
        obtain ⟨w, hw⟩ := hk s (by simp) (by simpa using ht)
        have := (hW _ _ hw).2.1
        rw [hw]
        exact ⟨tv w, rfl, by show w.length = _; omega⟩
    obtain ⟨a, ha, ea⟩ := ha
    exact ⟨thn a b, ⟨0, a, b, Nat.le_refl _, Nat.le_refl _, ⟨Nat.le_refl _, Nat.le_refl _, ha⟩, hb, rfl⟩, by show a.n + b.n = xs X s + XL X l; omega⟩
theorem rule_le (hL : LeastX K N X) (hK : KG N K (okS N tm)) {r : Rule} (hr : r ∈ K) (hx : ∀ s ∈ r.right, s.term = false → 0 ≤ X s.n.toNat) : 0 ≤ X r.left.toNat ∧ X r.left.toNat ≤ (XL X r.right : Int) := by
  obtain ⟨q1, q2, q3⟩ := hK r hr
  obtain ⟨h, v, hv, e⟩ := XL_dr hL r.right q3 hx
  have := hL.le r.left.toNat v (by omega) ⟨h + 1, by rw [show ((r.left.toNat : Nat) : Int) = r.left by omega]; exact dr_rule hr hv⟩
  omega
theorem known_all (hL : LeastX K N X) (hK : KG N K (okS N tm)) (hW : WInv K N tm X Tw) (hc : ClosedW K X Tw) : ∀ (h A : Nat) (v : Val), A < N → Dr K (clL leafS 0) (clE emS 0) h ⟨false, (A : Int)⟩ 0 0 v → (v.n : Int) = X A → X A ≤ 2000 → ∃ w, Tw A = some w := by
  intro h
  induction h with
  | zero => intro A v _ hd; exact absurd (clL_S.1 hd).1 (by simp)
  | succ h ih =>
    intro A v hA hd hv hx
    obtain ⟨r, hr, hl, hrow⟩ := dr_inv hd
    obtain ⟨q1, q2, q3⟩ := hK r hr
    have eA : r.left.toNat = A := by rw [hl]; simp
    obtain ⟨h1, h2⟩ := XL_le hL r.right v q3 hrow
    have h3 := rule_le hL hK hr h1
    rw [eA] at h3
    have hkn := XL_eq hL r.right v q3 hrow (by omega)
    obtain ⟨v', hv', e'⟩ := known_row hW r.right q3 (fun s hs ht => by
      obtain ⟨a, ha, ea⟩ := hkn s hs ht
      have h0 := (q3 s hs).1
      have h5 := (q3 s hs).2.2 ht
      have es : s = ⟨false, (s.n.toNat : Int)⟩ := by
        obtain ⟨x, y⟩ := s
        simp at ht h0
        simp only [ht, Sym.mk.injEq, true_and]
        omega
      have h6 : xs X s ≤ XL X r.right := by
        have : ∀ (l : List Sym), s ∈ l → xs X s ≤ XL X l := by
          intro l
          induction l with
          | nil => intro h; cases h
          | cons t l ih2 =>
            intro h
            show xs X s ≤ xs X t + XL X l
            rcases List.mem_cons.1 h with rfl | h
            · omega
            · have := ih2 h; omega
        exact this _ hs
      have hx' : xs X s = (X s.n.toNat).toNat := by unfold xs; rw [if_neg (by rw [ht]; simp)]
      exact ih s.n.toNat a (by omega) (by rw [← es]; exact ha) ea (by omega))
    have hf := row_fold (N := N) (tm := tm) (Tw := Tw) (lim := (X r.left.toNat).toNat) (by rw [eA]; omega) r.right [] v' q3 hv' (by rw [eA]; simp; omega)
    have hb := hc r hr
    unfold betW rwW at hb
    rw [if_pos (by rw [eA]; exact ⟨h3.1, hx⟩), hf, eA] at hb
    cases e : Tw A with
    | none => rw [e] at hb; cases hb
    | some w => exact ⟨w, rfl⟩
/-- the values at the end -/
def VU (N : Nat) (X : Nat → Int) (Tw : Nat → Option (List Int)) (s : Sym) (i j : Nat) : Option Val :=
  if s.term then leafS s i j else if 0 ≤ s.n ∧ s.n < (N : Int) ∧ 0 ≤ X s.n.toNat then some ⟨0, (X s.n.toNat).toNat, if X s.n.toNat ≤ 2000 then (Tw s.n.toNat).getD [] else []⟩ else none
theorem vu_vo (hL : LeastX K N X) (hK : KG N K (okS N tm)) (hW : WInv K N tm X Tw) (hc : ClosedW K X Tw) : VO leafS emS 0 K (okS N tm) (GS tm) (VU N X Tw) := by
  have key : ∀ s i j v, VU N X Tw s i j = some v → (Wf v ∧ v.c = 0) ∧ ((i = 0 ∧ j = 0) → DrG leafS emS 0 K s i j v) ∧ (okS N tm s → ltrs tm v) := by
    intro s i j v e
    unfold VU at e
    by_cases ht : s.term = true
    · rw [if_pos ht] at e
      have h1 := (vw_vo hW).1 s i j v (by unfold VW; rw [if_pos ht]; exact e)
      have e2 := e
      unfold leafS at e
      rw [if_pos ht] at e
      cases e
      refine ⟨⟨h1, rfl⟩, fun ⟨h1, h2⟩ => ⟨0, ?_⟩, fun hs t h => ?_⟩
      · show clL leafS 0 s i j = _
        unfold clL
        rw [if_pos ⟨by omega, by omega⟩]; exact e2
      · simp at h
        subst h
        exact ⟨hs.1, hs.2.1 ht⟩
    · rw [if_neg ht] at e
      split at e
      · rename_i h0
        obtain ⟨h0, h1, h2⟩ := h0
        have es : s = ⟨false, (s.n.toNat : Int)⟩ := by
          obtain ⟨a, b⟩ := s
          simp at ht h0
          simp only [ht, Sym.mk.injEq, true_and]
          omega
        obtain ⟨u, ⟨k, hd⟩, eu⟩ := hL.ex s.n.toNat (by omega) h2
        obtain ⟨wu, cu⟩ := dr_wf k _ _ _ _ hd
        by_cases hb : X s.n.toNat ≤ 2000
        · obtain ⟨w, hw⟩ := known_all hL hK hW hc k s.n.toNat u (by omega) hd eu hb
          obtain ⟨q1, q2, q3, q4, q5⟩ := hW _ _ hw
          rw [if_pos hb, hw] at e
          have ev : tv w = v := by
            have := Option.some.inj e
            rw [← this]
            unfold tv
            simp only [Option.getD_some, Val.mk.injEq, true_and, and_true]
            omega
          subst ev
          refine ⟨⟨wf_tv q3, rfl⟩, fun ⟨h3, h4⟩ => ?_, fun _ => q4⟩
          rw [h3, h4, es]; exact q5
        · rw [if_neg hb] at e
          have ev : u = v := by
            have := Option.some.inj e
            rw [← this]
            obtain ⟨c, n, w⟩ := u
            simp only at cu eu
            rcases wu with ⟨h3, _⟩ | ⟨_, h3⟩
            · unfold maxL at h3; simp only at h3; omega
            · simp only at h3
              simp only [Val.mk.injEq]
              exact ⟨cu, by omega, h3⟩
          subst ev
          refine ⟨⟨wu, cu⟩, fun ⟨h3, h4⟩ => ?_, fun _ => ?_⟩
          · rw [h3, h4, es]; exact ⟨k, hd⟩
          · rcases wu with ⟨h3, _⟩ | ⟨_, h3⟩
            · unfold maxL at h3; omega
            · intro t h; rw [h3] at h; cases h
      · cases e
  refine ⟨fun s i j v e => (key s i j v e).1.1, fun s i j v h1 h2 e => ⟨(key s i j v e).2.1 (by omega), fun hs => ⟨(key s i j v e).1.1, (key s i j v e).1.2, (key s i j v e).2.2 hs⟩⟩⟩
/-- a value that is short is made of words that are known -/
theorem vu_vw (hL : LeastX K N X) (hK : KG N K (okS N tm)) (hW : WInv K N tm X Tw) (hc : ClosedW K X Tw) : ∀ (l : List Sym) (v : Val), (∀ s ∈ l, okS N tm s) → Row0 (VP (VU N X Tw) 0) l 0 0 v → v.n ≤ 2000 → Row0 (VP (VW Tw) 0) l 0 0 v
  | [], v, _, h, _ => h
  | s :: l, v, hs, ⟨m, a, b, h1, h2, h3, h4, e⟩, hn => by
    subst e
    obtain rfl : m = 0 := by omega
    have hn' : a.n + b.n ≤ 2000 := hn
    refine ⟨0, a, b, h1, h2, ⟨Nat.le_refl _, Nat.le_refl _, ?_⟩, vu_vw hL hK hW hc l b (fun s hs' => hs s (by simp [hs'])) h4 (by omega), rfl⟩
    have e := h3.2.2
    unfold VU at e
    unfold VW
    by_cases ht : s.term = true
    · rw [if_pos ht] at e ⊢; exact e
    · rw [if_neg ht] at e ⊢
      split at e
      · rename_i h0
        obtain ⟨h0, h1, h2⟩ := h0
        have ha : a.n = (X s.n.toNat).toNat := by rw [← Option.some.inj e]
        obtain ⟨u, ⟨k, hd⟩, eu⟩ := hL.ex s.n.toNat (by omega) h2
        obtain ⟨w, hw⟩ := known_all hL hK hW hc k s.n.toNat u (by omega) hd eu (by omega)
        obtain ⟨q1, q2, q3, q4, q5⟩ := hW _ _ hw
        rw [if_pos h0, hw, ← e, if_pos (by omega), hw]
        unfold tv
        simp only [Option.map_some, Option.getD_some, Option.some.injEq, Val.mk.injEq, true_and, and_true]
        omega
      · cases e
theorem vu_closed (hL : LeastX K N X) (hK : KG N K (okS N tm)) (hW : WInv K N tm X Tw) (hc : ClosedW K X Tw) : Closed K (clL leafS 0) (clE emS 0) (clV 0 (VU N X Tw)) := by
  have hvo := vu_vo hL hK hW hc
  refine cl_closed (gokS N tm) hvo.1 (fun y i j v _ _ e => ?_) (fun r hr i j v hij hj e => ?_)
  · refine ⟨v, ?_, le_refl _⟩
    unfold VU
    by_cases ht : y.term = true
    · rw [if_pos ht]; exact e
    · unfold leafS at e; rw [if_neg ht] at e; cases e
  · obtain rfl : j = 0 := by omega
    obtain rfl : i = 0 := by omega
    obtain ⟨q1, q2, q3⟩ := hK r hr
    obtain ⟨hg, hd⟩ := good_rv (gokS N tm) hK hvo hr (Nat.le_refl 0) (Nat.le_refl 0) e
    have el : ((r.left.toNat : Nat) : Int) = r.left := by omega
    obtain ⟨h1, h2⟩ := hL.le r.left.toNat v (by omega) (by rw [el]; exact hd)
    have hrow : Row0 (VP (VU N X Tw) 0) r.right 0 0 v := by
      unfold rvV at e
      by_cases hre : r.right = []
      · rw [if_pos hre] at e
        cases e
        rw [hre]; exact ⟨rfl, rfl⟩
      · rw [if_neg hre] at e
        have hb := (best_lstV (V := VU N X Tw) (n := 0) hre (fun s _ i j _ _ => hvo.1 s i j) (Nat.le_refl 0) (Nat.le_refl 0)).2
        rw [e] at hb
        exact hb.1
    have hu : VU N X Tw ⟨false, r.left⟩ 0 0 = some ⟨0, (X r.left.toNat).toNat, if X r.left.toNat ≤ 2000 then (Tw r.left.toNat).getD [] else []⟩ := by
      unfold VU
      simp only [Bool.false_eq_true, if_false]
      rw [if_pos ⟨q1, q2, h1⟩]
    refine ⟨_, hu, ?_⟩
    by_cases hlt : X r.left.toNat < (v.n : Int)
    · refine .inr (lt_iff.2 (.inr ⟨hg.2.1.symm, .inl ?_⟩))
      show (X r.left.toNat).toNat < v.n
      omega
    · have hx : X r.left.toNat = (v.n : Int) := by omega
      by_cases hb : X r.left.toNat ≤ 2000
      · have hrow2 := vu_vw hL hK hW hc r.right v q3 hrow (by omega)
        have hf := row_fold (N := N) (tm := tm) (Tw := Tw) (lim := (X r.left.toNat).toNat) (by omega) r.right [] v q3 hrow2 (by simp; omega)
        have hbt := hc r hr
        unfold betW rwW at hbt
        rw [if_pos ⟨h1, hb⟩, hf] at hbt
        simp only [List.nil_append, Option.map_some] at hbt
        have hvw : v.w.length = v.n := by
          rcases hg.1 with ⟨_, h⟩ | ⟨h, _⟩
          · exact h
          · unfold maxL at h; omega
        have ev : tv v.w = v := by
          obtain ⟨c, n, w⟩ := v
          have hcc : c = 0 := hg.2.1
          simp only at hvw
          unfold tv
          simp only [Val.mk.injEq, and_true]
          exact ⟨hcc.symm, hvw⟩
        rw [ev] at hbt
        obtain ⟨u, h3, h4⟩ := not_better (fun z ez => by
          cases e2 : Tw r.left.toNat with
          | none => rw [e2] at ez; cases ez
          | some w => rw [e2] at ez; cases ez; exact wf_tv (hW _ _ e2).2.2.1) hg.1 hbt
        cases e2 : Tw r.left.toNat with
        | none => rw [e2] at h3; cases h3
        | some w =>
          rw [e2] at h3
          have := (hW _ _ e2).2.1
          rw [if_pos hb]
          have eu : u = ⟨0, (X r.left.toNat).toNat, (some w).getD []⟩ := by
            rw [← Option.some.inj h3]
            unfold tv
            simp only [Option.getD_some, Val.mk.injEq, true_and, and_true]
            omega
          rw [← eu]; exact h4
      · refine .inl ?_
        rw [if_neg hb]
        obtain ⟨c, n, w⟩ := v
        have hcc : c = 0 := hg.2.1
        simp only at hx
        rcases hg.1 with ⟨h, _⟩ | ⟨_, h⟩
        · unfold maxL at h; simp only at h; omega
        · simp only at h
          simp only [Val.mk.injEq]
          exact ⟨hcc.symm, by omega, h.symm⟩
/-- the least words are the values of any such table -/
theorem sv_words (hL : LeastX K N X) (hK : KG N K (okS N tm)) (hW : WInv K N tm X Tw) (hc : ClosedW K X Tw) {V : Sym → Nat → Nat → Option Val} (hV : VO leafS emS 0 K (okS N tm) (GS tm) V) (hVc : Closed K (clL leafS 0) (clE emS 0) (clV 0 V)) (y : Sym) : V y 0 0 = VU N X Tw y 0 0 :=
  one_table (gokS N tm) hV hVc (vu_vo hL hK hW hc) (vu_closed hL hK hW hc) y (Nat.le_refl 0) (Nat.le_refl 0)
theorem sv_len (hL : LeastX K N X) {V : Sym → Nat → Nat → Option Val} (hV : VO leafS emS 0 K (okS N tm) (GS tm) V) (hVc : Closed K (clL leafS 0) (clE emS 0) (clV 0 V)) {A : Nat} (hA : A < N) : (match V ⟨false, (A : Int)⟩ 0 0 with | none => -1 | some v => (v.n : Int)) = X A := by
  cases e : V ⟨false, (A : Int)⟩ 0 0 with
  | none =>
    show (-1 : Int) = X A
    have h1 := hL.ge A hA
    by_cases h0 : 0 ≤ X A
    · obtain ⟨v, ⟨k, hd⟩, _⟩ := hL.ex A hA h0
      obtain ⟨_, u, h2, _⟩ := closed_le (fun y i j v e => hV.1 _ _ _ _ (cl_vp.1 e).2.2) (fun y i j v e => by unfold clL at e; split at e; exact wf_leafS _ e; cases e) (fun i j v e => by unfold clE at e; split at e; (cases e; exact wf_zero); cases e) hVc k _ _ _ _ hd
      have h3 := (cl_vp.1 h2).2.2
      rw [e] at h3; cases h3
    · omega
  | some v =>
    show (v.n : Int) = X A
    have h1 := (hV.2 _ 0 0 v (Nat.le_refl _) (Nat.le_refl _) e).1
    obtain ⟨h2, h3⟩ := hL.le A v hA h1
    obtain ⟨u, ⟨k, hd⟩, eu⟩ := hL.ex A hA h2
    have hu := (dr_wf k _ _ _ _ hd).2
    obtain ⟨_, x, h4, h5, h6⟩ := closed_le (fun y i j v e => hV.1 _ _ _ _ (cl_vp.1 e).2.2) (fun y i j v e => by unfold clL at e; split at e; exact wf_leafS _ e; cases e) (fun i j v e => by unfold clE at e; split at e; (cases e; exact wf_zero); cases e) hVc k _ _ _ _ hd
    have h7 := (cl_vp.1 h4).2.2
    rw [e] at h7
    cases h7
    rcases h6 with h6 | h6
    · rw [h6]; exact eu
    · rw [lt_iff] at h6
      have : v.n ≤ u.n := by
        rcases h6 with h | ⟨_, h | ⟨h, _⟩⟩
        · omega
        · omega
        · omega
      omega
end
end Hl
end Go.Proofs.Ytjpmebppdcclbaa
namespace Go.Proofs.Ytjpmebppdcclbaa
open Go.RowKit
namespace Df

end Df
end Go.Proofs.Ytjpmebppdcclbaa
namespace Go.Proofs.Ytjpmebppdcclbaa
open Go.RowKit
namespace Cs

def cap9 (x : Nat) : Int := min (x : Int) 1000000000
/-- how many first lengths have been reckoned in at place z, the rounds being at X, Y -/
def cp (X Y z : Nat) : Nat := min (z + 1) X + (if X ≤ z ∧ z < X + Y then 1 else 0)
/-- the sum so far -/
def ps (o : Sym → Nat → Nat) (l : List Sym) (s : Sym) (X Y z : Nat) : Nat := sumN (fun x => cN o l x * o s (z - x)) (cp X Y z)
/-- three rows: numbers, whether there are any, and any just so high -/
structure R3 (B p1 p2 p3 m : Nat) (V1 : Nat → Int) (V2 V3 : Nat → Bool) (W : World) : Prop where
  r1 : Vrow 3 p1 m (fun k => .int .i64 (V1 k)) W
  r2 : Ln.Brow p2 m V2 W
  r3 : Ln.Brow p3 m V3 W
  lo : B ≤ p1 ∧ B ≤ p2 ∧ B ≤ p3
  ne : p1 ≠ p2 ∧ p1 ≠ p3 ∧ p2 ≠ p3
section
variable {B p1 p2 p3 m : Nat} {V1 V1' : Nat → Int} {V2 V3 V2' V3' : Nat → Bool} {W W' : World}
theorem R3.keep (h : R3 B p1 p2 p3 m V1 V2 V3 W) (hb : Below W.heap.size W W') : R3 B p1 p2 p3 m V1 V2 V3 W' := ⟨h.r1.keep hb, h.r2.keep hb, h.r3.keep hb, h.lo, h.ne⟩
theorem R3.other (h : R3 B p1 p2 p3 m V1 V2 V3 W) {q : Nat} (h1 : p1 ≠ q) (h2 : p2 ≠ q) (h3 : p3 ≠ q) (j : Nat) (v : Value) : R3 B p1 p2 p3 m V1 V2 V3 (W.setCell ⟨q, j, none⟩ v) := ⟨h.r1.other h1 j v, h.r2.other h2 j v, h.r3.other h3 j v, h.lo, h.ne⟩
theorem R3.eq (h : R3 B p1 p2 p3 m V1 V2 V3 W) (h1 : ∀ k, k < m → V1 k = V1' k) (h2 : ∀ k, k < m → V2 k = V2' k) (h3 : ∀ k, k < m → V3 k = V3' k) : R3 B p1 p2 p3 m V1' V2' V3' W := ⟨h.r1.eq fun k hk => by rw [h1 k hk], h.r2.eq h2, h.r3.eq h3, h.lo, h.ne⟩
theorem R3.set1 (h : R3 B p1 p2 p3 m V1 V2 V3 W) {j : Nat} {x : Int} (hj : j < m) (he : ∀ k, k < m → V1' k = if k = j then x else V1 k) : R3 B p1 p2 p3 m V1' V2 V3 (W.setCell ⟨p1, j, none⟩ (.int .i64 x)) :=
  ⟨h.r1.set hj (fun k hk => by rw [he k hk]; split <;> rfl), h.r2.other (fun e => h.ne.1 e.symm) _ _, h.r3.other (fun e => h.ne.2.1 e.symm) _ _, h.lo, h.ne⟩
theorem R3.set2 (h : R3 B p1 p2 p3 m V1 V2 V3 W) {j : Nat} {x : Bool} (hj : j < m) (he : ∀ k, k < m → V2' k = if k = j then x else V2 k) : R3 B p1 p2 p3 m V1 V2' V3 (W.setCell ⟨p2, j, none⟩ (.bool x)) :=
  ⟨h.r1.other h.ne.1 _ _, Brow.setV h.r2 hj he, h.r3.other (fun e => h.ne.2.2 e.symm) _ _, h.lo, h.ne⟩
theorem R3.set3 (h : R3 B p1 p2 p3 m V1 V2 V3 W) {j : Nat} {x : Bool} (hj : j < m) (he : ∀ k, k < m → V3' k = if k = j then x else V3 k) : R3 B p1 p2 p3 m V1 V2 V3' (W.setCell ⟨p3, j, none⟩ (.bool x)) :=
  ⟨h.r1.other h.ne.2.1 _ _, h.r2.other h.ne.2.2 _ _, Brow.setV h.r3 hj he, h.lo, h.ne⟩
end
end Cs
end Go.Proofs.Ytjpmebppdcclbaa
namespace Go.Proofs.Ytjpmebppdcclbaa
open Go.RowKit
namespace Cs

section
variable {P : Program} {ops : Array Oper} {md : Region.Mode} {Q : Exit → Act → World → Prop} {S : World → Prop} {n : Nat}
end
/-- where the levels lie -/
structure Hs where
  hb : Nat
  tm : Nat
  ta : Nat
  tj : Nat
  rm : Nat → Nat
  ra : Nat → Nat
  rj : Nat → Nat
  lo : Nat
  hi : Nat
/-- what the rounds over the places keep -/
structure RX (W : World) (sx : Nat) (SB : Array Value) (p1 p2 p3 g1 g2 g3 m : Nat) (V1 : Nat → Int) (V2 V3 : Nat → Bool) (U1 : Nat → Int) (U2 U3 : Nat → Bool) (wr : World) : Prop where
  bel : Below W.heap.size W wr
  sbox : wr.heap[sx]? = some (.cells SB 44 (0, 0))
  pr : R3 W.heap.size p1 p2 p3 m V1 V2 V3 wr
  gr : R3 (sx + 1) g1 g2 g3 m U1 U2 U3 wr
  ps : p1 < sx ∧ p2 < sx ∧ p3 < sx ∧ W.heap.size ≤ sx
section
variable {W : World} {sx : Nat} {SB : Array Value} {p1 p2 p3 g1 g2 g3 m : Nat} {V1 : Nat → Int} {V2 V3 : Nat → Bool} {U1 U1' : Nat → Int} {U2 U3 U2' U3' : Nat → Bool} {wr w' : World}
theorem RX.eq (h : RX W sx SB p1 p2 p3 g1 g2 g3 m V1 V2 V3 U1 U2 U3 wr) (h1 : ∀ k, k < m → U1 k = U1' k) (h2 : ∀ k, k < m → U2 k = U2' k) (h3 : ∀ k, k < m → U3 k = U3' k) : RX W sx SB p1 p2 p3 g1 g2 g3 m V1 V2 V3 U1' U2' U3' wr := ⟨h.bel, h.sbox, h.pr, h.gr.eq h1 h2 h3, h.ps⟩
theorem RX.keep (h : RX W sx SB p1 p2 p3 g1 g2 g3 m V1 V2 V3 U1 U2 U3 wr) (hb : Below wr.heap.size wr w') : RX W sx SB p1 p2 p3 g1 g2 g3 m V1 V2 V3 U1 U2 U3 w' := ⟨h.bel.trans (hb.mono h.bel.size), bx_keep h.sbox hb, h.pr.keep hb, h.gr.keep hb, h.ps⟩
theorem RX.set1 (h : RX W sx SB p1 p2 p3 g1 g2 g3 m V1 V2 V3 U1 U2 U3 wr) {j : Nat} {x : Int} (hj : j < m) (he : ∀ k, k < m → U1' k = if k = j then x else U1 k) : RX W sx SB p1 p2 p3 g1 g2 g3 m V1 V2 V3 U1' U2 U3 (wr.setCell ⟨g1, j, none⟩ (.int .i64 x)) := by
  obtain ⟨h1, h2, h3, h4, h5⟩ := h
  have hl := h4.lo
  exact ⟨h1.setCell (p := ⟨g1, j, none⟩) (by show W.heap.size ≤ g1; omega) _, bx_other h2 (by omega) _ _, h3.other (by omega) (by omega) (by omega) _ _, h4.set1 hj he, h5⟩
theorem RX.set2 (h : RX W sx SB p1 p2 p3 g1 g2 g3 m V1 V2 V3 U1 U2 U3 wr) {j : Nat} {x : Bool} (hj : j < m) (he : ∀ k, k < m → U2' k = if k = j then x else U2 k) : RX W sx SB p1 p2 p3 g1 g2 g3 m V1 V2 V3 U1 U2' U3 (wr.setCell ⟨g2, j, none⟩ (.bool x)) := by
  obtain ⟨h1, h2, h3, h4, h5⟩ := h
  have hl := h4.lo
  exact ⟨h1.setCell (p := ⟨g2, j, none⟩) (by show W.heap.size ≤ g2; omega) _, bx_other h2 (by omega) _ _, h3.other (by omega) (by omega) (by omega) _ _, h4.set2 hj he, h5⟩
theorem RX.set3 (h : RX W sx SB p1 p2 p3 g1 g2 g3 m V1 V2 V3 U1 U2 U3 wr) {j : Nat} {x : Bool} (hj : j < m) (he : ∀ k, k < m → U3' k = if k = j then x else U3 k) : RX W sx SB p1 p2 p3 g1 g2 g3 m V1 V2 V3 U1 U2 U3' (wr.setCell ⟨g3, j, none⟩ (.bool x)) := by
  obtain ⟨h1, h2, h3, h4, h5⟩ := h
  have hl := h4.lo
  exact ⟨h1.setCell (p := ⟨g3, j, none⟩) (by show W.heap.size ≤ g3; omega) _, bx_other h2 (by omega) _ _, h3.other (by omega) (by omega) (by omega) _ _, h4.set3 hj he, h5⟩
end
def u1 (c : Nat → Nat → Nat) (l : List Sym) (s : Sym) (X Y z : Nat) : Int := cap9 (ps (oN c) l s X Y z)
def u2 (c : Nat → Nat → Nat) (l : List Sym) (s : Sym) (X Y z : Nat) : Bool := decide (0 < ps (oN c) l s X Y z)
def u3 (c c' : Nat → Nat → Nat) (l : List Sym) (s : Sym) (X Y z : Nat) : Bool := decide (ps (oN c') l s X Y z < ps (oN c) l s X Y z)
def v1 (c : Nat → Nat → Nat) (l : List Sym) (z : Nat) : Int := cap9 (cN (oN c) l z)
def v2 (c : Nat → Nat → Nat) (l : List Sym) (z : Nat) : Bool := decide (0 < cN (oN c) l z)
def v3 (c c' : Nat → Nat → Nat) (l : List Sym) (z : Nat) : Bool := decide (cN (oN c') l z < cN (oN c) l z)
end Cs
end Go.Proofs.Ytjpmebppdcclbaa
namespace Go.Proofs.Ytjpmebppdcclbaa
open Go.RowKit

/-- the operation, where its run is known -/
theorem wp_copyK {P : Program} (w : World) {o : Oper} {a : Act} {K : Act → World → Prop} {Q : Exit → Act → World → Prop} (d s : Operand) (t t' : TypeId)
    (ho : o.op = .call { callee := .builtin .copy, args := #[d, s], argTypes := #[t, t'] }) {v u v' : Value} {w' : World} (hd : a.eval d = v) (hs : a.eval s = u)
    (hr : (Builtin.copy_ #[t, t'] o.type #[v, u]).run P w = .ok v' w') (h : K (a.put o.dst v') w') : o.wp P a w K Q := by
  unfold Oper.wp execOp
  simp only [ho, resolve, invoke, builtin, Sem.run_bind, Sem.run_pure, Result.andThen_ok, List.map_toArray, List.map_cons, List.map_nil, hd, hs, hr]
  exact h
theorem wpl_copyK {P : Program} (w : World) {ops : Array Oper} {rest : List Oper} {o : Oper} {a : Act} {Q : Exit → Act → World → Prop} (hgd : o.guard = none) (d s : Operand) (t t' : TypeId)
    (ho : o.op = .call { callee := .builtin .copy, args := #[d, s], argTypes := #[t, t'] }) {v u v' : Value} {w' : World} (hd : a.eval d = v) (hs : a.eval s = u)
    (hr : (Builtin.copy_ #[t, t'] o.type #[v, u]).run P w = .ok v' w') (h : wpList P ops Q rest (a.put o.dst v') w') : wpList P ops Q (o :: rest) a w :=
  wpList_plain hgd fun _ hK => wp_copyK w d s t t' ho hd hs hr (hK _ _ h)
theorem step_copyK {P : Program} {ops : Array Oper} {o : Oper} {a : Act} {w : World} {K : Act → World → Prop} {Q : Exit → Act → World → Prop} {E : Prop} (hg : o.guard = none) (d x : Operand) (dT sT : TypeId)
    (hop : o.op = .call { callee := .builtin .copy, args := #[d, x], argTypes := #[dT, sT] }) {v u v' : Value} {w' : World} (hd : a.eval d = v) (hx : a.eval x = u)
    (hr : (Builtin.copy_ #[dT, sT] o.type #[v, u]).run P w = .ok v' w') (hK : K (a.put o.dst v') w') : if Region.wanted o (yielded ops a.tmps) = true then Oper.wp P o a w K Q else E := by
  have hw : Region.wanted o (yielded ops a.tmps) = true := by simp [Region.wanted, hg]
  rw [if_pos hw]
  exact wp_copyK w d x dT sT hop hd hx hr hK
end Go.Proofs.Ytjpmebppdcclbaa
namespace Go.Proofs.Ytjpmebppdcclbaa
open Go.RowKit
namespace Cs

set_option maxHeartbeats 4000000 in
theorem mul64E (N : Nat) (h1 : 1 ≤ N) (h2 : N ≤ 16) (W : World) : Calls Try.prog 119 #[.int .u64 1, .int .u64 (N : Int)] W fun e w' => e = .returned (.tuple #[.int .u64 0, .int .u64 (N : Int)]) ∧ W = w' := by
  have h : N = 1 ∨ N = 2 ∨ N = 3 ∨ N = 4 ∨ N = 5 ∨ N = 6 ∨ N = 7 ∨ N = 8 ∨ N = 9 ∨ N = 10 ∨ N = 11 ∨ N = 12 ∨ N = 13 ∨ N = 14 ∨ N = 15 ∨ N = 16 := by omega
  rcases h with rfl | rfl | rfl | rfl | rfl | rfl | rfl | rfl | rfl | rfl | rfl | rfl | rfl | rfl | rfl | rfl <;> (
    go_enter Try.func119, Try.ntmps119
    go_wp2_with fail
    refine bodyPost_ret (results_tmp2 Try.results119 _ _ _) rfl ?_
    exact ⟨rfl, rfl⟩)
set_option maxHeartbeats 4000000 in
theorem mulE (N : Nat) (h1 : 1 ≤ N) (h2 : N ≤ 16) (W : World) : Calls Try.prog 117 #[.int .u64 1, .int .u64 (N : Int)] W fun e w' => e = .returned (.tuple #[.int .u64 0, .int .u64 (N : Int)]) ∧ W = w' := by
  have HM := Lib.hid (mul64E N h1 h2)
  go_enter Try.func117, Try.ntmps117
  go_wp2_with fail
  with_reducible refine (HM.out _).mono ?_
  rintro e w1 ⟨rfl, rfl⟩
  go_wp2_with fail
  refine bodyPost_ret (results_tmp2 Try.results117 _ _ _) rfl ?_
  exact ⟨rfl, rfl⟩
theorem vrow_cells {e : TypeId} {p m : Nat} {x : Value} : ∀ (k o : Nat) (A : Nat → Value) (w : World), o + k ≤ m → Vrow e p m A w → Vrow e p m (fun j => if o ≤ j ∧ j < o + k then x else A j) (w.setCells p o (List.replicate k x))
  | 0, o, A, w, _, h => h.eq (fun j _ => by rw [if_neg (by omega)])
  | k + 1, o, A, w, hk, h => by
    rw [List.replicate_succ]
    show Vrow e p m _ ((w.setCell ⟨p, o, none⟩ x).setCells p (o + 1) (List.replicate k x))
    have h1 := h.set (A' := fun j => if j = o then x else A j) (j := o) (x := x) (by omega) (fun j _ => rfl)
    refine (vrow_cells k (o + 1) _ _ (by omega) h1).eq (fun j _ => ?_)
    by_cases e1 : o + 1 ≤ j ∧ j < o + 1 + k
    · rw [if_pos e1, if_pos (by omega)]
    · rw [if_neg e1]
      by_cases e2 : j = o
      · rw [if_pos e2, if_pos (by omega)]
      · rw [if_neg e2, if_neg (by omega)]
theorem below_cells {B p : Nat} {w0 : World} (hp : B ≤ p) : ∀ (l : List Value) (o : Nat) (w : World), Below B w0 w → Below B w0 (w.setCells p o l)
  | [], _, _, h => h
  | x :: l, o, w, h => below_cells hp l (o + 1) _ (h.setCell (p := ⟨p, o, none⟩) hp x)
set_option maxHeartbeats 4000000 in
set_option maxRecDepth 100000 in
theorem repE (N : Nat) (h1 : 1 ≤ N) (h2 : N ≤ 16) (x : Int) (a : Option Addr) (c : Nat) (W : World) (hs : Sl W (.slice a 1 c) (ints [x])) :
    Calls Try.prog 113 #[.slice a 1 c, .int .i64 (N : Int)] W fun e w' => ∃ p, e = .returned (.slice (some ⟨p, 0, none⟩) N N) ∧ Vrow 3 p N (fun _ => .int .i64 x) w' ∧ W.heap.size ≤ p ∧ Below W.heap.size W w' := by
  obtain ⟨PST, HP⟩ := nameIt (fun (e : Ending) (w' : World) => ∃ p, e = .returned (.slice (some ⟨p, 0, none⟩) N N) ∧ Vrow 3 p N (fun _ => .int .i64 x) w' ∧ W.heap.size ≤ p ∧ Below W.heap.size W w')
  rw [HP.out]
  have HFIN : Hid (∀ p w', Vrow 3 p N (fun _ => .int .i64 x) w' → W.heap.size ≤ p → Below W.heap.size W w' → PST (.returned (.slice (some ⟨p, 0, none⟩) N N)) w') := by
    intro p w' q1 q2 q3; rw [← HP.out]; exact ⟨p, rfl, q1, q2, q3⟩
  have HMU := Lib.hid (mulE N h1 h2)
  obtain ⟨bx, ox, hae, hcx⟩ := hs.at (k := 0) (by simp [ints])
  subst hae
  have hc0 : W.cell? ⟨bx, ox, none⟩ = some (.int .i64 x) := by simpa [ints] using hcx 0 (by simp [ints])
  have hmk : ∀ W : World, (Instr.makeSlice 25 (.int .i64 (N : Int)) (.int .i64 (N : Int))).run Try.prog W = .ok (.slice (some ⟨W.heap.size, 0, none⟩) N N) (W.alloc (.cells (madeCells #[.int .i64 0] N) 3)) := fun W => by
    have := run_make_row' (P := Try.prog) 25 3 (.int .i64 0) 8 Try.underlying25 (by kernel_rfl) rfl .i64 .i64 N (by omega) (by omega) W
    simpa using this
  have hn0 : decide ((N : Int) < 0) = false := by simp
  have hn1 : decide ((9223372036854775807 : Int) < (N : Int)) = false := by simp; omega
  clear hcx hs HP
  go_enter Try.func113, Try.ntmps113
  have hinf : (Try.prog.info? 3).map (·.size) = some 1 := by kernel_rfl
  have HINF := Lib.hid hinf
  clear hinf
  obtain ⟨z, HZ⟩ := nameIt (Value.int .i64 x)
  have HZ1 : Hid (z.oneCell' = true) := by rw [← HZ.out]; rfl
  rw [HZ.out] at hc0
  simp only [HZ.out] at HFIN
  have hg1 : decide (0 < (0 : Int)) = false := rfl
  have hg2 : decide ((9223372036854775807 : Int) < (N : Int)) = false := hn1
  go_wp2_with fail
  with_reducible refine (HMU.out _).mono ?_
  rintro e w1 ⟨rfl, rfl⟩
  go_upto_region 6 with fail
  obtain ⟨w2, HW2⟩ := nameIt (W.alloc (.cells (madeCells #[.int .i64 0] N) 3))
  obtain ⟨p, HPN⟩ := nameIt W.heap.size
  have hv2 : Vrow 3 p N (fun _ => .int .i64 0) w2 := by rw [← HW2.out]; exact vrow_new W _ _ N HPN.out.symm
  have hb2 : Below W.heap.size W w2 := by rw [← HW2.out]; exact (Below.refl _ _).alloc (Nat.le_refl _) _
  have hbxl : bx < W.heap.size := lt_of_cell hc0
  have hc2 := (hb2.cell (p := ⟨bx, ox, none⟩) hbxl).trans hc0
  have hpp : W.heap.size ≤ p := by have := HPN.out; omega
  have hcp1 : ∀ ty, (Builtin.copy_ #[25, 25] ty #[.slice (some ⟨p, 0, none⟩) N N, .slice (some ⟨bx, ox, none⟩) 1 c]).run Try.prog w2 = .ok (goInt 1) (w2.setCells p 0 [z]) := by
    intro ty
    have h := run_copy_cells (P := Try.prog) w2 25 25 ty 3 p 0 N N ⟨bx, ox, none⟩ 1 c [z] Try.underlying25 HINF.out (by show 1 = min 1 N; omega)
      (fun j v hj => by
        obtain rfl : j = 0 := by
          have := (List.getElem?_eq_some_iff.1 hj).1
          simp at this; exact this
        simp at hj; subst hj
        simpa [Addr.add] using hc2)
      (fun j hj => by rw [hv2.cell (k := 0 + j) (by simp at hj; omega)]; rfl) (fun j _ => hv2.free _) (fun v hv => by simp at hv; subst hv; exact HZ1.out)
    simpa using h
  have hv3 := vrow_cells (x := z) 1 0 _ w2 (by omega) hv2
  have hb3 := below_cells (B := W.heap.size) hpp (List.replicate 1 z) 0 w2 hb2
  rw [show List.replicate 1 z = [z] from rfl] at hv3 hb3
  obtain ⟨w3, HW3⟩ := nameIt (w2.setCells p 0 [z])
  rw [HW3.out] at hcp1 hv3 hb3
  have HV3 : Hid (Vrow 3 p N (fun j => if j < 1 then z else .int .i64 0) w3) := hv3.eq (fun k _ => by
    by_cases h : k < 1
    · rw [if_pos (by omega), if_pos h]
    · rw [if_neg (by omega), if_neg h])
  have HB3 := Lib.hid hb3
  have HPW := Lib.hid hpp
  clear hv2 hv3 hb3 hb2 hc2 hbxl
  go_upto_region 7 with fail
  rw [HW2.out, HPN.out]
  go_wp2_with (at_builtin; refine wpl_copyK _ rfl _ _ 25 25 rfl rfl rfl (hcp1 _) ?_)
  clear hcp1 hc0
  go_loopg [8] N (fun gg v8 wr => ∃ k : Nat, 1 ≤ k ∧ k ≤ N ∧ N - k ≤ gg ∧ v8 = .int .i64 k ∧ Hid (Vrow 3 p N (fun j => if j < k then z else .int .i64 0) wr) ∧ Hid (Below W.heap.size W wr))
  case atStart => exact ⟨1, by omega, by omega, by omega, rfl, HV3, HB3⟩
  case round =>
    clear HV3 HB3
    obtain ⟨k, hk1, hkN, hgk, rfl, HV, HB⟩ := hrel
    obtain ⟨w5, rfl⟩ : ∃ ww : World, ww = wr := ⟨_, rfl⟩
    by_cases hlt : k < N
    · have hlt' : (k : Int) < (N : Int) := by omega
      obtain ⟨m, HM⟩ := nameIt (min k (N - k))
      have hm1 : 1 ≤ m ∧ m ≤ k ∧ k + m ≤ N := by have := HM.out; omega
      have hcp2 : ∀ ty dc sc, (Builtin.copy_ #[25, 25] ty #[.slice (some ⟨p, k, none⟩) (N - k) dc, .slice (some ⟨p, 0, none⟩) k sc]).run Try.prog w5.drew = .ok (goInt (m : Int)) (w5.drew.setCells p k (List.replicate m z)) := by
        intro ty dc sc
        have hv5 := HV.out.keep ((Below.refl _ _).drew)
        have h := run_copy_cells (P := Try.prog) w5.drew 25 25 ty 3 p k (N - k) dc ⟨p, 0, none⟩ k sc (List.replicate m z) Try.underlying25 HINF.out (by rw [List.length_replicate]; exact HM.out.symm)
          (fun j v hj => by
            have hjm : j < m := by have := (List.getElem?_eq_some_iff.1 hj).1; simpa using this
            have hvz : v = z := by rw [List.getElem?_replicate, if_pos hjm] at hj; exact (Option.some.inj hj).symm
            have := hv5.cell (k := j) (by omega)
            rw [if_pos (by omega)] at this
            rw [hvz]
            have e : (⟨p, 0, none⟩ : Addr).add j = ⟨p, j, none⟩ := by unfold Addr.add; by_cases e : j = 0 <;> simp [e]
            rw [e]; exact this)
          (fun j hj => by rw [hv5.cell (k := k + j) (by simp at hj; omega)]; rfl) (fun j _ => hv5.free _) (fun v hv => by rw [List.eq_of_mem_replicate hv]; exact HZ1.out)
        simpa using h
      have hv6 := vrow_cells (x := z) m k _ w5.drew (by omega) (HV.out.keep ((Below.refl _ _).drew))
      have hb6 := below_cells (B := W.heap.size) HPW.out (List.replicate m z) k w5.drew HB.out.drew
      obtain ⟨w6, HW6⟩ := nameIt (w5.drew.setCells p k (List.replicate m z))
      rw [HW6.out] at hcp2 hv6 hb6
      have HV6 : Hid (Vrow 3 p N (fun j => if j < k + m then z else .int .i64 0) w6) := hv6.eq (fun j _ => by
        by_cases h : k ≤ j ∧ j < k + m
        · rw [if_pos h, if_pos h.2]
        · rw [if_neg h]
          by_cases h2 : j < k
          · rw [if_pos h2, if_pos (by omega)]
          · rw [if_neg h2, if_neg (by omega)])
      have HB6 := Lib.hid hb6
      have hk0 : (0 : Int) ≤ (k : Int) := by omega
      have hkN' : (k : Int) ≤ (N : Int) := by omega
      obtain ⟨km, HKM⟩ := nameIt (k + m)
      have hw : IntKind.i64.wrap ((k : Int) + (m : Int)) = (km : Int) := by rw [IntWalk.i64_in _ (by omega), ← HKM.out]; omega
      have hne : ¬ N = k := by omega
      rw [HKM.out] at HV6
      have hkm : 1 ≤ km ∧ km ≤ N ∧ k < km := by have := HKM.out; omega
      clear hv6 hb6 HV HB HM HKM
      go_upto_region 9 with fail
      go_region_law (refine step_copyK rfl _ _ 25 25 rfl (by simp [Act.eval, Act.put]; try rfl) (by simp [Act.eval, Act.put]; try rfl) (hcp2 _ _ _) ?_)
      all_goals first | (go_wp2_with fail
                         go_roundg (N - km)
                         case measure => omega
                         case rel => exact ⟨km, by omega, by omega, by omega, by go_num, HV6, HB6⟩) | fail
    · have hlt' : ¬ (k : Int) < (N : Int) := by omega
      have hke : k = N := by omega
      subst hke
      have HE := Lib.hid (HFIN.out p w5 (HV.out.eq (fun j hj => by rw [if_pos hj])) HPW.out HB.out)
      go_wp2_with fail
      exact HE.out
end Cs
end Go.Proofs.Ytjpmebppdcclbaa
namespace Go.Proofs.Ytjpmebppdcclbaa
open Go.RowKit
namespace Cs

/-- a table of lengths in memory -/
structure LTb (rules : List Rule) (N : Nat) (W0 : World) (p : Nat) (X : Nat → Int) (wr : World) : Prop where
  row : Vrow 3 p N (fun A => .int .i64 (X A)) wr
  snd : SoundV rules X
  bd : BdV X N
  bel : Below W0.heap.size W0 wr
  lo : W0.heap.size ≤ p
section
variable {rules : List Rule} {N p : Nat} {W0 wr w' : World} {X X' : Nat → Int}
theorem LTb.keep (h : LTb rules N W0 p X wr) (hb : Below wr.heap.size wr w') : LTb rules N W0 p X w' := ⟨h.row.keep hb, h.snd, h.bd, h.bel.trans (hb.mono h.bel.size), h.lo⟩
theorem LTb.set (h : LTb rules N W0 p X wr) {A : Nat} {v : Int} (hA : A < N) (hs : SoundV rules (setV X A v)) (hb : BdV (setV X A v) N) : LTb rules N W0 p (setV X A v) (wr.setCell ⟨p, A, none⟩ (.int .i64 v)) :=
  ⟨h.row.set hA (fun k _ => by unfold setV; split <;> rfl), hs, hb, h.bel.setCell (p := ⟨p, A, none⟩) h.lo _, h.lo⟩
/-- the rules so far are met -/
def ClosedTo (rules : List Rule) (i : Nat) (X : Nat → Int) : Prop := ∀ r ∈ rules.take i, 0 ≤ sumV X r.right → 0 ≤ X r.left.toNat ∧ X r.left.toNat ≤ sumV X r.right
theorem closedTo_next {i : Nat} (hi : i < rules.length) (h : ClosedTo rules i X) (hr : 0 ≤ sumV X rules[i].right → 0 ≤ X rules[i].left.toNat ∧ X rules[i].left.toNat ≤ sumV X rules[i].right) : ClosedTo rules (i + 1) X := by
  intro r hm
  rw [List.take_succ_eq_append_getElem hi, List.mem_append] at hm
  rcases hm with hm | hm
  · exact h r hm
  · simp at hm; subst hm; exact hr
end
def LnPost (rules : List Rule) (N : Nat) (w : World) (e : Ending) (w' : World) : Prop :=
  ∃ p X, e = .returned (.slice (some ⟨p, 0, none⟩) N N) ∧ Vrow 3 p N (fun A => .int .i64 (X A)) w' ∧ LeastV rules N X ∧ w.heap.size ≤ p ∧ Below w.heap.size w w'
set_option maxHeartbeats 8000000 in
set_option maxRecDepth 100000 in
theorem lengthsE (g : Gram) (N : Nat) (hok : OkC g N) (hr4 : ∀ r ∈ g.rules, r.right.length ≤ 4) (ra : Option Addr) (rcap : Nat) (w : World) (hr : Rd AnyB w (.sl (g.rules.map Rule.d)) [.slice ra g.rules.length rcap]) :
    Calls Try.prog 100 #[.agg #[.int .i64 g.terms, .int .i64 g.nons, .int .i64 g.start, .slice ra g.rules.length rcap]] w (LnPost g.rules N w) := by
  have hN1 := hok.n1
  have hN2 := hok.n2
  have HGR := Lib.hid hok.r
  have HLF := Lib.hid hok.l
  have H4 := Lib.hid hr4
  have HL0 : Hid (∀ r ∈ g.rules, 0 ≤ r.left) := fun r hr => (hok.l r hr).1
  have hnn := hok.nons
  rw [hnn]
  obtain ⟨w0, HW0⟩ := nameIt (w.alloc (.cells #[.int .i64 g.terms, .int .i64 (N : Int), .int .i64 g.start, .slice ra g.rules.length rcap] 24))
  have hb0 : Below w.heap.size w w0 := by rw [← HW0.out]; exact (Below.refl _ _).alloc (Nat.le_refl _) _
  have X0 : Hid (w0.heap[w.heap.size]? = some (.cells #[.int .i64 g.terms, .int .i64 (N : Int), .int .i64 g.start, .slice ra g.rules.length rcap] 24 (0, 0))) := by rw [← HW0.out]; exact bx_new _ _ _ rfl
  have HRD := Lib.hid (hr.below hb0)
  obtain ⟨PST, HP⟩ := nameIt (LnPost g.rules N w)
  rw [HP.out]
  have HFIN : Hid (∀ p X w', LTb g.rules N w0 p X w' → ClosedV g.rules X → PST (.returned (.slice (some ⟨p, 0, none⟩) N N)) w') := by
    intro p X w' h1 h2
    rw [← HP.out]
    exact ⟨p, X, rfl, h1.row, closed_least h1.snd HL0.out h2 N, Nat.le_trans hb0.size h1.lo, hb0.trans (h1.bel.mono hb0.size)⟩
  have hbs := hr.bounds.2
  unfold maxLen at hbs
  obtain ⟨hcv1, hcv2⟩ := hbs
  obtain ⟨gt, HGT⟩ := nameIt g.terms
  obtain ⟨gs, HGS⟩ := nameIt g.start
  obtain ⟨rl, HRL⟩ := nameIt g.rules.length
  rw [HGT.out, HGS.out, HRL.out] at HW0 X0
  rw [HRL.out] at HRD hcv1
  rw [HGT.out, HGS.out, HRL.out]
  have HREP : Hid (∀ W a c, Sl W (.slice a 1 c) (ints [-1]) → Calls Try.prog 113 #[.slice a 1 c, .int .i64 (N : Int)] W fun e w' => ∃ p, e = .returned (.slice (some ⟨p, 0, none⟩) N N) ∧ Vrow 3 p N (fun _ => .int .i64 (-1)) w' ∧ W.heap.size ≤ p ∧ Below W.heap.size W w') := fun W a c h => repE N hN1 (by omega) (-1) a c W h
  obtain ⟨gb, HGBN⟩ := nameIt w.heap.size
  rw [HGBN.out] at X0
  obtain ⟨x0, x1, x2, x3⟩ := bx_cells4 X0.out
  clear hb0 hr HP hok hr4 hnn
  go_enter Try.func100, Try.ntmps100
  go_upto_region 1 with fail
  rw [HW0.out, HGBN.out]
  have hb1 : Below w0.heap.size w0 (w0.alloc (.cells #[.int .i64 (-1)] 3)) := (Below.refl _ _).alloc (Nat.le_refl _) _
  have Z1 : Hid ((w0.alloc (.cells #[.int .i64 (-1)] 3)).heap[w0.heap.size]? = some (.cells #[.int .i64 (-1)] 3 (0, 0))) := bx_new _ _ _ rfl
  have hs1 : Sl (w0.alloc (.cells #[.int .i64 (-1)] 3)) (.slice (some ⟨w0.heap.size, 0, none⟩) 1 1) (ints [-1]) := by
    refine ⟨some ⟨w0.heap.size, 0, none⟩, 1, rfl, by simp [ints], by unfold maxLen; omega, (fun h => by cases h), fun i hi => ⟨_, rfl, ?_⟩⟩
    simp [ints] at hi
    subst hi
    simp [ints, Addr.add]
  have HR1 := Lib.hid (HREP.out _ _ _ hs1)
  obtain ⟨y0, y1, y2, y3⟩ := bx_cells4 (bx_keep X0.out hb1)
  clear x0 x1 x2 x3 hs1 HREP Z1
  go_wp2_with fail
  with_reducible refine HR1.out.mono ?_
  rintro e w2 ⟨p, rfl, hv2, hp2, hb2⟩
  have HB2 : Hid (Below w0.heap.size w0 w2) := hb1.trans (hb2.mono hb1.size)
  have HPL : Hid (w0.heap.size ≤ p) := Nat.le_trans hb1.size hp2
  have HL2 : Hid (LTb g.rules N w0 p (fun _ => -1) w2) := ⟨hv2, sound_start, bd_start, HB2.out, HPL.out⟩
  clear hv2 hp2 hb2 hb1 HR1 y0 y1 y2 y3 HB2
  go_wp2_with fail
  go_loopg [4] (muV (fun _ => -1) N + 1) (fun gg v4 wr => ∃ (ag : Bool) (X : Nat → Int), v4 = .bool ag ∧ (ag = true → muV X N + 1 ≤ gg) ∧ Hid (LTb g.rules N w0 p X wr) ∧ Hid (ag = false → ClosedV g.rules X))
  case atStart => exact ⟨true, fun _ => -1, rfl, (fun _ => Nat.le_refl _), HL2, (fun e => by cases e)⟩
  case round =>
    clear HL2
    obtain ⟨ag, X, rfl, hgg, HL, HAG⟩ := hrel
    obtain ⟨w3, rfl⟩ : ∃ ww : World, ww = wr := ⟨_, rfl⟩
    cases ag with
    | false =>
      have HE := Lib.hid (HFIN.out p X w3 HL.out (HAG.out rfl))
      clear hgg HAG
      go_wp2_with fail
      exact HE.out
    | true =>
      have hgg' := hgg rfl
      obtain ⟨mu, HMU⟩ := nameIt (muV X N)
      rw [HMU.out] at hgg'
      obtain ⟨x0, x1, x2, x3⟩ := bx_cells4 (bx_keep X0.out HL.out.bel)
      have HC0 : Hid (ClosedTo g.rules 0 X) := fun r hr => by simp at hr
      clear hgg HAG
      go_wp2_with fail
      clear x0 x1 x2 x3
      go_loopg [4, 19] rl (fun gg v4 v19 wr => ∃ (i : Nat) (Y : Nat → Int) (b : Bool), i ≤ rl ∧ rl - i ≤ gg ∧ v4 = .bool b ∧ v19 = .int .i64 i ∧ Hid (LTb g.rules N w0 p Y wr) ∧ Hid (b = false → Y = X ∧ ClosedTo g.rules i X) ∧ Hid (b = true → muV Y N < mu))
      case atStart => exact ⟨0, X, false, by omega, by omega, rfl, rfl, HL, (fun _ => ⟨rfl, HC0.out⟩), (fun e => by cases e)⟩
      case round =>
        clear HL HC0
        obtain ⟨i, Y, b, hi, hg2, rfl, rfl, HL, HC, HM⟩ := hrel
        obtain ⟨w4, rfl⟩ : ∃ ww : World, ww = wr := ⟨_, rfl⟩
        by_cases hlt : i < rl
        · have hlt' : (i : Int) < (rl : Int) := by omega
          have hi0 : (0 : Int) ≤ (i : Int) := by omega
          have hix : i < g.rules.length := by rw [HRL.out]; exact hlt
          obtain ⟨rbk, ro, rv, hae, -, hrb, r0, r1, hrr⟩ := HRD.out.rule_at hix
          obtain ⟨ar, cr, rfl, hcr1, hcr2⟩ := hrr.form
          rw [List.length_map] at r1 hrr hcr1
          unfold maxLen at hcr2
          have HRR := Lib.hid hrr
          have t0 := (HL.out.bel.cell (lt_of_cell r0)).trans r0
          have t1 := (HL.out.bel.cell (lt_of_cell r1)).trans r1
          have HOKR := Lib.hid (HGR.out _ (List.getElem_mem hix))
          have HOKL := Lib.hid (HLF.out _ (List.getElem_mem hix))
          have hr4 := H4.out _ (List.getElem_mem hix)
          have HMEM := Lib.hid (List.getElem_mem hix)
          have HNX : Hid (ClosedTo g.rules i X → (0 ≤ sumV X g.rules[i].right → 0 ≤ X g.rules[i].left.toNat ∧ X g.rules[i].left.toNat ≤ sumV X g.rules[i].right) → ClosedTo g.rules (i + 1) X) := fun h1 h2 => closedTo_next hix h1 h2
          obtain ⟨r, HRN⟩ := nameIt (g.rules[i]'hix)
          rw [HRN.out] at t0 t1 HRR HOKR HOKL hcr1 hr4 HMEM HNX
          obtain ⟨rt, HRT⟩ := nameIt r.right
          rw [HRT.out] at t1 HRR HOKR hcr1 hr4 HNX
          obtain ⟨rn, HRNL⟩ := nameIt rt.length
          rw [HRNL.out] at t1 HRR hcr1 hr4
          obtain ⟨A, hA⟩ : ∃ A : Nat, r.left = (A : Int) := ⟨r.left.toNat, by have := HOKL.out.1; omega⟩
          have hAN : A < N := by have := HOKL.out.2; rw [hA] at this; simpa using this
          have HAL : Hid (r.left = (A : Int)) := hA
          rw [hA] at t0
          have HLEFT : Hid (r.left.toNat = A) := by show _ = _; rw [hA]; simp
          rw [HLEFT.out] at HNX
          obtain ⟨w5, HW5⟩ := nameIt (w4.alloc (.cells #[.int .i64 (A : Int), .slice ar rn cr] 69))
          have hb5 : Below w4.heap.size w4 w5 := by rw [← HW5.out]; exact (Below.refl _ _).alloc (Nat.le_refl _) _
          have HL5 := Lib.hid (HL.out.keep hb5)
          have Y5 : Hid (w5.heap[w4.heap.size]? = some (.cells #[.int .i64 (A : Int), .slice ar rn cr] 69 (0, 0))) := by rw [← HW5.out]; exact bx_new _ _ _ rfl
          have HPW : Hid (p < w4.heap.size) := HL.out.row.lt
          obtain ⟨rbx, HRBX⟩ := nameIt w4.heap.size
          rw [HRBX.out] at Y5 HPW
          have HSG : Hid (∀ j, -1 ≤ sumV Y (rt.take j) ∧ sumV Y (rt.take j) ≤ 4194304) := fun j => ⟨sum_ge _, sum_le HL.out.bd hN2 (by rw [List.length_take]; rw [← HRNL.out] at hr4; omega)⟩
          have HXB : Hid (∀ B, -1 ≤ Y B ∧ Y B ≤ 1048576) := fun B => ⟨(HL.out.snd B).1, HL.out.bd.le hN2 B⟩
          subst hae
          clear hrr r0 r1 hA hb5
          go_upto_region 8 with fail
          rw [HW5.out, HRBX.out]
          clear t0 t1 HW5 HRBX HL
          obtain ⟨y0, y1⟩ := bx_cells2 Y5.out
          go_wp2_with fail
          clear y0 y1
          go_loopg [7, 26] rn (fun gg v7 v26 wr => ∃ (j : Nat), j ≤ rn ∧ rn - j ≤ gg ∧ v7 = .int .i64 (sumV Y (rt.take j)) ∧ v26 = .int .i64 j ∧ Hid (LTb g.rules N w0 p Y wr) ∧ Hid (wr.heap[rbx]? = some (.cells #[.int .i64 (A : Int), .slice ar rn cr] 69 (0, 0))))
          case atStart => exact ⟨0, by omega, by omega, rfl, rfl, HL5, Y5⟩
          case round =>
            clear HL5 Y5
            obtain ⟨j, hj, hg3, rfl, rfl, HL5, Y5⟩ := hrel
            obtain ⟨w6, rfl⟩ : ∃ ww : World, ww = wr := ⟨_, rfl⟩
            by_cases hjm : j < rn
            · have hjm' : (j : Int) < (rn : Int) := by omega
              have hj0 : (0 : Int) ≤ (j : Int) := by omega
              have hjx : j < rt.length := by rw [HRNL.out]; exact hjm
              obtain ⟨sb, so, hae, -, hsb, s0, s1⟩ := (show Rd AnyB w0 (.sl (rt.map Sym.d)) [.slice ar rt.length cr] by rw [HRNL.out]; exact HRR.out).sym_at hjx
              have u0 := (HL5.out.bel.cell (lt_of_cell s0)).trans s0
              have u1 := (HL5.out.bel.cell (lt_of_cell s1)).trans s1
              have HSN : Hid (sumV Y (rt.take (j + 1)) = stepV Y (sumV Y (rt.take j)) rt[j]) := by show _ = _; rw [List.take_succ_eq_append_getElem hjx, stepV_snoc]
              have HOS := Lib.hid (HOKR.out _ (List.getElem_mem hjx))
              have hg1 := HSG.out j
              have hg2' := HSG.out (j + 1)
              obtain ⟨⟨st, sn⟩, HSY⟩ := nameIt (rt[j]'hjx)
              rw [HSY.out] at u0 u1 HSN HOS
              obtain ⟨sj, HSJ⟩ := nameIt (sumV Y (rt.take j))
              obtain ⟨sk, HSK⟩ := nameIt (sumV Y (rt.take (j + 1)))
              rw [HSJ.out] at HSN hg1
              rw [HSK.out] at HSN hg2'
              rw [HSJ.out]
              simp only at u0 u1
              obtain ⟨w7, HW7⟩ := nameIt (w6.alloc (.cells #[.bool st, .int .i64 sn] 44))
              have hb7 : Below w6.heap.size w6 w7 := by rw [← HW7.out]; exact (Below.refl _ _).alloc (Nat.le_refl _) _
              have HL7 := Lib.hid (HL5.out.keep hb7)
              have Y7 := Lib.hid (bx_keep Y5.out hb7)
              have S7 : Hid (w7.heap[w6.heap.size]? = some (.cells #[.bool st, .int .i64 sn] 44 (0, 0))) := by rw [← HW7.out]; exact bx_new _ _ _ rfl
              subst hae
              clear s0 s1 hb7
              go_upto_region 13 with fail
              rw [HW7.out]
              clear u0 u1 HW7
              obtain ⟨z0, z1⟩ := bx_cells2 S7.out
              have HFN : Hid (Value.int .i64 sk = .int .i64 (sumV Y (rt.take (j + 1)))) := by show _ = _; rw [HSK.out]
              by_cases hs0 : 0 ≤ sj
              · cases st with
                | true =>
                  have hw : IntKind.i64.wrap (sj + 1) = sk := by
                    have : sk = sj + 1 := by rw [HSN.out]; unfold stepV; rw [if_pos hs0]; rfl
                    rw [IntWalk.i64_in _ (by omega)]; exact this.symm
                  go_wp2_with fail
                  go_roundg (rn - (j + 1))
                  case measure => omega
                  case rel => exact ⟨j + 1, by omega, by omega, HFN.out, by go_num, HL7, Y7⟩
                | false =>
                  obtain ⟨hq1, hq2⟩ := HOS.out rfl
                  simp only at hq1 hq2
                  obtain ⟨B, rfl⟩ : ∃ B : Nat, sn = (B : Int) := ⟨sn.toNat, by omega⟩
                  rw [Int.toNat_natCast] at hq2
                  have hB0 : (0 : Int) ≤ (B : Int) := by omega
                  have hB1 : (B : Int) < (N : Int) := by omega
                  have q0 := HL7.out.row.cell hq2
                  have hyb := HXB.out B
                  have HST : Hid (sk = if 0 ≤ Y B then sj + Y B else -1) := by show _ = _; rw [HSN.out]; unfold stepV; rw [if_pos hs0]; rfl
                  obtain ⟨yb, HYB⟩ := nameIt (Y B)
                  rw [HYB.out] at q0 hyb HST
                  by_cases hy : 0 ≤ yb
                  · have hw : IntKind.i64.wrap (sj + yb) = sk := by
                      have : sk = sj + yb := by rw [HST.out, if_pos hy]
                      rw [IntWalk.i64_in _ (by omega)]; exact this.symm
                    go_wp2_with fail
                    go_roundg (rn - (j + 1))
                    case measure => omega
                    case rel => exact ⟨j + 1, by omega, by omega, HFN.out, by go_num, HL7, Y7⟩
                  · have hsk : sk = -1 := by rw [HST.out, if_neg hy]
                    have hy' : yb < 0 := by omega
                    rw [hsk] at HFN
                    go_wp2_with fail
                    go_roundg (rn - (j + 1))
                    case measure => omega
                    case rel => exact ⟨j + 1, by omega, by omega, HFN.out, by go_num, HL7, Y7⟩
              · have hsk : sk = -1 := by rw [HSN.out]; unfold stepV; rw [if_neg hs0]
                have hs0' : sj < 0 := by omega
                rw [hsk] at HFN
                cases st <;> (
                  go_wp2_with fail
                  go_roundg (rn - (j + 1))
                  case measure => omega
                  case rel => exact ⟨j + 1, by omega, by omega, HFN.out, by go_num, HL7, Y7⟩)
            · have hjm' : ¬ (j : Int) < (rn : Int) := by omega
              have hjt : rt.take j = rt := List.take_of_length_le (by rw [HRNL.out]; omega)
              rw [hjt]
              have hg1 := HSG.out j
              rw [hjt] at hg1
              have HSUM : Hid (Y = X → sumV Y rt = sumV X rt) := fun e => by rw [e]
              have HDV : Hid (0 ≤ sumV Y rt → Dv g.rules A (sumV Y rt).toNat) := fun h => dv_rule HMEM.out HAL.out (by rw [HRT.out]; exact sum_dl HL5.out.snd h)
              have HBD4 : Hid (sumV Y rt ≤ 4 * ((4 ^ nset Y N : Nat) : Int)) := sum_bd HL5.out.bd (by rw [HRNL.out]; exact hr4)
              obtain ⟨sm, HSM⟩ := nameIt (sumV Y rt)
              rw [HSM.out] at hg1 HSUM HDV HBD4
              rw [HSM.out]
              have q0 := HL5.out.row.cell hAN
              have qf := HL5.out.row.free A
              have hyb := HXB.out A
              have HYA : Hid (Y = X → Y A = X A) := fun e => by rw [e]
              have HSET : Hid (0 ≤ sm → (Y A < 0 ∨ sm < Y A) → LTb g.rules N w0 p (setV Y A sm) (w6.setCell ⟨p, A, none⟩ (.int .i64 sm)) ∧ muV (setV Y A sm) N < muV Y N) := by
                intro h1 h2
                have hv : sm < Y A ∨ (Y A < 0 ∧ sm ≤ 4 * ((4 ^ nset Y N : Nat) : Int)) := by
                  have := HBD4.out
                  rcases h2 with h2 | h2
                  · exact .inr ⟨h2, this⟩
                  · exact .inl h2
                exact ⟨HL5.out.set hAN (setV_sound HL5.out.snd h1 (HDV.out h1)) (bdV_set HL5.out.bd hAN h1 hv), mu_set hN2 hAN h1 hv⟩
              have HMUL : Hid (b = true → muV Y N < mu) := HM.out
              have HMUE : Hid (muV Y N ≤ mu) := by
                show muV Y N ≤ mu
                cases b with
                | true => exact Nat.le_of_lt (HM.out rfl)
                | false => rw [(HC.out rfl).1, HMU.out]; exact Nat.le_refl _
              have hA0 : (0 : Int) ≤ (A : Int) := by omega
              have hA1 : (A : Int) < (N : Int) := by omega
              obtain ⟨y0, y1⟩ := bx_cells2 Y5.out
              obtain ⟨ya, HYAN⟩ := nameIt (Y A)
              rw [HYAN.out] at q0 hyb HYA HSET
              have hnpr : ¬ p = rbx := by have := HPW.out; omega
              have hnrp : ¬ rbx = p := fun h => hnpr h.symm
              by_cases hs0 : 0 ≤ sm
              · by_cases hset : ya < 0 ∨ sm < ya
                · obtain ⟨hl8, hm8⟩ := HSET.out hs0 hset
                  have HL8 := Lib.hid hl8
                  have HM8 : Hid (muV (setV Y A sm) N < mu) := Nat.lt_of_lt_of_le hm8 HMUE.out
                  clear hl8 hm8
                  by_cases hy : ya < 0
                  · go_wp2_with fail
                    go_roundg (rl - (i + 1))
                    case measure => omega
                    case rel => exact ⟨i + 1, setV Y A sm, true, by omega, by omega, rfl, by go_num, HL8, (fun e => by cases e), (fun _ => HM8.out)⟩
                  · have hlt2 : sm < ya := by omega
                    go_wp2_with fail
                    go_roundg (rl - (i + 1))
                    case measure => omega
                    case rel => exact ⟨i + 1, setV Y A sm, true, by omega, by omega, rfl, by go_num, HL8, (fun e => by cases e), (fun _ => HM8.out)⟩
                · have hy : ¬ ya < 0 := by omega
                  have hlt2 : ¬ sm < ya := by omega
                  have HCN : Hid (b = false → Y = X ∧ ClosedTo g.rules (i + 1) X) := by
                    intro e
                    obtain ⟨h1, h2⟩ := HC.out e
                    refine ⟨h1, HNX.out h2 (fun _ => ?_)⟩
                    rw [← HSUM.out h1, ← HYA.out h1]
                    omega
                  go_wp2_with fail
                  go_roundg (rl - (i + 1))
                  case measure => omega
                  case rel => exact ⟨i + 1, Y, b, by omega, by omega, rfl, by go_num, HL5, HCN, HM⟩
              · have hs0' : sm < 0 := by omega
                have HCN : Hid (b = false → Y = X ∧ ClosedTo g.rules (i + 1) X) := by
                  intro e
                  obtain ⟨h1, h2⟩ := HC.out e
                  refine ⟨h1, HNX.out h2 (fun h => ?_)⟩
                  rw [← HSUM.out h1] at h
                  omega
                go_wp2_with fail
                go_roundg (rl - (i + 1))
                case measure => omega
                case rel => exact ⟨i + 1, Y, b, by omega, by omega, rfl, by go_num, HL5, HCN, HM⟩
        · have hlt' : ¬ (i : Int) < (rl : Int) := by omega
          have HCE : Hid (b = false → ClosedV g.rules Y) := by
            intro e
            obtain ⟨h1, h2⟩ := HC.out e
            intro q hq
            rw [h1]
            exact h2 q (by rw [List.take_of_length_le (by rw [HRL.out]; omega)]; exact hq)
          have HMM : Hid (b = true → muV Y N + 1 ≤ mu) := HM.out
          go_wp2_with fail
          go_roundg mu
          case measure => omega
          case rel => exact ⟨b, Y, rfl, HMM.out, HL, HCE⟩
end Cs
end Go.Proofs.Ytjpmebppdcclbaa
