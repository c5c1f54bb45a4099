/- Which nonterminals derive others: two ways to reckon it, in plain Lean. -/
import Derived.Test.YtjehmleckcmilaaCheckG
namespace Go.Proofs.Ytjehmleckcmilaa
open Go.RowKit

def ruleEdges (r : Rule) : List (Nat × Nat) := r.right.filterMap fun s => if s.term then none else some (r.left.toNat, s.n.toNat)
def gEdges (g : Gram) : List (Nat × Nat) := g.rules.flatMap ruleEdges
inductive Pth (E : List (Nat × Nat)) : Nat → Nat → Prop
  | one {i j : Nat} : (i, j) ∈ E → Pth E i j
  | cons {i j k : Nat} : (i, j) ∈ E → Pth E j k → Pth E i k
theorem Pth.trans {E : List (Nat × Nat)} {i j k : Nat} (h : Pth E i j) (h2 : Pth E j k) : Pth E i k := by
  induction h with
  | one h => exact .cons h h2
  | cons h _ ih => exact .cons h (ih h2)
theorem Pth.snoc {E : List (Nat × Nat)} {i j k : Nat} (h : Pth E i j) (h2 : (j, k) ∈ E) : Pth E i k := h.trans (.one h2)
/-- in rounds over the places between -/
def fw (E : List (Nat × Nat)) : Nat → Nat → Nat → Bool
  | 0, i, j => decide ((i, j) ∈ E)
  | k + 1, i, j => fw E k i j || (fw E k i k && fw E k k j)
theorem fw_mono {E : List (Nat × Nat)} {k i j : Nat} (h : fw E k i j = true) : fw E (k + 1) i j = true := by rw [fw, h]; rfl
theorem fw_edge {E : List (Nat × Nat)} {i j : Nat} (h : (i, j) ∈ E) : ∀ k, fw E k i j = true
  | 0 => by simpa [fw] using h
  | k + 1 => fw_mono (fw_edge h k)
theorem fw_sound {E : List (Nat × Nat)} : ∀ {k i j : Nat}, fw E k i j = true → Pth E i j
  | 0, i, j, h => .one (by simpa [fw] using h)
  | k + 1, i, j, h => by
    rw [fw] at h
    simp at h
    rcases h with h | ⟨h1, h2⟩
    · exact fw_sound h
    · exact (fw_sound h1).trans (fw_sound h2)
theorem fw_row {E : List (Nat × Nat)} (k i : Nat) : fw E (k + 1) i k = fw E k i k := by
  rw [fw]; cases fw E k i k <;> simp
theorem fw_col {E : List (Nat × Nat)} (k j : Nat) : fw E (k + 1) k j = fw E k k j := by
  rw [fw]; cases fw E k k j <;> cases fw E k k k <;> simp
theorem fw_trans {E : List (Nat × Nat)} : ∀ {k m i j : Nat}, m < k → fw E k i m = true → fw E k m j = true → fw E k i j = true
  | 0, m, i, j, hm, _, _ => by omega
  | k + 1, m, i, j, hm, h1, h2 => by
    by_cases e : m = k
    · subst e
      rw [fw_row] at h1
      rw [fw_col] at h2
      rw [fw, h1, h2]; simp
    · have hm' : m < k := by omega
      rw [fw] at h1 h2
      simp at h1 h2
      have put : fw E k i k = true → fw E k k j = true → fw E (k + 1) i j = true := fun a b => by rw [fw, a, b]; simp
      rcases h1 with h1 | ⟨h1, h1'⟩ <;> rcases h2 with h2 | ⟨h2, h2'⟩
      · exact fw_mono (fw_trans hm' h1 h2)
      · exact put (fw_trans hm' h1 h2) h2'
      · exact put h1 (fw_trans hm' h1' h2)
      · exact put h1 h2'
theorem fw_iff {E : List (Nat × Nat)} {N : Nat} (hE : ∀ e ∈ E, e.1 < N ∧ e.2 < N) {i j : Nat} : fw E N i j = true ↔ Pth E i j := by
  refine ⟨fw_sound, fun h => ?_⟩
  induction h with
  | one h => exact fw_edge h N
  | cons h _ ih => exact fw_trans (hE _ h).2 (fw_edge h N) ih

/-- in rounds over the edges -/
def stp (U : Nat → Bool) (e : Nat × Nat) : Nat → Bool := if U e.1 then (fun x => x == e.2 || U x) else U
def rnd (E : List (Nat × Nat)) (U : Nat → Bool) : Nat → Bool := E.foldl stp U
def rnds (E : List (Nat × Nat)) : Nat → (Nat → Bool) → Nat → Bool
  | 0, U => U
  | k + 1, U => rnds E k (rnd E U)
def single (a : Nat) : Nat → Bool := fun x => x == a
theorem stp_le {U : Nat → Bool} {e : Nat × Nat} {x : Nat} (h : U x = true) : stp U e x = true := by
  unfold stp; split <;> simp [h]
theorem rnd_le {E : List (Nat × Nat)} {U : Nat → Bool} {x : Nat} (h : U x = true) : rnd E U x = true := by
  unfold rnd
  induction E generalizing U with
  | nil => exact h
  | cons e E ih => exact ih (stp_le h)
theorem rnd_sound {P : Nat → Prop} {E E0 : List (Nat × Nat)} (hs : ∀ e ∈ E0, P e.1 → P e.2) : ∀ {U : Nat → Bool}, (∀ e ∈ E, e ∈ E0) → (∀ x, U x = true → P x) → ∀ x, rnd E U x = true → P x := by
  induction E with
  | nil => intro U _ hU x h; exact hU x h
  | cons e E ih =>
    intro U hE hU x h
    refine ih (U := stp U e) (fun e' he => hE e' (List.mem_cons_of_mem _ he)) (fun y hy => ?_) x h
    unfold stp at hy
    split at hy
    · rename_i h1
      simp at hy
      rcases hy with rfl | hy
      · exact hs e (hE e List.mem_cons_self) (hU _ h1)
      · exact hU y hy
    · exact hU y hy
theorem rnds_sound {P : Nat → Prop} {E : List (Nat × Nat)} (hs : ∀ e ∈ E, P e.1 → P e.2) : ∀ (k : Nat) {U : Nat → Bool}, (∀ x, U x = true → P x) → ∀ x, rnds E k U x = true → P x
  | 0, U, hU, x, h => hU x h
  | k + 1, U, hU, x, h => rnds_sound hs k (rnd_sound hs (fun _ h => h) hU) x h
/-- a round that adds nothing has followed all edges -/
theorem rnd_closed {E : List (Nat × Nat)} : ∀ {U : Nat → Bool}, (∀ x, rnd E U x = true → U x = true) → ∀ e ∈ E, U e.1 = true → U e.2 = true := by
  induction E with
  | nil => intro U _ e he; simp at he
  | cons e0 E ih =>
    intro U h e he h1
    have hst : ∀ x, stp U e0 x = true → U x = true := fun x hx => h x (rnd_le (E := E) hx)
    rcases List.mem_cons.1 he with rfl | he
    · refine hst e.2 ?_
      unfold stp; rw [if_pos h1]; simp
    · have hs : ∀ x, rnd E (stp U e0) x = true → stp U e0 x = true := fun x hx => stp_le (h x hx)
      exact hst e.2 (ih hs e he (stp_le h1))
theorem rnds_closed {E : List (Nat × Nat)} {U : Nat → Bool} (hc : ∀ e ∈ E, U e.1 = true → U e.2 = true) (k : Nat) : ∀ x, rnds E k U x = true → U x = true :=
  rnds_sound (P := fun x => U x = true) hc k fun _ h => h
def cnt (N : Nat) (U : Nat → Bool) : Nat := ((List.range N).filter U).length
theorem filter_lt {l : List Nat} {U V : Nat → Bool} (h : ∀ x ∈ l, U x = true → V x = true) : (l.filter U).length ≤ (l.filter V).length ∧ (∀ x ∈ l, V x = true → U x = false → (l.filter U).length < (l.filter V).length) := by
  induction l with
  | nil => simp
  | cons a l ih =>
    obtain ⟨h1, h2⟩ := ih fun x hx => h x (List.mem_cons_of_mem _ hx)
    have ha := h a List.mem_cons_self
    simp only [List.filter_cons]
    constructor
    · cases hu : U a <;> cases hv : V a <;> simp_all <;> omega
    · intro x hx hv hu
      rcases List.mem_cons.1 hx with rfl | hx
      · rw [hu, hv]; simp; omega
      · have := h2 x hx hv hu
        cases hu' : U a <;> cases hv' : V a <;> simp_all <;> omega
theorem rnds_le {E : List (Nat × Nat)} : ∀ (k : Nat) {U : Nat → Bool} {x : Nat}, U x = true → rnds E k U x = true
  | 0, _, _, h => h
  | k + 1, _, _, h => rnds_le k (rnd_le h)
/-- behind k rounds: all is there, or at least k more -/
theorem rnds_more {E : List (Nat × Nat)} {N : Nat} (hE : ∀ e ∈ E, e.2 < N) : ∀ (k : Nat) (U : Nat → Bool), (∀ x, U x = true → x < N) → (∀ e ∈ E, rnds E k U e.1 = true → rnds E k U e.2 = true) ∨ cnt N U + k ≤ cnt N (rnds E k U)
  | 0, U, _ => .inr (by simp [rnds])
  | k + 1, U, hU => by
    by_cases h : ∀ x, rnd E U x = true → U x = true
    · have hc := rnd_closed h
      left
      intro e he h1
      refine rnds_le (k + 1) (hc e he ?_)
      exact rnds_closed hc (k + 1) _ h1
    · have hU' : ∀ x, rnd E U x = true → x < N := rnd_sound (P := fun x => x < N) (fun e he _ => hE e he) (fun _ h => h) hU
      rcases rnds_more hE k (rnd E U) hU' with h1 | h1
      · exact .inl h1
      · right
        obtain ⟨x, hx⟩ := Classical.not_forall.1 h
        obtain ⟨hx1, hx2⟩ := Classical.not_imp.1 hx
        have h2 := (filter_lt (l := List.range N) (U := U) (V := rnd E U) (fun x _ hx => rnd_le hx)).2 x (by simpa using hU' x hx1) hx1 (by simpa using hx2)
        show cnt N U + (k + 1) ≤ cnt N (rnds E k (rnd E U))
        unfold cnt at h1 h2 ⊢
        omega
theorem und_iff {E : List (Nat × Nat)} {N a : Nat} (hE : ∀ e ∈ E, e.1 < N ∧ e.2 < N) (ha : a < N) (b : Nat) : rnds E N (single a) b = true ↔ b = a ∨ Pth E a b := by
  constructor
  · refine rnds_sound (P := fun b => b = a ∨ Pth E a b) (fun e he h => ?_) N (fun x hx => ?_) b
    · rcases h with h | h
      · right; exact .one (by rw [← h]; exact he)
      · exact .inr (h.snoc he)
    · left; simpa [single] using hx
  · have hs : single a a = true := by simp [single]
    have hcl : ∀ e ∈ E, rnds E N (single a) e.1 = true → rnds E N (single a) e.2 = true := by
      rcases rnds_more (fun e he => (hE e he).2) N (single a) (fun x hx => by simp [single] at hx; omega) with h | h
      · exact h
      · exfalso
        have h1 : cnt N (rnds E N (single a)) ≤ N := by unfold cnt; exact Nat.le_trans (List.length_filter_le _ _) (by simp)
        have h2 : 1 ≤ cnt N (single a) := by
          unfold cnt
          exact List.length_pos_of_mem (a := a) (List.mem_filter.2 ⟨by simpa using ha, hs⟩)
        omega
    have key : ∀ i j, Pth E i j → rnds E N (single a) i = true → rnds E N (single a) j = true := by
      intro i j h
      induction h with
      | one h => exact hcl _ h
      | cons h _ ih => exact fun h1 => ih (hcl _ h h1)
    rintro (rfl | h)
    · exact rnds_le N hs
    · exact key a b h (rnds_le N hs)
theorem gEdges_lt {g : Gram} (hg : checkG g = 0) : ∀ e ∈ gEdges g, e.1 < g.nons.toNat ∧ e.2 < g.nons.toNat := by
  obtain ⟨h1, h2, h3⟩ := checkG_zero hg
  intro e he
  obtain ⟨r, hr, he⟩ := List.mem_flatMap.1 he
  obtain ⟨s, hs, he⟩ := List.mem_filterMap.1 he
  obtain ⟨a0, a1, _, a3⟩ := h3 r hr
  have h4 := a3 s hs
  unfold hasS at h4
  split at he
  · cases he
  · rename_i ht
    cases he
    simp [ht] at h4
    simp only
    omega
end Go.Proofs.Ytjehmleckcmilaa
