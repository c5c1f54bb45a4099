/- Grammars, in plain Lean: which are valid. -/
import Derived.Test.YtgpikophndbmeaaGram
import Derived.Test.YtgpikophndbmeaaCmp
namespace Go.Proofs.Ytgpikophndbmeaa
open Go.RowKit

structure Gram where
  terms : Int
  nons : Int
  start : Int
  rules : List Rule
  deriving DecidableEq
def Gram.d (g : Gram) : D := .agg [.int g.terms, .int g.nons, .int g.start, .sl (g.rules.map Rule.d)]
def hasS (g : Gram) (s : Sym) : Bool := decide (0 ≤ s.n) && (s.term && decide (s.n < g.terms) || !s.term && decide (s.n < g.nons))
def ordS (a b : Sym) : Int := if a.term = b.term then cmp3 a.n b.n else if a.term then -1 else 1
def cmpS : List Sym → List Sym → Int
  | [], [] => 0
  | [], _ :: _ => -1
  | _ :: _, [] => 1
  | x :: l, y :: m => if ordS x y = 0 then cmpS l m else ordS x y
def cmpR (a b : Rule) : Int := orL [cmp3 a.left b.left, cmpS a.right b.right]
theorem ordS_zero {a b : Sym} : ordS a b = 0 ↔ a = b := by
  constructor
  · intro h
    unfold ordS at h
    by_cases e : a.term = b.term
    · rw [if_pos e] at h
      have := cmp3_zero h
      cases a; cases b; simp_all
    · rw [if_neg e] at h
      split at h <;> simp at h
  · rintro rfl
    simp [ordS, cmp3_self]
theorem cmpS_zero : ∀ {l m : List Sym}, cmpS l m = 0 ↔ l = m
  | [], [] => by simp [cmpS]
  | [], _ :: _ => by simp [cmpS]
  | _ :: _, [] => by simp [cmpS]
  | x :: l, y :: m => by
    rw [cmpS]
    by_cases h : ordS x y = 0
    · rw [if_pos h, cmpS_zero]
      rw [ordS_zero] at h
      simp [h]
    · rw [if_neg h]
      rw [ordS_zero] at h
      constructor
      · intro h2; rw [ordS_zero] at h2; exact absurd h2 h
      · intro h2; simp at h2; exact absurd h2.1 h
theorem cmpR_zero {a b : Rule} : cmpR a b = 0 ↔ a = b := by
  unfold cmpR
  simp only [orL]
  constructor
  · intro h
    by_cases h1 : cmp3 a.left b.left = 0
    · rw [if_pos h1] at h
      by_cases h2 : cmpS a.right b.right = 0
      · have := cmp3_zero h1
        rw [cmpS_zero] at h2
        cases a; cases b; simp_all
      · rw [if_neg h2] at h; exact absurd h h2
    · rw [if_neg h1] at h; exact absurd h h1
  · rintro rfl
    have : cmpS a.right a.right = 0 := cmpS_zero.2 rfl
    simp [cmp3_self, this]
/-- the fault of the rule i -/
def faultR (g : Gram) (i : Nat) (r : Rule) : Int :=
  if r.left < 0 ∨ g.nons ≤ r.left then 3 else if 4 < r.right.length then 2 else if r.right.any (fun s => !hasS g s) then 3 else if (g.rules.take i).any (fun x => cmpR x r == 0) then 6 else 0
def faultsFrom (g : Gram) : Nat → List Rule → Int
  | _, [] => 0
  | i, r :: l => if faultR g i r = 0 then faultsFrom g (i + 1) l else faultR g i r
def badHead (g : Gram) : Bool := decide (g.terms < 1) || decide (8 < g.terms) || decide (g.nons < 1) || decide (10 < g.nons) || decide (g.start < 0) || decide (g.nons ≤ g.start)
def checkG (g : Gram) : Int := if badHead g then 1 else if 32 < g.rules.length then 2 else faultsFrom g 0 g.rules
theorem faultsFrom_at {g : Gram} {i : Nat} (h : i < g.rules.length) : faultsFrom g i (g.rules.drop i) = if faultR g i g.rules[i] = 0 then faultsFrom g (i + 1) (g.rules.drop (i + 1)) else faultR g i g.rules[i] := by
  rw [List.drop_eq_getElem_cons h, faultsFrom]
theorem faultsFrom_zero {g : Gram} : ∀ {l : List Rule} {i : Nat}, faultsFrom g i l = 0 → ∀ r ∈ l, 0 ≤ r.left ∧ r.left < g.nons ∧ r.right.length ≤ 4 ∧ ∀ s ∈ r.right, hasS g s = true
  | [], i, _, r, hr => by simp at hr
  | x :: l, i, h, r, hr => by
    rw [faultsFrom] at h
    by_cases h0 : faultR g i x = 0
    · rw [if_pos h0] at h
      rcases List.mem_cons.1 hr with rfl | hr
      · unfold faultR at h0
        by_cases h1 : r.left < 0 ∨ g.nons ≤ r.left
        · rw [if_pos h1] at h0; simp at h0
        · rw [if_neg h1] at h0
          by_cases h2 : 4 < r.right.length
          · rw [if_pos h2] at h0; simp at h0
          · rw [if_neg h2] at h0
            by_cases h3 : r.right.any (fun s => !hasS g s) = true
            · rw [if_pos h3] at h0; simp at h0
            · refine ⟨by omega, by omega, by omega, fun s hs => ?_⟩
              simp at h3
              exact h3 s hs
      · exact faultsFrom_zero h r hr
    · rw [if_neg h0] at h; exact absurd h h0
theorem checkG_zero {g : Gram} (h : checkG g = 0) : (1 ≤ g.terms ∧ g.terms ≤ 8 ∧ 1 ≤ g.nons ∧ g.nons ≤ 10 ∧ 0 ≤ g.start ∧ g.start < g.nons) ∧ g.rules.length ≤ 32 ∧ ∀ r ∈ g.rules, 0 ≤ r.left ∧ r.left < g.nons ∧ r.right.length ≤ 4 ∧ ∀ s ∈ r.right, hasS g s = true := by
  unfold checkG at h
  by_cases h1 : badHead g = true
  · rw [if_pos h1] at h; simp at h
  · rw [if_neg h1] at h
    by_cases h2 : 32 < g.rules.length
    · rw [if_pos h2] at h; simp at h
    · rw [if_neg h2] at h
      refine ⟨?_, by omega, faultsFrom_zero h⟩
      simp [badHead] at h1
      omega
end Go.Proofs.Ytgpikophndbmeaa
