/- Plain: automata, their errors, their pairs of states (-1: dead). -/
import Derived.Test.YtenkhjmedolknaaData
import Derived.Test.YtenkhjmedolknaaFar
namespace Go.Proofs.Ytenkhjmedolknaa
open Go.RowKit
namespace Df

structure Dfa where
  start : Int
  acc : List Int
  next : List (List Int)
def Dfa.d (x : Dfa) : D := .agg [.int x.start, D.ints x.acc, .sl (x.next.map D.ints)]
def Dfa.width (x : Dfa) : Nat := (x.next.headD []).length
def badD (x : Dfa) : Prop := x.start < 0 ∨ (x.next.length : Int) ≤ x.start ∨ (∃ v ∈ x.acc, v < -1) ∨ ∃ r ∈ x.next, ∃ v ∈ r, v < -1 ∨ (x.next.length : Int) ≤ v
def raggedD (x : Dfa) : Prop := ∃ r ∈ x.next, r.length = 0 ∨ r.length ≠ x.width
open Classical in
noncomputable def dfaErr (x : Dfa) : Int :=
  if 200 < x.next.length then 2 else if x.next.length = 0 ∨ x.acc.length ≠ x.next.length then 3 else if 16 < x.width then 2 else if raggedD x then 3 else if badD x then 1 else 0
/-- what a valid automaton is -/
structure Right (x : Dfa) : Prop where
  states : 0 < x.next.length ∧ x.next.length ≤ 200
  accs : x.acc.length = x.next.length
  syms : 0 < x.width ∧ x.width ≤ 16
  rows : ∀ r ∈ x.next, r.length = x.width
  start : 0 ≤ x.start ∧ x.start < x.next.length
  acc : ∀ v ∈ x.acc, -1 ≤ v
  next : ∀ r ∈ x.next, ∀ v ∈ r, -1 ≤ v ∧ v < x.next.length
theorem right_of {x : Dfa} (h : dfaErr x = 0) : Right x := by
  unfold dfaErr at h
  by_cases h1 : 200 < x.next.length
  · rw [if_pos h1] at h; simp at h
  rw [if_neg h1] at h
  by_cases h2 : x.next.length = 0 ∨ x.acc.length ≠ x.next.length
  · rw [if_pos h2] at h; simp at h
  rw [if_neg h2] at h
  by_cases h3 : 16 < x.width
  · rw [if_pos h3] at h; simp at h
  rw [if_neg h3] at h
  by_cases h4 : raggedD x
  · rw [if_pos h4] at h; simp at h
  rw [if_neg h4] at h
  by_cases h5 : badD x
  · rw [if_pos h5] at h; simp at h
  have h6 : 0 < x.next.length ∧ x.acc.length = x.next.length := by omega
  have hr : ∀ r ∈ x.next, 0 < r.length ∧ r.length = x.width := fun r hr => by
    have : ¬ (r.length = 0 ∨ r.length ≠ x.width) := fun e => h4 ⟨r, hr, e⟩
    omega
  have hs : 0 ≤ x.start ∧ x.start < x.next.length := by
    have e1 : ¬ x.start < 0 := fun e => h5 (.inl e)
    have e2 : ¬ (x.next.length : Int) ≤ x.start := fun e => h5 (.inr (.inl e))
    omega
  refine ⟨⟨h6.1, by omega⟩, h6.2, ⟨?_, by omega⟩, fun r h => (hr r h).2, hs, fun v hv => ?_, fun r hr v hv => ?_⟩
  · obtain ⟨r, hr0⟩ := List.exists_mem_of_length_pos h6.1
    have := hr r hr0
    omega
  · have : ¬ v < -1 := fun e => h5 (.inr (.inr (.inl ⟨v, hv, e⟩)))
    omega
  · have e1 : ¬ (v < -1 ∨ (x.next.length : Int) ≤ v) := fun e => h5 (.inr (.inr (.inr ⟨r, hr, v, hv, e⟩)))
    omega

/-- the state behind a state; -1 is dead -/
def toS (x : Dfa) (s : Int) (c : Nat) : Int := if s < 0 then -1 else ((x.next[s.toNat]?.getD [])[c]?).getD (-1)
def goodS (x : Dfa) (s : Int) : Bool := decide (0 ≤ s) && decide (0 ≤ (x.acc[s.toNat]?).getD (-1))
def inS (x : Dfa) (s : Int) : Prop := -1 ≤ s ∧ s < x.next.length
theorem toS_in {x : Dfa} (h : Right x) (s : Int) (c : Nat) : inS x (toS x s c) := by
  unfold toS inS
  have h0 := h.states
  by_cases hs : s < 0
  · rw [if_pos hs]; omega
  · rw [if_neg hs]
    cases hr : x.next[s.toNat]? with
    | none => simp; omega
    | some r =>
      simp only [Option.getD_some]
      cases hv : r[c]? with
      | none => simp; omega
      | some v => exact h.next r (List.mem_of_getElem? hr) v (List.mem_of_getElem? hv)
theorem toS_at {x : Dfa} (h : Right x) {s : Int} (h0 : 0 ≤ s) (h1 : s < x.next.length) {c : Nat} (hc : c < x.width) : ∃ r v, x.next[s.toNat]? = some r ∧ r[c]? = some v ∧ toS x s c = v ∧ r.length = x.width := by
  have hlt : s.toNat < x.next.length := by omega
  have hr : x.next[s.toNat]? = some (x.next[s.toNat]) := List.getElem?_eq_getElem hlt
  have hl := h.rows _ (List.getElem_mem hlt)
  have hv : (x.next[s.toNat])[c]? = some ((x.next[s.toNat])[c]'(by omega)) := List.getElem?_eq_getElem (by omega)
  exact ⟨_, _, hr, hv, by unfold toS; rw [if_neg (by omega), hr, Option.getD_some, hv, Option.getD_some], hl⟩

/-- pairs of states of two automata -/
def stepP (x y : Dfa) (n : Int × Int) (c : Nat) : Int × Int := (toS x n.1 c, toS y n.2 c)
def badP (x y : Dfa) (n : Int × Int) : Bool := goodS x n.1 != goodS y n.2
/-- the word on which two automata first differ, if there is one -/
def LeastW (x y : Dfa) (w : List Nat) : Prop := Bf.over x.width w ∧ badP x y (Bf.run (stepP x y) (x.start, y.start) w) = true ∧ ∀ u, Bf.over x.width u → badP x y (Bf.run (stepP x y) (x.start, y.start) u) = true → Bf.sle w u
def Alike (x y : Dfa) : Prop := ∀ u, Bf.over x.width u → badP x y (Bf.run (stepP x y) (x.start, y.start) u) = false
theorem leastW_one {x y : Dfa} {w w' : List Nat} (h : LeastW x y w) (h' : LeastW x y w') : w = w' := Bf.sle_anti (h.2.2 w' h'.1 h'.2.1) (h'.2.2 w h.1 h.2.1)
theorem leastW_not {x y : Dfa} {w : List Nat} (h : LeastW x y w) : ¬ Alike x y := fun ha => by
  have := ha w h.1
  rw [h.2.1] at this
  cases this
theorem leastW_search {x y : Dfa} {L : List ((Int × Int) × List Nat)} {i : Nat} (hI : Bf.Inv (stepP x y) x.width (x.start, y.start) (badP x y) L i 0) {p : (Int × Int) × List Nat} (hi : L[i]? = some p) (hb : badP x y p.1 = true) : LeastW x y p.2 := by
  obtain ⟨h1, h2⟩ := hI.reach p (List.mem_of_getElem? hi)
  exact ⟨h2, by rw [h1]; exact hb, fun u hu hbu => hI.found hi hu hbu⟩
theorem leastW_table {x y : Dfa} {far : Int × Int → Nat} {inf : Nat} (h : Bf.Far (stepP x y) x.width (badP x y) inf far) {w : List Nat} (hg : Bf.Greedy (stepP x y) x.width far (x.start, y.start) w) (hlt : far (x.start, y.start) < inf) : LeastW x y w :=
  ⟨hg.syms, hg.hit h hlt, fun _ hu hb => hg.least h hu hb⟩
end Df
end Go.Proofs.Ytenkhjmedolknaa
