/- Plain: how far nodes are from a marked one; the greedy word is the least one, so it is the word of the search in breadth. -/
import Derived.Test.YtenkhjmedolknaaBfs
namespace Go.Proofs.Ytenkhjmedolknaa
namespace Bf
variable {N : Type}

/-- a table of distances, as it stands when nothing changes any more (inf: none known) -/
structure Far (step : N → Nat → N) (k : Nat) (bad : N → Bool) (inf : Nat) (far : N → Nat) : Prop where
  word : ∀ n, far n < inf → ∃ u, over k u ∧ u.length = far n ∧ bad (run step n u) = true
  zero : ∀ n, bad n = true → far n = 0
  still : ∀ n c, c < k → far n ≤ far (step n c) + 1
/-- the word that is read off the table: the first symbol that leads nearer -/
inductive Greedy (step : N → Nat → N) (k : Nat) (far : N → Nat) : N → List Nat → Prop
  | here {n : N} : far n = 0 → Greedy step k far n []
  | there {n : N} {c : Nat} {w : List Nat} : c < k → far (step n c) + 1 = far n → (∀ c', c' < c → far (step n c') + 1 ≠ far n) → Greedy step k far (step n c) w → Greedy step k far n (c :: w)
variable {step : N → Nat → N} {k inf : Nat} {bad : N → Bool} {far : N → Nat}

theorem run_cons (n : N) (c : Nat) (u : List Nat) : run step n (c :: u) = run step (step n c) u := rfl
theorem Far.low (h : Far step k bad inf far) : ∀ (u : List Nat) (n : N), over k u → bad (run step n u) = true → far n ≤ u.length
  | [], n, _, hb => by rw [h.zero n hb]; exact Nat.le_refl _
  | c :: u, n, hu, hb => by
    have h1 := h.low u (step n c) (fun s hs => hu s (List.mem_cons_of_mem _ hs)) hb
    have h2 := h.still n c (hu c List.mem_cons_self)
    simp only [List.length_cons]
    omega
/-- where no word leads to a mark the table stands at inf or above -/
theorem Far.far_none (h : Far step k bad inf far) {n : N} (hn : ∀ u, over k u → bad (run step n u) = false) : inf ≤ far n := by
  rcases Nat.lt_or_ge (far n) inf with hlt | hge
  · obtain ⟨u, h1, _, h3⟩ := h.word n hlt
    rw [hn u h1] at h3
    cases h3
  · exact hge
/-- there is a nearer neighbour -/
theorem Far.near (h : Far step k bad inf far) {n : N} (hlt : far n < inf) (h0 : 0 < far n) : ∃ c, c < k ∧ far (step n c) + 1 = far n := by
  obtain ⟨u, h1, h2, h3⟩ := h.word n hlt
  cases u with
  | nil => simp at h2; omega
  | cons c u =>
    have hc : c < k := h1 c List.mem_cons_self
    have h4 := h.low u (step n c) (fun s hs => h1 s (List.mem_cons_of_mem _ hs)) h3
    have h5 := h.still n c hc
    simp only [List.length_cons] at h2
    exact ⟨c, hc, by omega⟩
theorem Greedy.len : ∀ {n : N} {w : List Nat}, Greedy step k far n w → w.length = far n
  | _, _, .here h => by rw [h]; rfl
  | _, _, .there _ h _ hg => by rw [List.length_cons, hg.len]; exact h
theorem Greedy.syms : ∀ {n : N} {w : List Nat}, Greedy step k far n w → over k w
  | _, _, .here _ => fun s hs => by cases hs
  | _, _, .there hc _ _ hg => fun s hs => by
    rcases List.mem_cons.1 hs with rfl | hs
    · exact hc
    · exact hg.syms s hs
theorem Greedy.hit (h : Far step k bad inf far) : ∀ {n : N} {w : List Nat}, Greedy step k far n w → far n < inf → bad (run step n w) = true
  | n, _, .here h0, hlt => by
    obtain ⟨u, _, h2, h3⟩ := h.word n hlt
    have : u = [] := List.length_eq_zero_iff.1 (h2.trans h0)
    subst this
    exact h3
  | n, _, .there _ h1 _ hg, hlt => by
    rw [run_cons]
    exact hg.hit h (by omega)
theorem Greedy.least (h : Far step k bad inf far) : ∀ {n : N} {w : List Nat}, Greedy step k far n w → ∀ {u : List Nat}, over k u → bad (run step n u) = true → sle w u
  | n, _, .here _, u, _, _ => sle_nil u
  | n, _, .there (c := c) (w := w) hc h1 h2 hg, u, hu, hb => by
    have hl := h.low u n hu hb
    have hw := hg.len
    cases u with
    | nil => simp at hl; omega
    | cons x u =>
      simp only [List.length_cons] at hl
      rw [run_cons] at hb
      have hx : x < k := hu x List.mem_cons_self
      have hu' : over k u := fun s hs => hu s (List.mem_cons_of_mem _ hs)
      rcases Nat.lt_or_ge w.length u.length with hlt | hge
      · exact .inr (.inl (by simpa using hlt))
      · have h3 := h.low u (step n x) hu' hb
        have h4 := h.still n x hx
        have he : far (step n x) + 1 = far n := by omega
        rcases Nat.lt_trichotomy c x with hcx | rfl | hcx
        · exact .inr (.inr ⟨by simp; omega, .inl hcx⟩)
        · rcases hg.least h hu' hb with rfl | hs
          · exact .inl rfl
          · rcases hs with hs | ⟨e, hs⟩
            · exact .inr (.inl (by simpa using hs))
            · exact .inr (.inr ⟨by simpa using e, .inr ⟨rfl, hs⟩⟩)
        · exact absurd he (h2 x hcx)
/-- both searches find one word -/
theorem one_word (h : Far step k bad inf far) {n0 : N} {w : List Nat} (hg : Greedy step k far n0 w) (hlt : far n0 < inf) {L : List (N × List Nat)} {i : Nat} (hI : Inv step k n0 bad L i 0) {p : N × List Nat} (hi : L[i]? = some p) (hb : bad p.1 = true) : p.2 = w := by
  obtain ⟨h1, h2⟩ := hI.reach p (List.mem_of_getElem? hi)
  exact sle_anti (hI.found hi hg.syms (hg.hit h hlt)) (hg.least h h2 (by rw [h1]; exact hb))
theorem found_near (h : Far step k bad inf far) {n0 : N} {L : List (N × List Nat)} {i : Nat} (hI : Inv step k n0 bad L i 0) {p : N × List Nat} (hi : L[i]? = some p) (hb : bad p.1 = true) : far n0 ≤ p.2.length := by
  obtain ⟨h1, h2⟩ := hI.reach p (List.mem_of_getElem? hi)
  exact h.low p.2 n0 h2 (by rw [h1]; exact hb)
theorem none_far (h : Far step k bad inf far) {n0 : N} {L : List (N × List Nat)} (hI : Inv step k n0 bad L L.length 0) : inf ≤ far n0 := h.far_none fun _ hu => hI.none hu
end Bf
end Go.Proofs.Ytenkhjmedolknaa
