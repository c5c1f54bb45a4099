/- Plain: automata of one language have one canonical automaton, and it has the language. Plain: dfa.Canon keeps the language; its result is valid. The contract of same in learner.split. The contract of learner.split. Plain: a round of learn.Of. Plain: the automata of the law LearnTells. -/
import Derived.Test.YtclpmmbclgihbaaJLearnTellsRow4
import Derived.Test.YtclpmmbclgihbaaJLearnTellsRow2
import Derived.Test.YtclpmmbclgihbaaJLearnTellsRow1
import Derived.Test.YtclpmmbclgihbaaJLearnTellsRow3
import Derived.BigQuiet
import Derived.Laws.EntriesVeiled
namespace Go.Proofs.Ytclpmmbclgihbaa
open Go.RowKit
namespace Df

theorem idx_alike {a b : Int} : ∀ (L L' : List Int), L.length = L'.length → (∀ i : Nat, L[i]? = some a ↔ L'[i]? = some b) → (a ∈ L ↔ b ∈ L') ∧ L.idxOf a = L'.idxOf b
  | [], [], _, _ => by simp
  | [], _ :: _, h, _ => by simp at h
  | _ :: _, [], h, _ => by simp at h
  | c :: L, d :: L', hl, h => by
    have h0 := h 0
    simp only [List.getElem?_cons_zero, Option.some.injEq] at h0
    have ih := idx_alike L L' (by simpa using hl) (fun i => by have := h (i + 1); simpa using this)
    by_cases e : c = a
    · have e2 := h0.1 e
      subst e e2
      simp
    · have e2 : ¬ d = b := fun e2 => e (h0.2 e2)
      constructor
      · simp only [List.mem_cons]
        constructor
        · rintro (h1 | h1)
          · exact absurd h1.symm e
          · exact .inr (ih.1.1 h1)
        · rintro (h1 | h1)
          · exact absurd h1.symm e2
          · exact .inr (ih.1.2 h1)
      · have e3 : (c == a) = false := by simpa using e
        have e4 : (d == b) = false := by simpa using e2
        simp only [List.idxOf_cons, e3, e4, ih.2]
section
variable {x y : Dfa} {P Q : Nat → Int}
theorem dead_lang (hx : Right x) (hP : Num x P) {t : Int} (ht : t < x.next.length) : deadP P t ↔ ∀ u, Bf.over x.width u → lg x t u = false := by
  unfold deadP
  by_cases h0 : t < 0
  · exact ⟨fun _ u _ => lg_dead x h0 u, fun _ => .inl h0⟩
  · have h1 := hP.dead t.toNat (by omega)
    rw [show ((t.toNat : Nat) : Int) = t by omega] at h1
    rw [← h1]
    constructor
    · rintro (h | h)
      · exact absurd h h0
      · exact h
    · exact .inr
structure Sim (x y : Dfa) (P Q : Nat → Int) (S R : List Nat) : Prop where
  len : S.length = R.length
  at' : ∀ (i : Nat) (s r : Nat), S[i]? = some s → R[i]? = some r → s < x.next.length ∧ r < y.next.length ∧ 0 ≤ P s ∧ 0 ≤ Q r ∧ SameL x y (s : Int) (r : Int)
theorem SameL.dead (hx : Right x) (hy : Right y) (hw : x.width = y.width) (hP : Num x P) (hQ : Num y Q) {v u : Int} (hv : v < x.next.length) (hu : u < y.next.length) (h : SameL x y v u) : deadP P v ↔ deadP Q u := by
  rw [dead_lang hx hP hv, dead_lang hy hQ hu]
  constructor
  · intro h1 q hq
    rw [← hw] at hq
    rw [← h q hq]; exact h1 q hq
  · intro h1 q hq
    rw [h q hq]
    rw [hw] at hq
    exact h1 q hq
theorem Sim.alike (hw : x.width = y.width) (hP : Num x P) (hQ : Num y Q) {S R : List Nat} (h : Sim x y P Q S R) {t q : Nat} (ht : t < x.next.length) (hq : q < y.next.length) (h0 : 0 ≤ P t) (h1 : 0 ≤ Q q) (hl : SameL x y (t : Int) (q : Int)) :
    (P t ∈ S.map P ↔ Q q ∈ R.map Q) ∧ (S.map P).idxOf (P t) = (R.map Q).idxOf (Q q) := by
  refine idx_alike _ _ (by rw [List.length_map, List.length_map]; exact h.len) fun i => ?_
  rw [List.getElem?_map, List.getElem?_map]
  by_cases hi : i < S.length
  · have hi2 : i < R.length := by rw [← h.len]; exact hi
    rw [List.getElem?_eq_getElem hi, List.getElem?_eq_getElem hi2]
    obtain ⟨a1, a2, a3, a4, a5⟩ := h.at' i _ _ (List.getElem?_eq_getElem hi) (List.getElem?_eq_getElem hi2)
    simp only [Option.map_some, Option.some.injEq]
    rw [hP.eq _ _ a1 ht a3 h0, hQ.eq _ _ a2 hq a4 h1]
    constructor
    · intro e u hu
      rw [← hw] at hu
      rw [← a5 u hu, e u hu, hl u hu]
    · intro e u hu
      rw [a5 u hu, hl u hu]
      rw [hw] at hu
      exact e u hu
  · rw [List.getElem?_eq_none (by omega), List.getElem?_eq_none (by rw [← h.len]; omega)]
    simp
theorem not_dead {v : Int} (h : ¬ deadP P v) : 0 ≤ v ∧ 0 ≤ P v.toNat := by unfold deadP at h; omega
theorem Sim.step (hx : Right x) (hy : Right y) (hw : x.width = y.width) (hP : Num x P) (hQ : Num y Q) {S R : List Nat} (h : Sim x y P Q S R) {v u : Int} (hv : v < x.next.length) (hu : u < y.next.length) (hl : SameL x y v u) : Sim x y P Q (stepS P S v) (stepS Q R u) := by
  have hd := SameL.dead hx hy hw hP hQ hv hu hl
  unfold stepS
  by_cases h1 : deadP P v
  · rw [if_pos (.inl h1), if_pos (.inl (hd.1 h1))]; exact h
  · have h2 : ¬ deadP Q u := fun e => h1 (hd.2 e)
    obtain ⟨a1, a2⟩ := not_dead h1
    obtain ⟨b1, b2⟩ := not_dead h2
    have e1 : ((v.toNat : Nat) : Int) = v := by omega
    have e2 : ((u.toNat : Nat) : Int) = u := by omega
    have hl2 : SameL x y ((v.toNat : Nat) : Int) ((u.toNat : Nat) : Int) := by rw [e1, e2]; exact hl
    have hal := (h.alike hw hP hQ (t := v.toNat) (q := u.toNat) (by omega) (by omega) a2 b2 hl2).1
    by_cases h3 : P v.toNat ∈ S.map P
    · rw [if_pos (.inr h3), if_pos (.inr (hal.1 h3))]; exact h
    · rw [if_neg (fun e => e.elim h1 h3), if_neg (fun e => e.elim h2 (fun e => h3 (hal.2 e)))]
      refine ⟨by rw [List.length_append, List.length_append, h.len]; rfl, fun i s r hs hr => ?_⟩
      by_cases hi : i < S.length
      · rw [List.getElem?_append_left hi] at hs
        rw [List.getElem?_append_left (by rw [← h.len]; exact hi)] at hr
        exact h.at' i s r hs hr
      · rw [List.getElem?_append_right (by omega)] at hs
        rw [List.getElem?_append_right (by rw [← h.len]; omega), ← h.len] at hr
        by_cases hi2 : i - S.length = 0
        · rw [hi2] at hs hr
          simp at hs hr
          subst hs hr
          exact ⟨by omega, by omega, a2, b2, hl2⟩
        · rw [List.getElem?_eq_none (by simp; omega)] at hs; cases hs
theorem Sim.val (hx : Right x) (hy : Right y) (hw : x.width = y.width) (hP : Num x P) (hQ : Num y Q) {S R : List Nat} (h : Sim x y P Q S R) {v u : Int} (hv : v < x.next.length) (hu : u < y.next.length) (hl : SameL x y v u) : valS P S v = valS Q R u := by
  have hd := SameL.dead hx hy hw hP hQ hv hu hl
  unfold valS
  by_cases h1 : deadP P v
  · rw [if_pos h1, if_pos (hd.1 h1)]
  · have h2 : ¬ deadP Q u := fun e => h1 (hd.2 e)
    obtain ⟨a1, a2⟩ := not_dead h1
    obtain ⟨b1, b2⟩ := not_dead h2
    have hl2 : SameL x y ((v.toNat : Nat) : Int) ((u.toNat : Nat) : Int) := by
      rw [show ((v.toNat : Nat) : Int) = v by omega, show ((u.toNat : Nat) : Int) = u by omega]; exact hl
    rw [if_neg h1, if_neg h2, (h.alike hw hP hQ (t := v.toNat) (q := u.toNat) (by omega) (by omega) a2 b2 hl2).2]
/-- rows that lead to the same languages -/
def RowL (x y : Dfa) (r q : List Int) : Prop := r.length = q.length ∧ ∀ (i : Nat) (a b : Int), r[i]? = some a → q[i]? = some b → a < x.next.length ∧ b < y.next.length ∧ SameL x y a b
theorem RowL.tail {a b : Int} {r q : List Int} (h : RowL x y (a :: r) (b :: q)) : RowL x y r q := ⟨by simpa using h.1, fun i c d hc hd => h.2 (i + 1) c d (by simpa using hc) (by simpa using hd)⟩
theorem Sim.fold (hx : Right x) (hy : Right y) (hw : x.width = y.width) (hP : Num x P) (hQ : Num y Q) : ∀ (r q : List Int) (S R : List Nat), RowL x y r q → Sim x y P Q S R → Sim x y P Q (r.foldl (stepS P) S) (q.foldl (stepS Q) R)
  | [], [], S, R, _, h => h
  | [], _ :: _, _, _, hr, _ => by have := hr.1; simp at this
  | _ :: _, [], _, _, hr, _ => by have := hr.1; simp at this
  | a :: r, b :: q, S, R, hr, h => by
    obtain ⟨h1, h2, h3⟩ := hr.2 0 a b rfl rfl
    exact Sim.fold hx hy hw hP hQ r q _ _ hr.tail (h.step hx hy hw hP hQ h1 h2 h3)
theorem Sim.vals (hx : Right x) (hy : Right y) (hw : x.width = y.width) (hP : Num x P) (hQ : Num y Q) {S R : List Nat} (h : Sim x y P Q S R) : ∀ (r q : List Int), RowL x y r q → r.map (valS P S) = q.map (valS Q R)
  | [], [], _ => rfl
  | [], _ :: _, hr => by have := hr.1; simp at this
  | _ :: _, [], hr => by have := hr.1; simp at this
  | a :: r, b :: q, hr => by
    obtain ⟨h1, h2, h3⟩ := hr.2 0 a b rfl rfl
    rw [List.map_cons, List.map_cons, h.val hx hy hw hP hQ h1 h2 h3, Sim.vals hx hy hw hP hQ h r q hr.tail]
theorem getD_row {s : Nat} (hs : s < x.next.length) : x.next.getD s [] = x.next[s] := by rw [List.getD_eq_getElem?_getD, List.getElem?_eq_getElem hs]; rfl
theorem rowL_of (hx : Right x) (hy : Right y) (hw : x.width = y.width) {s r : Nat} (hs : s < x.next.length) (hr : r < y.next.length) (hl : SameL x y (s : Int) (r : Int)) : RowL x y (x.next.getD s []) (y.next.getD r []) := by
  rw [getD_row hs, getD_row hr]
  have l1 := hx.rows _ (List.getElem_mem hs)
  have l2 := hy.rows _ (List.getElem_mem hr)
  refine ⟨by rw [l1, l2, hw], fun i a b ha hb => ?_⟩
  obtain ⟨h1, rfl⟩ := List.getElem?_eq_some_iff.1 ha
  obtain ⟨h2, rfl⟩ := List.getElem?_eq_some_iff.1 hb
  refine ⟨(hx.next _ (List.getElem_mem hs) _ (List.getElem_mem h1)).2, (hy.next _ (List.getElem_mem hr) _ (List.getElem_mem h2)).2, fun u hu => ?_⟩
  rw [← toS_edge (edge_at hs h1), ← toS_edge (edge_at hr h2)]
  exact hl (i :: u) (fun d hd => by rcases List.mem_cons.1 hd with rfl | hd; omega; exact hu d hd)
theorem disc_sim (hx : Right x) (hy : Right y) (hw : x.width = y.width) (hP : Num x P) (hQ : Num y Q) (hs : SameL x y x.start y.start) (hd : ¬ deadP P x.start) : ∀ i, Sim x y P Q (disc x P i) (disc y Q i)
  | 0 => by
    have h2 : ¬ deadP Q y.start := fun e => hd ((SameL.dead hx hy hw hP hQ hx.start.2 hy.start.2 hs).2 e)
    obtain ⟨a1, a2⟩ := not_dead hd
    obtain ⟨b1, b2⟩ := not_dead h2
    refine ⟨rfl, fun i s r h1 h2 => ?_⟩
    cases i with
    | zero =>
      have e1 : s = x.start.toNat := by simpa [disc] using h1.symm
      have e2 : r = y.start.toNat := by simpa [disc] using h2.symm
      subst e1 e2
      have := hx.start.2
      have := hy.start.2
      refine ⟨by omega, by omega, a2, b2, ?_⟩
      rw [show ((x.start.toNat : Nat) : Int) = x.start by omega, show ((y.start.toNat : Nat) : Int) = y.start by omega]
      exact hs
    | succ i => simp [disc] at h1
  | i + 1 => by
    have ih := disc_sim hx hy hw hP hQ hs hd i
    show Sim x y P Q (match (disc x P i)[i]? with | none => _ | some s => _) (match (disc y Q i)[i]? with | none => _ | some s => _)
    by_cases hi : i < (disc x P i).length
    · have hi2 : i < (disc y Q i).length := by rw [← ih.len]; exact hi
      rw [List.getElem?_eq_getElem hi, List.getElem?_eq_getElem hi2]
      obtain ⟨a1, a2, a3, a4, a5⟩ := ih.at' i _ _ (List.getElem?_eq_getElem hi) (List.getElem?_eq_getElem hi2)
      exact Sim.fold hx hy hw hP hQ _ _ _ _ (rowL_of hx hy hw a1 a2 a5) ih
    · rw [List.getElem?_eq_none (by omega), List.getElem?_eq_none (by rw [← ih.len]; omega)]
      exact ih
theorem flat_acc (hx : Right x) (hf : Flat x) {s : Nat} (hs : s < x.next.length) : x.acc.getD s 0 = if goodS x (s : Int) then 0 else -1 := by
  have hq2 : s < x.acc.length := by rw [hx.accs]; exact hs
  have h1 := hx.acc _ (List.getElem_mem hq2)
  have h2 := hf _ (List.getElem_mem hq2)
  unfold goodS
  rw [Int.toNat_natCast, List.getD_eq_getElem?_getD, List.getElem?_eq_getElem hq2]
  show x.acc[s] = _
  by_cases h : 0 ≤ x.acc[s]
  · simp [h]; omega
  · simp [h]; omega
theorem disc_okN (hx : Right x) (hP : Num x P) (hd : ¬ deadP P x.start) (i : Nat) : DiscOk x P x.next.length (disc x P i) := by
  obtain ⟨a1, a2⟩ := not_dead hd
  have h1 := hx.start.2
  refine disc_ok (fun k hk => (hP.rng k hk).2) ⟨fun s hs => ?_, by simp⟩ (fun s t ht => ?_) i
  · simp at hs
    subst hs
    exact ⟨by omega, a2, (hP.rng _ (by omega)).2⟩
  · by_cases hs : s < x.next.length
    · rw [getD_row hs] at ht
      exact (hx.next _ (List.getElem_mem hs) t ht).2
    · rw [List.getD_eq_getElem?_getD, List.getElem?_eq_none (by omega)] at ht; simp at ht
/-- automata of one language have one canonical automaton -/
theorem canon_one (hx : Right x) (hy : Right y) (hfx : Flat x) (hfy : Flat y) (hw : x.width = y.width) (hP : Num x P) (hQ : Num y Q) (hs : SameL x y x.start y.start) : canonD x P x.next.length = canonD y Q y.next.length := by
  have hdd := SameL.dead hx hy hw hP hQ hx.start.2 hy.start.2 hs
  have hx0 := hx.start.1
  have hy0 := hy.start.1
  by_cases hd : deadP P x.start
  · have h2 := hdd.1 hd
    unfold deadP at hd h2
    unfold canonD
    rw [if_pos (by omega), if_pos (by omega), hw]
  · have hd2 : ¬ deadP Q y.start := fun e => hd (hdd.2 e)
    have a2 := (not_dead hd).2
    have b2 := (not_dead hd2).2
    unfold canonD
    rw [if_neg (by omega), if_neg (by omega)]
    obtain ⟨N, hN⟩ : ∃ N, N = max x.next.length y.next.length := ⟨_, rfl⟩
    have k1 := rowsC_end (x := x) (P := P) (i := x.next.length) (n := N) (disc_okN hx hP hd _).len (by omega)
    have k2 := rowsC_end (x := y) (P := Q) (i := y.next.length) (n := N) (disc_okN hy hQ hd2 _).len (by omega)
    rw [← k1.1, ← k1.2, ← k2.1, ← k2.2]
    have hsim := disc_sim hx hy hw hP hQ hs hd N
    have key : ∀ {α : Type} (g h : Nat → α), (∀ (i s r : Nat), (disc x P N)[i]? = some s → (disc y Q N)[i]? = some r → g s = h r) → ((disc x P N).take N).map g = ((disc y Q N).take N).map h := by
      intro α g h hgh
      refine List.ext_getElem? fun i => ?_
      rw [List.getElem?_map, List.getElem?_map, List.getElem?_take, List.getElem?_take]
      by_cases hi : i < N
      · rw [if_pos hi, if_pos hi]
        by_cases hl : i < (disc x P N).length
        · have hl2 : i < (disc y Q N).length := by rw [← hsim.len]; exact hl
          rw [List.getElem?_eq_getElem hl, List.getElem?_eq_getElem hl2]
          simp only [Option.map_some]
          rw [hgh i _ _ (List.getElem?_eq_getElem hl) (List.getElem?_eq_getElem hl2)]
        · rw [List.getElem?_eq_none (by omega), List.getElem?_eq_none (by rw [← hsim.len]; omega)]
          rfl
      · rw [if_neg hi, if_neg hi]; rfl
    have e1 : accsC x P N = accsC y Q N := key _ _ fun i s r h1 h2 => by
      obtain ⟨c1, c2, c3, c4, c5⟩ := hsim.at' i s r h1 h2
      rw [flat_acc hx hfx c1, flat_acc hy hfy c2]
      have h0 := c5 [] (fun c hc => (by cases hc))
      rw [show goodS x (s : Int) = goodS y (r : Int) from h0]
    have e2 : rowsC x P N = rowsC y Q N := key _ _ fun i s r h1 h2 => by
      obtain ⟨c1, c2, c3, c4, c5⟩ := hsim.at' i s r h1 h2
      exact hsim.vals hx hy hw hP hQ _ _ (rowL_of hx hy hw c1 c2 c5)
    rw [e1, e2]
end
end Df
end Go.Proofs.Ytclpmmbclgihbaa
namespace Go.Proofs.Ytclpmmbclgihbaa
open Go.RowKit
namespace Df

section
variable {x : Dfa} {P : Nat → Int}
theorem disc_reachC {n q : Nat} (h : (disc x P n).length ≤ n) (hq : q < (disc x P n).length) : q < (disc x P q).length := by
  by_cases h2 : q < (disc x P q).length
  · exact h2
  · have e := disc_end x P (i := q) (by omega) (j := n) (by omega)
    rw [e] at hq
    omega
theorem disc_closedC {n s : Nat} (h : (disc x P n).length ≤ n) (hs : s ∈ disc x P n) {t : Int} (ht : t ∈ x.next.getD s []) : known P (disc x P n) t := by
  obtain ⟨q, hq, e⟩ := List.getElem_of_mem hs
  exact disc_known x P n q (by omega) s (by rw [List.getElem?_eq_getElem hq, e]) (disc_reachC h hq) t ht
theorem rowsC_all {n : Nat} (h : (disc x P n).length ≤ n) : rowsC x P n = (disc x P n).map (rowC x P (disc x P n)) ∧ accsC x P n = (disc x P n).map fun s => x.acc.getD s 0 := by
  unfold rowsC accsC
  rw [List.take_of_length_le h]
  exact ⟨rfl, rfl⟩
/-- where a value leads back to -/
theorem val_back {S : List Nat} {v : Int} (hk : known P S v) : (deadP P v ∧ valS P S v = -1) ∨ (¬ deadP P v ∧ ∃ i s, valS P S v = ((i : Nat) : Int) ∧ S[i]? = some s ∧ P s = P v.toNat) := by
  by_cases hd : deadP P v
  · exact .inl ⟨hd, by unfold valS; rw [if_pos hd]⟩
  · refine .inr ⟨hd, (S.map P).idxOf (P v.toNat), ?_⟩
    have hm : P v.toNat ∈ S.map P := hk.resolve_left hd
    have hl := List.idxOf_lt_length_of_mem hm
    have h1 : (S.map P)[(S.map P).idxOf (P v.toNat)]? = some (P v.toNat) := by rw [List.getElem?_eq_getElem hl, List.getElem_idxOf hl]
    rw [List.getElem?_map] at h1
    cases hs : S[(S.map P).idxOf (P v.toNat)]? with
    | none => rw [hs] at h1; cases h1
    | some s =>
      rw [hs] at h1
      exact ⟨s, by unfold valS; rw [if_neg hd], rfl, by simpa using h1⟩
theorem canon_right (hx : Right x) (hP : Num x P) : Right (canonD x P x.next.length) ∧ (canonD x P x.next.length).width = x.width ∧ (canonD x P x.next.length).start = 0 ∧ (Flat x → Flat (canonD x P x.next.length)) := by
  have hst := hx.states
  have hsy := hx.syms
  by_cases hd : deadP P x.start
  · have h0 := hx.start.1
    have hc : canonD x P x.next.length = ⟨0, [-1], [List.replicate x.width (-1)]⟩ := by
      unfold canonD
      unfold deadP at hd
      rw [if_pos (by omega)]
    rw [hc]
    have hw : (⟨0, [-1], [List.replicate x.width (-1)]⟩ : Dfa).width = x.width := by simp [Dfa.width]
    refine ⟨⟨by simp, by simp, by rw [hw]; exact hsy, fun r hr => ?_, by simp, fun v hv => ?_, fun r hr v hv => ?_⟩, hw, rfl, fun _ v hv => ?_⟩
    · rw [hw]; simp at hr; subst hr; simp
    · simp at hv; omega
    · simp at hr; subst hr
      have := List.eq_of_mem_replicate hv
      simp; omega
    · simp at hv; omega
  · have a2 := (not_dead hd).2
    have hok := disc_okN hx hP hd x.next.length
    have hlen := hok.len
    obtain ⟨e1, e2⟩ := rowsC_all hlen
    have hc : canonD x P x.next.length = ⟨0, accsC x P x.next.length, rowsC x P x.next.length⟩ := by
      unfold canonD
      rw [if_neg (by omega)]
    rw [hc, e1, e2]
    have hpos : 0 < (disc x P x.next.length).length := Nat.lt_of_lt_of_le (by simp [disc]) (disc_to x P (i := 0) (j := x.next.length) (by omega)).length_le
    have hrl : ∀ s ∈ disc x P x.next.length, (rowC x P (disc x P x.next.length) s).length = x.width := fun s hs => by
      have h1 := (hok.lt s hs).1
      unfold rowC
      rw [List.length_map, getD_row h1]
      exact hx.rows _ (List.getElem_mem h1)
    have hw : (⟨0, (disc x P x.next.length).map fun s => x.acc.getD s 0, (disc x P x.next.length).map (rowC x P (disc x P x.next.length))⟩ : Dfa).width = x.width := by
      unfold Dfa.width
      cases hdl : disc x P x.next.length with
      | nil => rw [hdl] at hpos; simp at hpos
      | cons s l =>
        have := hrl s (by rw [hdl]; exact List.mem_cons_self)
        rw [hdl] at this
        exact this
    refine ⟨⟨by simp; omega, by simp, by rw [hw]; exact hsy, fun r hr => ?_, by simp; omega, fun v hv => ?_, fun r hr v hv => ?_⟩, hw, rfl, fun hf v hv => ?_⟩
    · rw [hw]
      simp only [List.mem_map] at hr
      obtain ⟨s, hs, rfl⟩ := hr
      exact hrl s hs
    · simp only [List.mem_map] at hv
      obtain ⟨s, hs, rfl⟩ := hv
      have h1 : s < x.acc.length := by rw [hx.accs]; exact (hok.lt s hs).1
      rw [List.getD_eq_getElem?_getD, List.getElem?_eq_getElem h1]
      exact hx.acc _ (List.getElem_mem h1)
    · simp only [List.mem_map] at hr
      obtain ⟨s, hs, rfl⟩ := hr
      unfold rowC at hv
      rw [List.mem_map] at hv
      obtain ⟨t, ht, rfl⟩ := hv
      rcases val_back (disc_closedC hlen hs ht) with ⟨_, h2⟩ | ⟨_, i, q, h2, h3, _⟩
      · rw [h2]; simp; omega
      · rw [h2]
        have := (List.getElem?_eq_some_iff.1 h3).1
        simp; omega
    · simp only [List.mem_map] at hv
      obtain ⟨s, hs, rfl⟩ := hv
      have h1 : s < x.acc.length := by rw [hx.accs]; exact (hok.lt s hs).1
      rw [List.getD_eq_getElem?_getD, List.getElem?_eq_getElem h1]
      exact hf _ (List.getElem_mem h1)
theorem canon_run (hx : Right x) (hP : Num x P) (hd : ¬ deadP P x.start) : ∀ (u : List Nat) (v : Int), v < x.next.length → known P (disc x P x.next.length) v → Bf.over x.width u → lg (canonD x P x.next.length) (valS P (disc x P x.next.length) v) u = lg x v u := by
  have a2 := (not_dead hd).2
  have hok := disc_okN hx hP hd x.next.length
  have hlen := hok.len
  obtain ⟨e1, e2⟩ := rowsC_all hlen
  have hc : canonD x P x.next.length = ⟨0, accsC x P x.next.length, rowsC x P x.next.length⟩ := by
    unfold canonD
    have := hx.start.1
    rw [if_neg (by omega)]
  intro u
  induction u with
  | nil =>
    intro v hv hk hu
    rcases val_back hk with ⟨h1, h2⟩ | ⟨h1, i, s, h2, h3, h4⟩
    · rw [h2, lg_dead _ (by decide), (dead_lang hx hP hv).1 h1 [] hu]
    · obtain ⟨b1, b2⟩ := not_dead h1
      obtain ⟨c1, c2, c3⟩ := hok.lt s (List.mem_of_getElem? h3)
      have hl := (hP.eq s v.toNat c1 (by omega) c2 b2).1 h4
      have h5 := hl [] hu
      rw [show ((v.toNat : Nat) : Int) = v by omega] at h5
      rw [← h5, h2]
      show goodS _ _ = goodS x (s : Int)
      rw [hc]
      unfold goodS
      show (decide (0 ≤ ((i : Nat) : Int)) && decide (0 ≤ ((accsC x P x.next.length)[((i : Nat) : Int).toNat]?).getD (-1))) = _
      rw [e2, Int.toNat_natCast, Int.toNat_natCast, List.getElem?_map, h3]
      have h6 : s < x.acc.length := by rw [hx.accs]; exact c1
      simp [List.getD_eq_getElem?_getD, List.getElem?_eq_getElem h6]
  | cons c u ih =>
    intro v hv hk hu
    rcases val_back hk with ⟨h1, h2⟩ | ⟨h1, i, s, h2, h3, h4⟩
    · rw [h2, lg_dead _ (by decide), (dead_lang hx hP hv).1 h1 _ hu]
    · obtain ⟨b1, b2⟩ := not_dead h1
      obtain ⟨c1, c2, c3⟩ := hok.lt s (List.mem_of_getElem? h3)
      have hl := (hP.eq s v.toNat c1 (by omega) c2 b2).1 h4
      have h5 := hl (c :: u) hu
      rw [show ((v.toNat : Nat) : Int) = v by omega] at h5
      rw [← h5, h2, lg_cons, lg_cons]
      have hcw := hu c List.mem_cons_self
      have hcr : c < x.next[s].length := by rw [hx.rows _ (List.getElem_mem c1)]; exact hcw
      have hte := toS_edge (edge_at c1 hcr)
      have hto : toS (canonD x P x.next.length) ((i : Nat) : Int) c = valS P (disc x P x.next.length) (toS x (s : Int) c) := by
        rw [hc]
        unfold toS
        rw [if_neg (by omega), if_neg (by omega), Int.toNat_natCast, Int.toNat_natCast]
        show (((rowsC x P x.next.length)[i]?.getD [])[c]?).getD (-1) = _
        rw [e1, List.getElem?_map, h3]
        show ((rowC x P (disc x P x.next.length) s)[c]?).getD (-1) = _
        unfold rowC
        rw [getD_row c1, List.getElem?_map, List.getElem?_eq_getElem hcr, List.getElem?_eq_getElem c1]
        simp [List.getElem?_eq_getElem hcr]
      rw [hto]
      refine ih _ (toS_in hx (s : Int) c).2 ?_ (fun d hd => hu d (List.mem_cons_of_mem _ hd))
      refine disc_closedC hlen (List.mem_of_getElem? h3) ?_
      rw [hte, getD_row c1]
      exact List.getElem_mem hcr
theorem canon_lang (hx : Right x) (hP : Num x P) (u : List Nat) (hu : Bf.over x.width u) : lg (canonD x P x.next.length) 0 u = lg x x.start u := by
  by_cases hd : deadP P x.start
  · rw [(dead_lang hx hP hx.start.2).1 hd u hu]
    have h0 := hx.start.1
    have hc : canonD x P x.next.length = ⟨0, [-1], [List.replicate x.width (-1)]⟩ := by
      unfold canonD
      unfold deadP at hd
      rw [if_pos (by omega)]
    rw [hc]
    cases u with
    | nil => rfl
    | cons c u =>
      rw [lg_cons]
      refine lg_dead _ ?_ u
      have hcw := hu c List.mem_cons_self
      unfold toS
      rw [if_neg (by omega)]
      simp [List.getElem?_replicate, hcw]
  · obtain ⟨a1, a2⟩ := not_dead hd
    have hst := hx.start
    obtain ⟨t, ht⟩ := disc_to x P (i := 0) (j := x.next.length) (by omega)
    have h1 : disc x P x.next.length = x.start.toNat :: t := by rw [← ht]; rfl
    have h2 : valS P (disc x P x.next.length) x.start = 0 := by
      unfold valS
      rw [if_neg hd, h1]
      simp
    have h3 := canon_run hx hP hd u x.start hst.2 (.inr (by rw [h1]; simp)) hu
    rw [h2] at h3
    exact h3
end
end Df
end Go.Proofs.Ytclpmmbclgihbaa
namespace Go.Proofs.Ytclpmmbclgihbaa
open Go.RowKit
namespace Lr
open Df Km

theorem concat2L (w : World) (g : Nat) (e : TypeId) (v1 v2 : Value) (l1 l2 : List Int) (hg : g = w.heap.size) (h1 : Sl w v1 (ints l1)) (h2 : Sl w v2 (ints l2)) (hb : lens [l1, l2] * 8 ≤ 140737488355328) :
    Calls Try.prog 34 #[.slice (some ⟨g, 0, none⟩) 2 2] (w.alloc (.cells #[v1, v2] e)).drew (NewInts [l1, l2].flatten w) := by
  have hB : Below w.heap.size w (w.alloc (.cells #[v1, v2] e)).drew := ((Below.refl _ _).alloc (Nat.le_refl _) _).drew
  have hs : Sl (w.alloc (.cells #[v1, v2] e)).drew (.slice (some ⟨g, 0, none⟩) [v1, v2].length 2) [v1, v2] := sl_lit (v := #[v1, v2]) hg (by simp [maxLen])
  refine (concat_int (some ⟨g, 0, none⟩) 2 [v1, v2] [l1, l2] _ hs rfl ?_ hb).mono ?_
  · intro i hi
    simp at hi
    match i, hi with
    | 0, _ => exact h1.keep hB
    | 1, _ => exact h2.keep hB
  · rintro e w' ⟨a, c, rfl, ho, hb⟩
    exact ⟨a, c, rfl, ho.mono hB.size, hB.trans (hb.mono hB.size)⟩

set_option maxHeartbeats 4000000 in
set_option maxRecDepth 100000 in
theorem sameE (fn : Nat) (lb : Array Value) (f : List Int → Bool) (b mb c : Nat) (hc : c ≤ 1000000000) (K : Int) (hK6 : K ≤ 256) (k : Int) (sa : Option Addr) (L cs : Nat) (tv rv : Value) (pb sb ub qb : Nat) (qv : Bool) (A : List (List Int)) (st u a : List Int) (lu : Nat) (hlu : u.length = lu) (ns : Nat) (hns : st.length = ns) (sto au : Option Addr) (cst cu : Nat) (i q : Nat) (hi : i < lu) (his : st[i]? = some (q : Int)) (haq : A[q]? = some a) (hLA : A.length = L)
    (hoa : ovK K a) (hou : ovK K u) (hla : a.length ≤ 5000) (hlu5 : lu ≤ 5000) (w : World) (eg : ∀ args w, (callFunc fn args).run Try.prog w = .ok (.enter fn args) w) (hf : ∀ W, Below w.heap.size w W → AskFn fn lb f K W)
    (hb : w.heap[b]? = some (.cells #[.int .i64 k, .func (.func fn) #[] lb, .map (some mb), .slice sa L cs, tv, rv] 43 (0, 0))) (hK : KN f mb c w) (hA : Rd AnyB w (.sl (A.map D.ints)) [.slice sa L cs]) (hS : Sl w (.slice sto ns cst) (ints st)) (hU : Sl w (.slice au lu cu) (ints u))
    (hpb : w.heap[pb]? = some (.cells #[.pointer (some ⟨b, 0, none⟩)] 39 (0, 0))) (hsb : w.heap[sb]? = some (.cells #[.slice sto ns cst] 22 (0, 0))) (hub : w.heap[ub]? = some (.cells #[.slice au lu cu] 22 (0, 0))) (hqb : w.heap[qb]? = some (.cells #[.bool qv] 4 (0, 0))) (hqm : qb ≠ mb) :
    Calls Try.prog 33 #[.int .i64 (i : Int), .pointer (some ⟨pb, 0, none⟩), .pointer (some ⟨sb, 0, none⟩), .pointer (some ⟨ub, 0, none⟩), .pointer (some ⟨qb, 0, none⟩)] w fun e w' => ∃ c', e = .returned (.bool (f (a ++ u.drop i) == qv)) ∧ KN f mb c' w' ∧ c' ≤ c + 1 ∧ w.grownBy w' (some mb) := by
  obtain ⟨hqA, hqe⟩ := List.getElem?_eq_some_iff.1 haq
  obtain ⟨his2, hise⟩ := List.getElem?_eq_some_iff.1 his
  obtain ⟨ba, oa, va, hae, ca, hsa⟩ := Rd.rowI_at hA hqA
  rw [hqe] at hsa
  obtain ⟨aa, ka, rfl⟩ := hsa.form
  rw [ints_len] at ca hsa
  obtain ⟨bs, os, hse, hsc⟩ := hS.at (k := i) (by omega)
  have cs0 := hsc i (by rw [ints_len]; exact his2)
  rw [ints_get, hise] at cs0
  obtain ⟨bu, ou, hue, huc⟩ := hU.at hi
  have hul := hU.len
  have hrest := hU.rest (k := i) (by omega) (by omega)
  subst hae hse hue
  have hdr : (ints u).drop i = ints (u.drop i) := by simp [ints]
  rw [hdr] at hrest
  have hr2 : Sl w (.slice (some ⟨bu, ou + i, none⟩) (lu - i) (cu - i)) (ints (u.drop i)) := by
    have := hrest
    simp only [Option.map_some, add_at] at this
    exact this
  have hxl : (a ++ u.drop i).length ≤ 10000 := by rw [List.length_append, List.length_drop]; omega
  have hox : ovK K (a ++ u.drop i) := ovK_app hoa fun y hy => hou y (List.mem_of_mem_drop hy)
  obtain ⟨la, HLA⟩ := nameIt a.length
  rw [HLA.out] at ca hsa
  obtain ⟨l2, HL2⟩ := nameIt (lu - i)
  obtain ⟨c2, HC2⟩ := nameIt (cu - i)
  rw [HL2.out, HC2.out] at hr2
  have hslt : ∀ W, (Instr.slice 22 (.slice (some ⟨bu, ou, none⟩) lu cu) (some (.int .i64 (i : Int))) none none).run Try.prog W = .ok (.slice (some ⟨bu, ou + i, none⟩) l2 c2) W := fun W => by
    have hs := run_slice_l (P := Try.prog) W 22 (some ⟨bu, ou, none⟩) lu cu (by kernel_rfl) .i64 i (by omega) (by omega)
    rw [hs, ← HL2.out, ← HC2.out]
    have hct : ¬ cu = i := by omega
    simp [go_sem, hct]
  have hcc := concat2L w w.heap.size 22 (.slice aa la ka) (.slice (some ⟨bu, ou + i, none⟩) l2 c2) a (u.drop i) rfl hsa hr2 (by rw [lens_flatten]; simp; omega)
  have HCC := Lib.hid hcc
  have HX : Hid (([a, u.drop i] : List (List Int)).flatten = a ++ u.drop i) := by show _ = _; simp
  have HMB : Hid (∀ (W : World) (nx : Nat) (a3 : Option Addr) (c3 : Nat), nx = (a ++ u.drop i).length → Below w.heap.size w W → Sl W (.slice a3 nx c3) (ints (a ++ u.drop i)) → Calls Try.prog 28 #[.pointer (some ⟨b, 0, none⟩), .slice a3 nx c3] W fun e w' => ∃ c', e = .returned (.bool (f (a ++ u.drop i))) ∧ KN f mb c' w' ∧ c' ≤ c + 1 ∧ W.grownBy w' (some mb)) := fun W nx a3 c3 hnx hbW hsW =>
    memberE fn lb f b mb c hc k (.slice (some ⟨ba, oa, none⟩) L cs) tv rv (a ++ u.drop i) nx hnx.symm K hK6 hox (by omega) a3 c3 W eg (hf W hbW) (bx_keep hb hbW) (hK.keep hbW) hsW
  obtain ⟨r, HR⟩ := nameIt (f (a ++ u.drop i))
  obtain ⟨x, HXN⟩ := nameIt (a ++ u.drop i)
  rw [HXN.out] at HX HMB HR
  have p0 := bx_cells1 hpb
  have s0 := bx_cells1 hsb
  have u0 := bx_cells1 hub
  have q0 := bx_cells1 hqb
  obtain ⟨x0, x1, x2, x3, x4, x5⟩ := bx_cells6 hb
  have hiI : (i : Int) < (ns : Int) := by rw [← hns]; omega
  have hi0 : (0 : Int) ≤ (i : Int) := by omega
  have hqL : (q : Int) < (L : Int) := by rw [← hLA]; omega
  have hq0 : (0 : Int) ≤ (q : Int) := by omega
  have hiu : (i : Int) ≤ (lu : Int) := by omega
  have HQM := Lib.hid hqm
  have HQB := Lib.hid hqb
  have HS : Hid (∀ W, Below w.heap.size w W → (fun w' => w'.cell? ⟨pb, 0, none⟩ = some (.pointer (some ⟨b, 0, none⟩)) ∧ w'.cell? ⟨b, 0 + 3, none⟩ = some (.slice (some ⟨ba, oa, none⟩) L cs) ∧ w'.cell? ⟨sb, 0, none⟩ = some (.slice (some ⟨bs, os, none⟩) ns cst) ∧ w'.cell? ⟨bs, os + i, none⟩ = some (.int .i64 (q : Int)) ∧ w'.cell? ⟨ba, oa + q, none⟩ = some (.slice aa la ka) ∧ w'.cell? ⟨ub, 0, none⟩ = some (.slice (some ⟨bu, ou, none⟩) lu cu) ∧ w'.cell? ⟨qb, 0, none⟩ = some (.bool qv)) W) := fun W hbW => ⟨(hbW.cell (lt_of_cell p0)).trans p0, (hbW.cell (lt_of_cell x3)).trans x3, (hbW.cell (lt_of_cell s0)).trans s0, (hbW.cell (lt_of_cell cs0)).trans cs0, (hbW.cell (lt_of_cell ca)).trans ca, (hbW.cell (lt_of_cell u0)).trans u0, (hbW.cell (lt_of_cell q0)).trans q0⟩
  have HS2 : Hid (∀ W0 W, Below w.heap.size w W0 → KN f mb c W0 → W0.grownBy W (some mb) → (fun w' => w'.cell? ⟨pb, 0, none⟩ = some (.pointer (some ⟨b, 0, none⟩)) ∧ w'.cell? ⟨b, 0 + 3, none⟩ = some (.slice (some ⟨ba, oa, none⟩) L cs) ∧ w'.cell? ⟨sb, 0, none⟩ = some (.slice (some ⟨bs, os, none⟩) ns cst) ∧ w'.cell? ⟨bs, os + i, none⟩ = some (.int .i64 (q : Int)) ∧ w'.cell? ⟨ba, oa + q, none⟩ = some (.slice aa la ka) ∧ w'.cell? ⟨ub, 0, none⟩ = some (.slice (some ⟨bu, ou, none⟩) lu cu) ∧ w'.cell? ⟨qb, 0, none⟩ = some (.bool qv)) W) := fun W0 W hb0 hk0 hg => by
    obtain ⟨h0, h1, h2, h3, h4, h5, h6⟩ := HS.out W0 hb0
    exact ⟨cell_map h0 hk0 hg, cell_map h1 hk0 hg, cell_map h2 hk0 hg, cell_map h3 hk0 hg, cell_map h4 hk0 hg, cell_map h5 hk0 hg, cell_map h6 hk0 hg⟩
  have HKK := Lib.hid hK
  obtain ⟨PST, HP⟩ := nameIt (fun (e : Ending) (w' : World) => ∃ c', e = .returned (.bool (r == qv)) ∧ KN f mb c' w' ∧ c' ≤ c + 1 ∧ w.grownBy w' (some mb))
  have HFIN : Hid (∀ c' w', KN f mb c' w' → c' ≤ c + 1 → w.grownBy w' (some mb) → PST (.returned (.bool (r == qv))) w') := by
    intro c' w' h1 h2 h3; rw [← HP.out]; exact ⟨c', rfl, h1, h2, h3⟩
  rw [HXN.out, HR.out, HP.out]
  rw [HR.out] at HMB
  clear hqe his2 hise hsa hsc huc hul hrest hdr hr2 hcc hxl hox hpb hsb hub hqb hb hK hA hS hU hf his haq hoa hou hqA hns hLA hlu hla HP
  go_enter Try.func33, Try.ntmps33
  go_upto_region 1 with fail
  refine wp_region_U (S := (fun w' => w'.cell? ⟨pb, 0, none⟩ = some (.pointer (some ⟨b, 0, none⟩)) ∧ w'.cell? ⟨b, 0 + 3, none⟩ = some (.slice (some ⟨ba, oa, none⟩) L cs) ∧ w'.cell? ⟨sb, 0, none⟩ = some (.slice (some ⟨bs, os, none⟩) ns cst) ∧ w'.cell? ⟨bs, os + i, none⟩ = some (.int .i64 (q : Int)) ∧ w'.cell? ⟨ba, oa + q, none⟩ = some (.slice aa la ka) ∧ w'.cell? ⟨ub, 0, none⟩ = some (.slice (some ⟨bu, ou, none⟩) lu cu) ∧ w'.cell? ⟨qb, 0, none⟩ = some (.bool qv))) 18 (by kernel_rfl) (fun inv => ?_)
  refine wpU_take (i := 0) (v := .pointer (some ⟨b, 0, none⟩)) rfl inv (by kernel_rfl) (by kernel_rfl) (by decide) (by decide) (by kernel_rfl) (by kernel_rfl) (by kernel_rfl) (fun _ _ _ h => h) (Or.inl ⟨by rfl, fun w' hw' => ?_⟩) (HS.out _ (Below.refl _ _).drew) (fun inv => ?_)
  · obtain ⟨h0, h1, h2, h3, h4, h5, h6⟩ := hw'
    go_simp
  try simp only [Act.put, List.setIfInBounds_toArray, List.set_cons_zero, List.set_cons_succ]
  refine wpU_take (i := 1) (v := .pointer (some ⟨b, 0, none⟩)) rfl inv (by kernel_rfl) (by kernel_rfl) (by decide) (by decide) (by kernel_rfl) (by kernel_rfl) (by kernel_rfl) (fun _ _ _ h => h) (Or.inl ⟨by rfl, fun w' hw' => ?_⟩) (HS.out _ (Below.refl _ _).drew) (fun inv => ?_)
  · obtain ⟨h0, h1, h2, h3, h4, h5, h6⟩ := hw'
    go_simp
  try simp only [Act.put, List.setIfInBounds_toArray, List.set_cons_zero, List.set_cons_succ]
  refine wpU_take (i := 2) (v := .pointer (some ⟨b, 0, none⟩)) rfl inv (by kernel_rfl) (by kernel_rfl) (by decide) (by decide) (by kernel_rfl) (by kernel_rfl) (by kernel_rfl) (fun _ _ _ h => h) (Or.inl ⟨by rfl, fun w' hw' => ?_⟩) (HS.out _ (Below.refl _ _).drew) (fun inv => ?_)
  · obtain ⟨h0, h1, h2, h3, h4, h5, h6⟩ := hw'
    go_simp
  try simp only [Act.put, List.setIfInBounds_toArray, List.set_cons_zero, List.set_cons_succ]
  refine wpU_take (i := 3) (v := .pointer (some ⟨b, 0 + 3, none⟩)) rfl inv (by kernel_rfl) (by kernel_rfl) (by decide) (by decide) (by kernel_rfl) (by kernel_rfl) (by kernel_rfl) (fun _ _ _ h => h) (Or.inl ⟨by rfl, fun w' hw' => ?_⟩) (HS.out _ (Below.refl _ _).drew) (fun inv => ?_)
  · obtain ⟨h0, h1, h2, h3, h4, h5, h6⟩ := hw'
    go_simp
  try simp only [Act.put, List.setIfInBounds_toArray, List.set_cons_zero, List.set_cons_succ]
  refine wpU_take (i := 4) (v := .slice (some ⟨ba, oa, none⟩) L cs) rfl inv (by kernel_rfl) (by kernel_rfl) (by decide) (by decide) (by kernel_rfl) (by kernel_rfl) (by kernel_rfl) (fun _ _ _ h => h) (Or.inl ⟨by rfl, fun w' hw' => ?_⟩) (HS.out _ (Below.refl _ _).drew) (fun inv => ?_)
  · obtain ⟨h0, h1, h2, h3, h4, h5, h6⟩ := hw'
    go_simp
  try simp only [Act.put, List.setIfInBounds_toArray, List.set_cons_zero, List.set_cons_succ]
  refine wpU_take (i := 5) (v := .slice (some ⟨bs, os, none⟩) ns cst) rfl inv (by kernel_rfl) (by kernel_rfl) (by decide) (by decide) (by kernel_rfl) (by kernel_rfl) (by kernel_rfl) (fun _ _ _ h => h) (Or.inl ⟨by rfl, fun w' hw' => ?_⟩) (HS.out _ (Below.refl _ _).drew) (fun inv => ?_)
  · obtain ⟨h0, h1, h2, h3, h4, h5, h6⟩ := hw'
    go_simp
  try simp only [Act.put, List.setIfInBounds_toArray, List.set_cons_zero, List.set_cons_succ]
  refine wpU_take (i := 6) (v := .int .i64 (i : Int)) rfl inv (by kernel_rfl) (by kernel_rfl) (by decide) (by decide) (by kernel_rfl) (by kernel_rfl) (by kernel_rfl) (fun _ _ _ h => h) (Or.inl ⟨by rfl, fun w' hw' => ?_⟩) (HS.out _ (Below.refl _ _).drew) (fun inv => ?_)
  · obtain ⟨h0, h1, h2, h3, h4, h5, h6⟩ := hw'
    go_simp
  try simp only [Act.put, List.setIfInBounds_toArray, List.set_cons_zero, List.set_cons_succ]
  refine wpU_take (i := 7) (v := .pointer (some ⟨bs, os + i, none⟩)) rfl inv (by kernel_rfl) (by kernel_rfl) (by decide) (by decide) (by kernel_rfl) (by kernel_rfl) (by kernel_rfl) (fun _ _ _ h => h) (Or.inl ⟨by rfl, fun w' hw' => ?_⟩) (HS.out _ (Below.refl _ _).drew) (fun inv => ?_)
  · obtain ⟨h0, h1, h2, h3, h4, h5, h6⟩ := hw'
    go_simp
  try simp only [Act.put, List.setIfInBounds_toArray, List.set_cons_zero, List.set_cons_succ]
  refine wpU_take (i := 8) (v := .int .i64 (q : Int)) rfl inv (by kernel_rfl) (by kernel_rfl) (by decide) (by decide) (by kernel_rfl) (by kernel_rfl) (by kernel_rfl) (fun _ _ _ h => h) (Or.inl ⟨by rfl, fun w' hw' => ?_⟩) (HS.out _ (Below.refl _ _).drew) (fun inv => ?_)
  · obtain ⟨h0, h1, h2, h3, h4, h5, h6⟩ := hw'
    go_simp
  try simp only [Act.put, List.setIfInBounds_toArray, List.set_cons_zero, List.set_cons_succ]
  refine wpU_take (i := 9) (v := .pointer (some ⟨ba, oa + q, none⟩)) rfl inv (by kernel_rfl) (by kernel_rfl) (by decide) (by decide) (by kernel_rfl) (by kernel_rfl) (by kernel_rfl) (fun _ _ _ h => h) (Or.inl ⟨by rfl, fun w' hw' => ?_⟩) (HS.out _ (Below.refl _ _).drew) (fun inv => ?_)
  · obtain ⟨h0, h1, h2, h3, h4, h5, h6⟩ := hw'
    go_simp
  try simp only [Act.put, List.setIfInBounds_toArray, List.set_cons_zero, List.set_cons_succ]
  refine wpU_take (i := 10) (v := .slice aa la ka) rfl inv (by kernel_rfl) (by kernel_rfl) (by decide) (by decide) (by kernel_rfl) (by kernel_rfl) (by kernel_rfl) (fun _ _ _ h => h) (Or.inl ⟨by rfl, fun w' hw' => ?_⟩) (HS.out _ (Below.refl _ _).drew) (fun inv => ?_)
  · obtain ⟨h0, h1, h2, h3, h4, h5, h6⟩ := hw'
    go_simp
  try simp only [Act.put, List.setIfInBounds_toArray, List.set_cons_zero, List.set_cons_succ]
  refine wpU_take (i := 11) (v := .slice (some ⟨bu, ou, none⟩) lu cu) rfl inv (by kernel_rfl) (by kernel_rfl) (by decide) (by decide) (by kernel_rfl) (by kernel_rfl) (by kernel_rfl) (fun _ _ _ h => h) (Or.inl ⟨by rfl, fun w' hw' => ?_⟩) (HS.out _ (Below.refl _ _).drew) (fun inv => ?_)
  · obtain ⟨h0, h1, h2, h3, h4, h5, h6⟩ := hw'
    go_simp
  try simp only [Act.put, List.setIfInBounds_toArray, List.set_cons_zero, List.set_cons_succ]
  refine wpU_take (i := 12) (v := .int .i64 (i : Int)) rfl inv (by kernel_rfl) (by kernel_rfl) (by decide) (by decide) (by kernel_rfl) (by kernel_rfl) (by kernel_rfl) (fun _ _ _ h => h) (Or.inl ⟨by rfl, fun w' hw' => ?_⟩) (HS.out _ (Below.refl _ _).drew) (fun inv => ?_)
  · obtain ⟨h0, h1, h2, h3, h4, h5, h6⟩ := hw'
    go_simp
  try simp only [Act.put, List.setIfInBounds_toArray, List.set_cons_zero, List.set_cons_succ]
  refine wpU_take (i := 13) (v := .slice (some ⟨bu, ou + i, none⟩) l2 c2) rfl inv (by kernel_rfl) (by kernel_rfl) (by decide) (by decide) (by kernel_rfl) (by kernel_rfl) (by kernel_rfl) (fun _ _ _ h => h) (Or.inl ⟨by rfl, fun w' hw' => ?_⟩) (HS.out _ (Below.refl _ _).drew) (fun inv => ?_)
  · obtain ⟨h0, h1, h2, h3, h4, h5, h6⟩ := hw'
    go_simp
  try simp only [Act.put, List.setIfInBounds_toArray, List.set_cons_zero, List.set_cons_succ]
  refine wpU_take (i := 17) (v := .bool qv) rfl inv (by kernel_rfl) (by kernel_rfl) (by decide) (by decide) (by kernel_rfl) (by kernel_rfl) (by kernel_rfl) (fun _ _ _ h => h) (Or.inl ⟨by rfl, fun w' hw' => ?_⟩) (HS.out _ (Below.refl _ _).drew) (fun inv => ?_)
  · obtain ⟨h0, h1, h2, h3, h4, h5, h6⟩ := hw'
    go_simp
  try simp only [Act.put, List.setIfInBounds_toArray, List.set_cons_zero, List.set_cons_succ]
  refine wpU_one (i := 14) (by kernel_rfl) rfl (fun K hK => ?_)
  replace inv := inv_setL (i := 14) inv (by kernel_rfl) (by decide)
  go_simp
  have hb1 : Below w.heap.size w (w.alloc (.cells #[.slice aa la ka, .slice (some ⟨bu, ou + i, none⟩) l2 c2] 22)).drew := ((Below.refl _ _).alloc (Nat.le_refl _) _).drew
  have HB1 := Lib.hid hb1
  obtain ⟨w1, HW1⟩ := nameIt (w.alloc (.cells #[.slice aa la ka, .slice (some ⟨bu, ou + i, none⟩) l2 c2] 22)).drew
  rw [HW1.out] at HB1 HCC ⊢
  clear hb1
  refine hK.out _ _ (fun _ => HS.out _ HB1.out) ?_
  clear hK K
  try simp only [Act.put, List.setIfInBounds_toArray, List.set_cons_zero, List.set_cons_succ]
  refine wpU_one (i := 15) (by kernel_rfl) rfl (fun K hK => ?_)
  replace inv := inv_setL (i := 15) inv (by kernel_rfl) (by decide)
  go_simp
  refine HCC.out.mono ?_
  rintro e w2 ⟨a2, c3, rfl, ho2, hb2⟩
  have HB2 := Lib.hid hb2
  have HSL2 := Lib.hid (sl_of_own ho2)
  rw [HX.out] at HSL2 ⊢
  obtain ⟨nx, HNX⟩ := nameIt x.length
  rw [HNX.out] at HSL2 ⊢
  clear ho2 hb2
  refine hK.out _ _ (fun _ => HS.out _ HB2.out) ?_
  clear hK K
  try simp only [Act.put, List.setIfInBounds_toArray, List.set_cons_zero, List.set_cons_succ]
  refine wpU_one (i := 16) (by kernel_rfl) rfl (fun K hK => ?_)
  replace inv := inv_setL (i := 16) inv (by kernel_rfl) (by decide)
  go_simp
  refine (HMB.out w2 nx a2 c3 HNX.out.symm HB2.out HSL2.out).mono ?_
  rintro e w3 ⟨c4, rfl, hk4, hc4, hg4⟩
  have HS3 := Lib.hid (HS2.out w2 w3 HB2.out (HKK.out.keep HB2.out) hg4)
  have HE := Lib.hid (HFIN.out c4 w3 hk4 hc4 (grown_trans (grown_below HB2.out _) hg4))
  clear hk4 hc4 hg4
  refine hK.out _ _ (fun _ => HS3.out) ?_
  clear hK K
  try simp only [Act.put, List.setIfInBounds_toArray, List.set_cons_zero, List.set_cons_succ]
  refine wpU_one (i := 18) (by kernel_rfl) rfl (fun K hK => ?_)
  go_simp
  refine hK.out _ _ (fun h => absurd (show true = false from h) (by decide)) ?_
  clear hK K
  try simp only [Act.put, List.setIfInBounds_toArray, List.set_cons_zero, List.set_cons_succ]
  refine wpU_one (i := 19) (by kernel_rfl) rfl (fun K hK => ?_)
  go_simp
  refine hK.out _ _ (fun h => absurd (show true = false from h) (by decide)) ?_
  clear hK K
  try simp only [Act.put, List.setIfInBounds_toArray, List.set_cons_zero, List.set_cons_succ]
  refine wpU_done (by kernel_rfl) ?_ _
  cases r <;> cases qv <;> (go_wp2_with fail; exact HE.out)
end Lr
end Go.Proofs.Ytclpmmbclgihbaa
namespace Go.Proofs.Ytclpmmbclgihbaa
open Go.RowKit
namespace Lr
open Df Km

/-- the states that a word passes -/
def stL (x : Dfa) (u : List Int) (i : Nat) : List Int := (List.range (i + 1)).map fun t => runS x 0 (u.take t)
theorem stL_len (x : Dfa) (u : List Int) (i : Nat) : (stL x u i).length = i + 1 := by simp [stL]
theorem stL_next (x : Dfa) (u : List Int) (i : Nat) : stL x u (i + 1) = stL x u i ++ [runS x 0 (u.take (i + 1))] := by
  unfold stL
  rw [List.range_succ (n := i + 1), List.map_append]; rfl
theorem stL_get {x : Dfa} {u : List Int} {i t : Nat} (h : t ≤ i) : (stL x u i)[t]? = some (runS x 0 (u.take t)) := by
  unfold stL
  rw [List.getElem?_map, List.getElem?_range (by omega)]; rfl
theorem runS_snoc (x : Dfa) (s : Int) (u : List Int) {i : Nat} (h : i < u.length) : runS x s (u.take (i + 1)) = toS x (runS x s (u.take i)) (u[i]).toNat := by
  unfold runS
  rw [List.take_succ_eq_append_getElem h, List.foldl_append]; rfl
theorem toS_edgeL {x : Dfa} {q c : Nat} (hq : q < x.next.length) (hc : c < (x.next[q]'hq).length) : toS x (q : Int) c = (x.next[q]'hq)[c] := by
  unfold toS
  rw [if_neg (by omega), Int.toNat_natCast, List.getElem?_eq_getElem hq, Option.getD_some, List.getElem?_eq_getElem hc, Option.getD_some]
/-- what is asked at place i -/
def gS (f : List Int → Bool) (x : Dfa) (A : List (List Int)) (u : List Int) (i : Nat) : Bool := f (A.getD (runS x 0 (u.take i)).toNat [] ++ u.drop i)
theorem tdiv_mid {lo hi : Nat} : ((lo : Int) + (hi : Int)).tdiv 2 = (((lo + hi) / 2 : Nat) : Int) := by
  rw [Int.tdiv_eq_ediv_of_nonneg (by omega)]; omega
set_option maxHeartbeats 4000000 in
set_option maxRecDepth 100000 in
theorem splitE (fn : Nat) (lb : Array Value) (f : List Int → Bool) (b mb c : Nat) (hc : c + 10000 ≤ 1000000000) (k : Nat) (hk : k ≤ 16) (sa : Option Addr) (L cs : Nat) (tv rv : Value) (x : Dfa) (hx : Right x) (hfl : Full x) (hwk : x.width = k) (hst0 : x.start = 0) (A : List (List Int)) (hLA : A.length = L) (hLn : x.next.length = L) (hAo : ∀ a ∈ A, ovK (k : Int) a ∧ a.length ≤ 5000) (u : List Int) (lu : Nat) (hlu : u.length = lu) (hlu5 : lu ≤ 5000) (hou : ovK (k : Int) u) (au aa an : Option Addr) (cu ca cn : Nat)
    (hg0 : gS f x A u 0 = f u) (hg1 : gS f x A u lu ≠ f u) (w : World) (eg : ∀ args w, (callFunc fn args).run Try.prog w = .ok (.enter fn args) w) (hf : ∀ W, w.grownBy W (some mb) → AskFn fn lb f (k : Int) W)
    (hb : w.heap[b]? = some (.cells #[.int .i64 (k : Int), .func (.func fn) #[] lb, .map (some mb), .slice sa L cs, tv, rv] 43 (0, 0))) (hK : KN f mb c w) (hbm : b ≠ mb) (hA : Rd (fun q => q ≠ mb) w (.sl (A.map D.ints)) [.slice sa L cs]) (hU : Sl w (.slice au lu cu) (ints u)) (hN : Rd (fun q => q ≠ mb) w (.sl (x.next.map D.ints)) [.slice an L cn]) :
    Calls Try.prog 21 #[.pointer (some ⟨b, 0, none⟩), .agg #[.int .i64 0, .slice aa L ca, .slice an L cn], .slice au lu cu] w fun e w' => ∃ (j n3 c3 c' : Nat) (a3 : Option Addr), j < lu ∧ gS f x A u j = f u ∧ gS f x A u (j + 1) ≠ f u ∧ e = .returned (.slice a3 n3 c3) ∧ Rd (fun q => w.heap.size ≤ q) w' (D.ints (u.drop (j + 1))) [.slice a3 n3 c3] ∧ KN f mb c' w' ∧ c' ≤ c + 10000 ∧ w.grownBy w' (some mb) := by
  obtain ⟨s0, HS0⟩ := nameIt w.heap.size
  have hml := hK.lt
  obtain ⟨w1, HW1⟩ := nameIt (((((w.alloc (.cells #[.pointer (some ⟨b, 0, none⟩)] 39)).alloc (.cells #[.int .i64 0, .slice aa L ca, .slice an L cn] 25)).alloc (.cells #[.slice au lu cu] 22)).alloc (.cells #[.int .i64 0] 3)).alloc (.cells #[.slice (some ⟨s0 + 1 + 1 + 1, 0, none⟩) 1 1] 22))
  have hst : w1.heap[s0]? = some (.cells #[.pointer (some ⟨b, 0, none⟩)] 39 (0, 0)) ∧ w1.heap[s0 + 1]? = some (.cells #[.int .i64 0, .slice aa L ca, .slice an L cn] 25 (0, 0)) ∧ w1.heap[s0 + 1 + 1]? = some (.cells #[.slice au lu cu] 22 (0, 0)) ∧ w1.heap[s0 + 1 + 1 + 1 + 1]? = some (.cells #[.slice (some ⟨s0 + 1 + 1 + 1, 0, none⟩) 1 1] 22 (0, 0)) ∧ w1.ownsRow (s0 + 1 + 1 + 1) 3 1 (.slice (some ⟨s0 + 1 + 1 + 1, 0, none⟩) 1 1) 1 [.int .i64 0] ∧ Below s0 w w1 := by
    rw [← HW1.out]
    have hs : w.heap.size = s0 := HS0.out
    obtain ⟨a1, H1⟩ := nameIt (w.alloc (.cells #[.pointer (some ⟨b, 0, none⟩)] 39))
    rw [H1.out]
    have z1 : a1.heap.size = s0 + 1 := by rw [← H1.out]; simp [hs]
    have b1 : Below s0 w a1 := by rw [← H1.out, ← hs]; exact (Below.refl _ _).alloc (Nat.le_refl _) _
    have r1 : a1.heap[s0]? = some (.cells #[.pointer (some ⟨b, 0, none⟩)] 39 (0, 0)) := by rw [← H1.out]; exact bx_new _ _ _ hs.symm
    obtain ⟨a2, H2⟩ := nameIt (a1.alloc (.cells #[.int .i64 0, .slice aa L ca, .slice an L cn] 25))
    rw [H2.out]
    have z2 : a2.heap.size = s0 + 1 + 1 := by rw [← H2.out]; simp [z1]
    have b2 : Below a1.heap.size a1 a2 := by rw [← H2.out]; exact (Below.refl _ _).alloc (Nat.le_refl _) _
    have r2 : a2.heap[s0 + 1]? = some (.cells #[.int .i64 0, .slice aa L ca, .slice an L cn] 25 (0, 0)) := by rw [← H2.out]; exact bx_new _ _ _ z1.symm
    obtain ⟨a3, H3⟩ := nameIt (a2.alloc (.cells #[.slice au lu cu] 22))
    rw [H3.out]
    have z3 : a3.heap.size = s0 + 1 + 1 + 1 := by rw [← H3.out]; simp [z2]
    have b3 : Below a2.heap.size a2 a3 := by rw [← H3.out]; exact (Below.refl _ _).alloc (Nat.le_refl _) _
    have r3 : a3.heap[s0 + 1 + 1]? = some (.cells #[.slice au lu cu] 22 (0, 0)) := by rw [← H3.out]; exact bx_new _ _ _ z2.symm
    obtain ⟨a4, H4⟩ := nameIt (a3.alloc (.cells #[.int .i64 0] 3))
    rw [H4.out]
    have z4 : a4.heap.size = s0 + 1 + 1 + 1 + 1 := by rw [← H4.out]; simp [z3]
    have b4 : Below a3.heap.size a3 a4 := by rw [← H4.out]; exact (Below.refl _ _).alloc (Nat.le_refl _) _
    have o4 : a4.ownsRow (s0 + 1 + 1 + 1) 3 1 (.slice (some ⟨s0 + 1 + 1 + 1, 0, none⟩) 1 1) 1 [.int .i64 0] := by
      have := World.ownsRow_lit (base := s0 + 1 + 1 + 1) (e := 3) (size := 1) a3 #[.int .i64 0] 1 (by omega) (by decide) (by rfl)
      rw [H4.out, z3] at this
      exact this
    obtain ⟨a5, H5⟩ := nameIt (a4.alloc (.cells #[.slice (some ⟨s0 + 1 + 1 + 1, 0, none⟩) 1 1] 22))
    rw [H5.out]
    have b5 : Below a4.heap.size a4 a5 := by rw [← H5.out]; exact (Below.refl _ _).alloc (Nat.le_refl _) _
    have r5 : a5.heap[s0 + 1 + 1 + 1 + 1]? = some (.cells #[.slice (some ⟨s0 + 1 + 1 + 1, 0, none⟩) 1 1] 22 (0, 0)) := by rw [← H5.out]; exact bx_new _ _ _ z4.symm
    have b35 : Below a3.heap.size a3 a5 := b4.trans (b5.mono b4.size)
    have b25 : Below a2.heap.size a2 a5 := b3.trans (b35.mono b3.size)
    have b15 : Below a1.heap.size a1 a5 := b2.trans (b25.mono b2.size)
    exact ⟨bx_keep r1 b15, bx_keep r2 b25, bx_keep r3 b35, r5, own_keep o4 b5, b1.trans (b15.mono (by omega))⟩
  obtain ⟨t0, t1, t2, t3, t4, hb1⟩ := hst
  have HT0 := Lib.hid t0
  have HT1 := Lib.hid t1
  have HT2 := Lib.hid t2
  have hB1 : Below w.heap.size w w1 := by rw [HS0.out]; exact hb1
  have HI1 : Hid (∀ W, Below (s0 + 1 + 1 + 1) w1 W → Below w.heap.size w W) := fun W h => hB1.trans (h.mono (by rw [HS0.out]; omega))
  obtain ⟨x0, x1, x2⟩ := bx_cells3 t1
  have u0 := bx_cells1 t2
  have HX := Lib.hid hx
  have HFL := Lib.hid hfl
  have HWK := Lib.hid hwk
  have HST0 := Lib.hid hst0
  have HLA := Lib.hid hLA
  have HLN := Lib.hid hLn
  have HAO := Lib.hid hAo
  have HLU := Lib.hid hlu
  have HOU := Lib.hid hou
  have HG0 := Lib.hid hg0
  have HG1 := Lib.hid hg1
  have HF := Lib.hid hf
  have HB := Lib.hid hb
  have HKN := Lib.hid hK
  have HAA := Lib.hid hA
  have HUU := Lib.hid hU
  have HNN := Lib.hid hN
  have HBM := Lib.hid hbm
  have HML := Lib.hid hml
  have hbl := lt_of_cell (bx_cells6 hb).1
  have HBL : Hid (b < s0) := by show _ < _; rw [← HS0.out]; exact hbl
  have HMS : Hid (mb < s0) := by show _ < _; rw [← HS0.out]; exact hml
  have HRS : Hid (∀ i, i ≤ lu → ∃ q : Nat, runS x 0 (u.take i) = (q : Int) ∧ q < L) := fun i hi => by
    have h0 := hx.start
    rw [hst0] at h0
    have := runS_full hx hfl (u.take i) (s := 0) h0.1 h0.2 (fun y hy => by rw [hwk]; exact hou y (List.mem_of_mem_take hy))
    rw [hLn] at this
    exact ⟨(runS x 0 (u.take i)).toNat, by omega, by omega⟩
  have HI0 : Hid (w1.ownsRow (s0 + 1 + 1 + 1) 3 1 (.slice (some ⟨s0 + 1 + 1 + 1, 0, none⟩) 1 1) (0 + 1) (ints (stL x u 0))) := t4
  have HSB0 := Lib.hid t3
  obtain ⟨PST, HP⟩ := nameIt (fun (e : Ending) (w' : World) => ∃ (j n3 c3 c' : Nat) (a3 : Option Addr), j < lu ∧ gS f x A u j = f u ∧ gS f x A u (j + 1) ≠ f u ∧ e = .returned (.slice a3 n3 c3) ∧ Rd (fun q => w.heap.size ≤ q) w' (D.ints (u.drop (j + 1))) [.slice a3 n3 c3] ∧ KN f mb c' w' ∧ c' ≤ c + 10000 ∧ w.grownBy w' (some mb))
  rw [HP.out]
  clear hx hfl hwk hst0 hLA hLn hAo hlu hou hg0 hg1 hf hb hK hA hU hN hb1 hB1 t0 t1 t2 t3 t4 hbm hml hbl
  go_enter Try.func21, Try.ntmps21
  go_upto_region 2 with fail
  rw [HS0.out, HW1.out]
  go_wp2_with fail
  go_loopg [9, 20] lu (fun gg v9 v20 wr => ∃ (i sg sc : Nat), i ≤ lu ∧ lu - i ≤ gg ∧ v20 = .int .i64 i ∧ Hid (wr.ownsRow (s0 + 1 + 1 + 1) 3 1 (.slice (some ⟨sg, 0, none⟩) (i + 1) sc) (i + 1) (ints (stL x u i))) ∧ Hid (wr.heap[s0 + 1 + 1 + 1 + 1]? = some (.cells #[.slice (some ⟨sg, 0, none⟩) (i + 1) sc] 22 (0, 0))) ∧ Hid (Below (s0 + 1 + 1 + 1) w1 wr) ∧ Hid (sg ≠ s0 + 1 + 1 + 1 + 1))
  case atStart => exact ⟨0, _, _, by omega, by omega, rfl, HI0, HSB0, Below.refl _ _, (by show _ ≠ _; omega)⟩
  case round =>
    clear HI0 HSB0 x0 x1 x2 u0
    obtain ⟨i, sg, sc, hi, hg, rfl, HI, HSB, HB1, HSG⟩ := hrel
    obtain ⟨wo, rfl⟩ : ∃ ww : World, ww = wr := ⟨_, rfl⟩
    have hbw := HI1.out wo HB1.out
    by_cases hlt : i < lu
    · have hlt' : (i : Int) < (lu : Int) := by omega
      have hi0 : (0 : Int) ≤ (i : Int) := by omega
      have hiu : i < u.length := by rw [HLU.out]; exact hlt
      obtain ⟨bu, ou, hae, hca⟩ := (HUU.out.keep hbw).at hlt
      have cu0 := hca i (by rw [ints_len]; exact hiu)
      rw [ints_get] at cu0
      have huy := HOU.out _ (List.getElem_mem hiu)
      have hsn := runS_snoc x 0 u hiu
      obtain ⟨q, hq, hqL⟩ := HRS.out i hi
      obtain ⟨y, HY⟩ := nameIt (u[i]'hiu)
      rw [HY.out] at cu0 huy hsn
      obtain ⟨cc, hcc⟩ : ∃ cc : Nat, y = (cc : Int) := ⟨y.toNat, by omega⟩
      subst hcc
      rw [Int.toNat_natCast, hq] at hsn
      have hqx : q < x.next.length := by rw [HLN.out]; exact hqL
      obtain ⟨bn, on, vr, hne, cr, hrow⟩ := Rd.rowI_at (HNN.out.below hbw) hqx
      have hrl := HX.out.rows _ (List.getElem_mem hqx)
      obtain ⟨ar, kr, rfl⟩ := hrow.form
      rw [ints_len, hrl, HWK.out] at cr hrow
      have hck : cc < k := by omega
      have hcr : cc < x.next[q].length := by rw [hrl, HWK.out]; exact hck
      obtain ⟨br, or, hre, hrc⟩ := hrow.at hck
      have ct := hrc cc (by rw [ints_len]; exact hcr)
      rw [ints_get] at ct
      have hte := toS_edgeL hqx hcr
      rw [hte] at hsn
      obtain ⟨t, HT⟩ := nameIt (x.next[q][cc]'hcr)
      rw [HT.out] at ct hsn
      have hstn := stL_next x u i
      rw [hsn] at hstn
      have hslast : wo.cell? ⟨sg, i, none⟩ = some (.int .i64 (q : Int)) := by
        obtain ⟨b1, o1, e1, e2⟩ := (sl_of_own HI.out).at (k := i) (by omega)
        cases e1
        have h1 := e2 i (by rw [ints_len, stL_len]; omega)
        obtain ⟨h2, h3⟩ := List.getElem?_eq_some_iff.1 (stL_get (x := x) (u := u) (i := i) (t := i) (Nat.le_refl _))
        rw [ints_get, h3, hq, Nat.zero_add] at h1
        exact h1
      have hsb := bx_cells1 HSB.out
      obtain ⟨d0, d1, d2⟩ := bx_cells3 (HB1.out.block (s0 + 1) (by omega) |>.trans HT1.out)
      have HSTN := Lib.hid hstn
      subst hae hne hre
      have hsub : IntKind.i64.wrap (((i + 1 : Nat) : Int) - 1) = (i : Int) := by rw [IntWalk.i64_in _ (by omega)]; omega
      have hii : (i : Int) < ((i + 1 : Nat) : Int) := by omega
      have hwi : IntKind.i64.wrap (i : Int) = (i : Int) := by rw [IntWalk.i64_in _ (by omega)]
      have hnle : ¬ ((i : Int) + 1 ≤ (i : Int)) := by omega
      have hqI : (q : Int) < (L : Int) := by omega
      have hq0 : (0 : Int) ≤ (q : Int) := by omega
      have hcI : (cc : Int) < (k : Int) := by omega
      have hc0 : (0 : Int) ≤ (cc : Int) := by omega
      have hsl4 := HI.out.lt
      have hsgl := hsl4 sg rfl
      have HSZ : Hid (s0 + 1 + 1 + 1 ≤ wo.heap.size) := by show _ ≤ _; omega
      have HSS : Hid (∀ W, Below wo.heap.size wo W → (fun w' => w'.cell? ⟨s0 + 1 + 1 + 1 + 1, 0, none⟩ = some (.slice (some ⟨sg, 0, none⟩) (i + 1) sc) ∧ w'.cell? ⟨s0 + 1, 0 + 2, none⟩ = some (.slice (some ⟨bn, on, none⟩) L cn) ∧ w'.cell? ⟨sg, i, none⟩ = some (.int .i64 (q : Int)) ∧ w'.cell? ⟨bn, on + q, none⟩ = some (.slice (some ⟨br, or, none⟩) k kr) ∧ w'.cell? ⟨br, or + cc, none⟩ = some (.int .i64 t)) W) := fun W hbW => ⟨(hbW.cell (lt_of_cell hsb)).trans hsb, (hbW.cell (lt_of_cell d2)).trans d2, (hbW.cell (lt_of_cell hslast)).trans hslast, (hbW.cell (lt_of_cell cr)).trans cr, (hbW.cell (lt_of_cell ct)).trans ct⟩
      clear hca huy hq hrow hrl hrc hte hsn hstn hbw
      go_upto_region 5 with fail
      refine wp_region_U (S := (fun w' => w'.cell? ⟨s0 + 1 + 1 + 1 + 1, 0, none⟩ = some (.slice (some ⟨sg, 0, none⟩) (i + 1) sc) ∧ w'.cell? ⟨s0 + 1, 0 + 2, none⟩ = some (.slice (some ⟨bn, on, none⟩) L cn) ∧ w'.cell? ⟨sg, i, none⟩ = some (.int .i64 (q : Int)) ∧ w'.cell? ⟨bn, on + q, none⟩ = some (.slice (some ⟨br, or, none⟩) k kr) ∧ w'.cell? ⟨br, or + cc, none⟩ = some (.int .i64 t))) 15 (by kernel_rfl) (fun inv => ?_)
      refine wpU_take (i := 0) (v := .slice (some ⟨sg, 0, none⟩) (i + 1) sc) rfl inv (by kernel_rfl) (by kernel_rfl) (by decide) (by decide) (by kernel_rfl) (by kernel_rfl) (by kernel_rfl) (fun _ _ _ h => h) (Or.inl ⟨by rfl, fun w' hw' => ?_⟩) (HSS.out _ (Below.refl _ _).drew) (fun inv => ?_)
      · obtain ⟨h0, h1, h2, h3, h4⟩ := hw'
        go_simp
      try simp only [Act.put, List.setIfInBounds_toArray, List.set_cons_zero, List.set_cons_succ]
      refine wpU_take (i := 1) (v := .pointer (some ⟨s0 + 1, 0 + 2, none⟩)) rfl inv (by kernel_rfl) (by kernel_rfl) (by decide) (by decide) (by kernel_rfl) (by kernel_rfl) (by kernel_rfl) (fun _ _ _ h => h) (Or.inl ⟨by rfl, fun w' hw' => ?_⟩) (HSS.out _ (Below.refl _ _).drew) (fun inv => ?_)
      · obtain ⟨h0, h1, h2, h3, h4⟩ := hw'
        go_simp
      try simp only [Act.put, List.setIfInBounds_toArray, List.set_cons_zero, List.set_cons_succ]
      refine wpU_take (i := 2) (v := .slice (some ⟨bn, on, none⟩) L cn) rfl inv (by kernel_rfl) (by kernel_rfl) (by decide) (by decide) (by kernel_rfl) (by kernel_rfl) (by kernel_rfl) (fun _ _ _ h => h) (Or.inl ⟨by rfl, fun w' hw' => ?_⟩) (HSS.out _ (Below.refl _ _).drew) (fun inv => ?_)
      · obtain ⟨h0, h1, h2, h3, h4⟩ := hw'
        go_simp
      try simp only [Act.put, List.setIfInBounds_toArray, List.set_cons_zero, List.set_cons_succ]
      refine wpU_take (i := 3) (v := .slice (some ⟨sg, 0, none⟩) (i + 1) sc) rfl inv (by kernel_rfl) (by kernel_rfl) (by decide) (by decide) (by kernel_rfl) (by kernel_rfl) (by kernel_rfl) (fun _ _ _ h => h) (Or.inl ⟨by rfl, fun w' hw' => ?_⟩) (HSS.out _ (Below.refl _ _).drew) (fun inv => ?_)
      · obtain ⟨h0, h1, h2, h3, h4⟩ := hw'
        go_simp
      try simp only [Act.put, List.setIfInBounds_toArray, List.set_cons_zero, List.set_cons_succ]
      refine wpU_take (i := 4) (v := .slice (some ⟨sg, 0, none⟩) (i + 1) sc) rfl inv (by kernel_rfl) (by kernel_rfl) (by decide) (by decide) (by kernel_rfl) (by kernel_rfl) (by kernel_rfl) (fun _ _ _ h => h) (Or.inl ⟨by rfl, fun w' hw' => ?_⟩) (HSS.out _ (Below.refl _ _).drew) (fun inv => ?_)
      · obtain ⟨h0, h1, h2, h3, h4⟩ := hw'
        go_simp
      try simp only [Act.put, List.setIfInBounds_toArray, List.set_cons_zero, List.set_cons_succ]
      refine wpU_take (i := 5) (v := .int .i64 ((i + 1 : Nat) : Int)) rfl inv (by kernel_rfl) (by kernel_rfl) (by decide) (by decide) (by kernel_rfl) (by kernel_rfl) (by kernel_rfl) (fun _ _ _ h => h) (Or.inl ⟨by rfl, fun w' hw' => ?_⟩) (HSS.out _ (Below.refl _ _).drew) (fun inv => ?_)
      · obtain ⟨h0, h1, h2, h3, h4⟩ := hw'
        go_simp
      try simp only [Act.put, List.setIfInBounds_toArray, List.set_cons_zero, List.set_cons_succ]
      refine wpU_take (i := 6) (v := .int .i64 (i : Int)) rfl inv (by kernel_rfl) (by kernel_rfl) (by decide) (by decide) (by kernel_rfl) (by kernel_rfl) (by kernel_rfl) (fun _ _ _ h => h) (Or.inl ⟨by rfl, fun w' hw' => ?_⟩) (HSS.out _ (Below.refl _ _).drew) (fun inv => ?_)
      · obtain ⟨h0, h1, h2, h3, h4⟩ := hw'
        go_simp
      try simp only [Act.put, List.setIfInBounds_toArray, List.set_cons_zero, List.set_cons_succ]
      refine wpU_take (i := 7) (v := .pointer (some ⟨sg, i, none⟩)) rfl inv (by kernel_rfl) (by kernel_rfl) (by decide) (by decide) (by kernel_rfl) (by kernel_rfl) (by kernel_rfl) (fun _ _ _ h => h) (Or.inl ⟨by rfl, fun w' hw' => ?_⟩) (HSS.out _ (Below.refl _ _).drew) (fun inv => ?_)
      · obtain ⟨h0, h1, h2, h3, h4⟩ := hw'
        go_simp
      try simp only [Act.put, List.setIfInBounds_toArray, List.set_cons_zero, List.set_cons_succ]
      refine wpU_take (i := 8) (v := .int .i64 (q : Int)) rfl inv (by kernel_rfl) (by kernel_rfl) (by decide) (by decide) (by kernel_rfl) (by kernel_rfl) (by kernel_rfl) (fun _ _ _ h => h) (Or.inl ⟨by rfl, fun w' hw' => ?_⟩) (HSS.out _ (Below.refl _ _).drew) (fun inv => ?_)
      · obtain ⟨h0, h1, h2, h3, h4⟩ := hw'
        go_simp
      try simp only [Act.put, List.setIfInBounds_toArray, List.set_cons_zero, List.set_cons_succ]
      refine wpU_take (i := 9) (v := .pointer (some ⟨bn, on + q, none⟩)) rfl inv (by kernel_rfl) (by kernel_rfl) (by decide) (by decide) (by kernel_rfl) (by kernel_rfl) (by kernel_rfl) (fun _ _ _ h => h) (Or.inl ⟨by rfl, fun w' hw' => ?_⟩) (HSS.out _ (Below.refl _ _).drew) (fun inv => ?_)
      · obtain ⟨h0, h1, h2, h3, h4⟩ := hw'
        go_simp
      try simp only [Act.put, List.setIfInBounds_toArray, List.set_cons_zero, List.set_cons_succ]
      refine wpU_take (i := 10) (v := .slice (some ⟨br, or, none⟩) k kr) rfl inv (by kernel_rfl) (by kernel_rfl) (by decide) (by decide) (by kernel_rfl) (by kernel_rfl) (by kernel_rfl) (fun _ _ _ h => h) (Or.inl ⟨by rfl, fun w' hw' => ?_⟩) (HSS.out _ (Below.refl _ _).drew) (fun inv => ?_)
      · obtain ⟨h0, h1, h2, h3, h4⟩ := hw'
        go_simp
      try simp only [Act.put, List.setIfInBounds_toArray, List.set_cons_zero, List.set_cons_succ]
      refine wpU_take (i := 11) (v := .int .i64 (cc : Int)) rfl inv (by kernel_rfl) (by kernel_rfl) (by decide) (by decide) (by kernel_rfl) (by kernel_rfl) (by kernel_rfl) (fun _ _ _ h => h) (Or.inl ⟨by rfl, fun w' hw' => ?_⟩) (HSS.out _ (Below.refl _ _).drew) (fun inv => ?_)
      · obtain ⟨h0, h1, h2, h3, h4⟩ := hw'
        go_simp
      try simp only [Act.put, List.setIfInBounds_toArray, List.set_cons_zero, List.set_cons_succ]
      refine wpU_take (i := 12) (v := .pointer (some ⟨br, or + cc, none⟩)) rfl inv (by kernel_rfl) (by kernel_rfl) (by decide) (by decide) (by kernel_rfl) (by kernel_rfl) (by kernel_rfl) (fun _ _ _ h => h) (Or.inl ⟨by rfl, fun w' hw' => ?_⟩) (HSS.out _ (Below.refl _ _).drew) (fun inv => ?_)
      · obtain ⟨h0, h1, h2, h3, h4⟩ := hw'
        go_simp
      try simp only [Act.put, List.setIfInBounds_toArray, List.set_cons_zero, List.set_cons_succ]
      refine wpU_take (i := 13) (v := .int .i64 t) rfl inv (by kernel_rfl) (by kernel_rfl) (by decide) (by decide) (by kernel_rfl) (by kernel_rfl) (by kernel_rfl) (fun _ _ _ h => h) (Or.inl ⟨by rfl, fun w' hw' => ?_⟩) (HSS.out _ (Below.refl _ _).drew) (fun inv => ?_)
      · obtain ⟨h0, h1, h2, h3, h4⟩ := hw'
        go_simp
      try simp only [Act.put, List.setIfInBounds_toArray, List.set_cons_zero, List.set_cons_succ]
      refine wpU_one (i := 14) (by kernel_rfl) rfl (fun K hK => ?_)
      replace inv := inv_setL (i := 14) inv (by kernel_rfl) (by decide)
      go_simp
      have hb2 : Below wo.heap.size wo (wo.alloc (.cells #[.int .i64 t] 3)).drew := ((Below.refl _ _).alloc (Nat.le_refl _) _).drew
      have hlit : (wo.alloc (.cells #[.int .i64 t] 3)).drew.heap[wo.heap.size]? = some (.cells #[.int .i64 t] 3 (0, 0)) := bx_new _ _ _ rfl
      have HB2 := Lib.hid hb2
      have HLIT := Lib.hid hlit
      have HO2 := Lib.hid (own_keep HI.out hb2)
      have HSB2 := Lib.hid (bx_keep HSB.out hb2)
      obtain ⟨w2, HW2⟩ := nameIt (wo.alloc (.cells #[.int .i64 t] 3)).drew
      rw [HW2.out] at HB2 HLIT HO2 HSB2 ⊢
      have HZ2 : Hid (s0 + 1 + 1 + 1 ≤ w2.heap.size) := Nat.le_trans HSZ.out HB2.out.size
      clear hb2 hlit
      refine hK.out _ _ (fun _ => HSS.out _ HB2.out) ?_
      clear hK K
      try simp only [Act.put, List.setIfInBounds_toArray, List.set_cons_zero, List.set_cons_succ]
      refine wpU_one (i := 15) (by kernel_rfl) rfl (fun K hK => ?_)
      refine step_appB elInt (by rfl) _ _ (by rfl) HO2.out (by rfl) (by rfl) HLIT.out (by rfl) (by rfl) (by omega) (by unfold maxLen; omega) HZ2.out ?_
      intro g3 c3 w3 ho3 hg3 hat3 hlt3
      have HO3 : Hid (w3.ownsRow (s0 + 1 + 1 + 1) 3 1 (.slice (some ⟨g3, 0, none⟩) (i + 1 + 1) c3) (i + 1 + 1) (ints (stL x u (i + 1)))) := by
        rw [HSTN.out, ints_append]; exact ho3
      have hsb3 : w3.heap[s0 + 1 + 1 + 1 + 1]? = _ := (hg3.block _ (lt_of_cell (bx_cells1 HSB2.out)) (fun e => HSG.out (Option.some.inj e).symm)).trans HSB2.out
      have HSB3 := Lib.hid hsb3
      have HBB3 : Hid (Below (s0 + 1 + 1 + 1) w1 w3) := (HB1.out.trans (HB2.out.mono HSZ.out)).grown hg3 (Nat.le_trans (by have h1 := HB1.out.size; have h2 := HB2.out.size; have h3 : s0 + 1 + 1 + 1 ≤ w2.heap.size := HZ2.out; omega) (Nat.le_refl _)) (fun q e => by have h1 := (HO2.out.lt q e).1; exact h1)
      have HSG3 : Hid (g3 ≠ s0 + 1 + 1 + 1 + 1) := by
        rcases hat3 with e | e
        · have e2 : sg = g3 := Option.some.inj e
          rw [← e2]; exact HSG.out
        · have h1 := lt_of_cell (bx_cells1 HSB2.out)
          have h2 : s0 + 1 + 1 + 1 + 1 < w2.heap.size := h1
          show g3 ≠ _; omega
      have y0 := bx_cells1 hsb3
      have f0 := bx_free1 hsb3
      clear ho3 hg3 hat3 hsb3
      refine hK.out _ _ (fun h => absurd (show true = false from h) (by decide)) ?_
      clear hK K
      try simp only [Act.put, List.setIfInBounds_toArray, List.set_cons_zero, List.set_cons_succ]
      refine wpU_one (i := 16) (by kernel_rfl) rfl (fun K hK => ?_)
      go_simp
      refine hK.out _ _ (fun h => absurd (show true = false from h) (by decide)) ?_
      clear hK K
      try simp only [Act.put, List.setIfInBounds_toArray, List.set_cons_zero, List.set_cons_succ]
      refine wpU_done (by kernel_rfl) ?_ _
      have HSBN : Hid ((w3.setCell ⟨s0 + 1 + 1 + 1 + 1, 0, none⟩ (.slice (some ⟨g3, 0, none⟩) (i + 1 + 1) c3)).heap[s0 + 1 + 1 + 1 + 1]? = some (.cells #[.slice (some ⟨g3, 0, none⟩) (i + 1 + 1) c3] 22 (0, 0))) := by
        show _ = _
        have := bx_set HSB3.out 0 (.slice (some ⟨g3, 0, none⟩) (i + 1 + 1) c3)
        simpa using this
      have HON : Hid ((w3.setCell ⟨s0 + 1 + 1 + 1 + 1, 0, none⟩ (.slice (some ⟨g3, 0, none⟩) (i + 1 + 1) c3)).ownsRow (s0 + 1 + 1 + 1) 3 1 (.slice (some ⟨g3, 0, none⟩) (i + 1 + 1) c3) (i + 1 + 1) (ints (stL x u (i + 1)))) :=
        own_blk HO3.out fun g e => (grown_cell w3 ⟨s0 + 1 + 1 + 1 + 1, 0, none⟩ _).block g (HO3.out.lt g e).2 (fun e2 => HSG3.out ((Option.some.inj e).trans (Option.some.inj e2)))
      have HBN : Hid (Below (s0 + 1 + 1 + 1) w1 (w3.setCell ⟨s0 + 1 + 1 + 1 + 1, 0, none⟩ (.slice (some ⟨g3, 0, none⟩) (i + 1 + 1) c3))) := HBB3.out.setCell (p := ⟨s0 + 1 + 1 + 1 + 1, 0, none⟩) (by show _ ≤ s0 + 1 + 1 + 1 + 1; omega) _
      go_wp2_with fail
      go_roundg (lu - (i + 1))
      case measure => omega
      case rel => exact ⟨i + 1, g3, c3, by omega, by omega, by go_num, HON, HSBN, HBN, HSG3⟩
    · obtain rfl : lu = i := by omega
      have hlt' : ¬ (lu : Int) < (lu : Int) := by omega
      obtain ⟨y0, y1, y2⟩ := bx_cells3 (HB1.out.block (s0 + 1) (by omega) |>.trans HT1.out)
      have hp1 := (HB1.out.block s0 (by omega)).trans HT0.out
      have hu1 := (HB1.out.block (s0 + 1 + 1) (by omega)).trans HT2.out
      have p0 := bx_cells1 hp1
      have u0 := bx_cells1 hu1
      have HMB := Lib.hid (memberE fn lb f b mb c (by omega) (k : Int) (.slice sa L cs) tv rv u lu HLU.out (k : Int) (by omega) HOU.out (by omega) au cu wo eg (HF.out wo (grown_below hbw _)) (bx_keep HB.out hbw) (HKN.out.keep hbw) (HUU.out.keep hbw))
      have HP1 := Lib.hid hp1
      have HU1 := Lib.hid hu1
      have HBW := Lib.hid hbw
      clear hp1 hu1 hbw y0 y1 y2
      go_wp2_with fail
      with_reducible refine HMB.out.mono ?_
      rintro e w2 ⟨c2, rfl, hk2, hc2, hg2⟩
      have hkw := HKN.out.keep HBW.out
      obtain ⟨fu, HFU⟩ := nameIt (f u)
      rw [HFU.out]
      obtain ⟨qb, HQB⟩ := nameIt w2.heap.size
      have hmq : mb < qb := by have := hk2.lt; have h2 : w2.heap.size = qb := HQB.out; omega
      have hb23 : Below w2.heap.size w2 (w2.alloc (.cells #[.bool fu] 4)) := (Below.refl _ _).alloc (Nat.le_refl _) _
      have hq3 : (w2.alloc (.cells #[.bool fu] 4)).heap[qb]? = some (.cells #[.bool fu] 4 (0, 0)) := bx_new _ _ _ HQB.out.symm
      obtain ⟨w3, HW3⟩ := nameIt (w2.alloc (.cells #[.bool fu] 4))
      rw [HW3.out] at hb23 hq3
      have hg3 : wo.grownBy w3 (some mb) := grown_trans hg2 (grown_below hb23 _)
      have hwg : w.grownBy w3 (some mb) := grown_trans (grown_below HBW.out _) hg3
      have HK3 := Lib.hid (hk2.keep hb23)
      have HWG := Lib.hid hwg
      have HQ3 := Lib.hid hq3
      have hne : ∀ q : Nat, s0 ≤ q → some q ≠ some mb := fun q hq e => by have e2 := Option.some.inj e; have h1 : mb < s0 := HMS.out; omega
      have HP3 : Hid (w3.heap[s0]? = some (.cells #[.pointer (some ⟨b, 0, none⟩)] 39 (0, 0))) := (hg3.block s0 (Array.getElem?_eq_some_iff.1 HP1.out).1 (hne _ (by omega))).trans HP1.out
      have HU3 : Hid (w3.heap[s0 + 1 + 1]? = some (.cells #[.slice au lu cu] 22 (0, 0))) := (hg3.block _ (Array.getElem?_eq_some_iff.1 HU1.out).1 (hne _ (by omega))).trans HU1.out
      have HS3 : Hid (w3.heap[s0 + 1 + 1 + 1 + 1]? = some (.cells #[.slice (some ⟨sg, 0, none⟩) (lu + 1) sc] 22 (0, 0))) := (hg3.block _ (Array.getElem?_eq_some_iff.1 HSB.out).1 (hne _ (by omega))).trans HSB.out
      have HST3 := Lib.hid (sl_map (sl_of_own HI.out) hkw hg3)
      have HUU3 := Lib.hid (sl_map (HUU.out.keep HBW.out) hkw hg3)
      have hbm := HBM.out
      have HB3 : Hid (w3.heap[b]? = some (.cells #[.int .i64 (k : Int), .func (.func fn) #[] lb, .map (some mb), .slice sa L cs, tv, rv] 43 (0, 0))) := (hwg.block b (Array.getElem?_eq_some_iff.1 HB.out).1 (fun e => hbm (Option.some.inj e))).trans HB.out
      have HA3 : Hid (Rd (fun q => q ≠ mb) w3 (.sl (A.map D.ints)) [.slice sa L cs]) := Rd.keep (fun q hq hlt => ⟨hq, hwg.block q hlt (fun e => hq (Option.some.inj e))⟩) _ _ HAA.out
      have HSAME : Hid (∀ (W : World) (cc i : Nat), w3.grownBy W (some mb) → KN f mb cc W → cc ≤ c + 9000 → i < lu → Calls Try.prog 33 #[.int .i64 (i : Int), .pointer (some ⟨s0, 0, none⟩), .pointer (some ⟨s0 + 1 + 1 + 1 + 1, 0, none⟩), .pointer (some ⟨s0 + 1 + 1, 0, none⟩), .pointer (some ⟨qb, 0, none⟩)] W fun e w' => ∃ c', e = .returned (.bool (gS f x A u i == fu)) ∧ KN f mb c' w' ∧ c' ≤ cc + 1 ∧ W.grownBy w' (some mb)) := by
        intro W cc i hW hkW hcc hil
        obtain ⟨q, hq, hqL⟩ := HRS.out i (by omega)
        have hqA : q < A.length := by rw [HLA.out]; exact hqL
        have haq : A[q]? = some A[q] := List.getElem?_eq_getElem hqA
        obtain ⟨ho1, ho2⟩ := HAO.out _ (List.getElem_mem hqA)
        have hgs : gS f x A u i = f (A[q] ++ u.drop i) := by unfold gS; rw [hq, Int.toNat_natCast, List.getD_eq_getElem?_getD, haq]; rfl
        have bk : ∀ {g : Nat} {o : Obj}, w3.heap[g]? = some o → g ≠ mb → W.heap[g]? = some o := fun h hn => (hW.block _ (Array.getElem?_eq_some_iff.1 h).1 (fun e => hn (Option.some.inj e))).trans h
        have h1 : mb < s0 := HMS.out
        rw [hgs]
        exact sameE fn lb f b mb cc (by omega) (k : Int) (by omega) (k : Int) sa L cs tv rv s0 (s0 + 1 + 1 + 1 + 1) (s0 + 1 + 1) qb fu A (stL x u lu) u A[q] lu HLU.out (lu + 1) (stL_len x u lu) _ au sc cu i q hil (by rw [stL_get (by omega), hq]) haq HLA.out ho1 HOU.out ho2 hlu5 W eg (fun W' hW' => HF.out W' (grown_trans (grown_trans HWG.out hW) (grown_below hW' _))) (bk HB3.out hbm) hkW (Rd.keep (fun q hq hlt => ⟨trivial, hW.block q hlt (fun e => hq (Option.some.inj e))⟩) _ _ HA3.out) (sl_map HST3.out HK3.out hW) (sl_map HUU3.out HK3.out hW) (bk HP3.out (by omega)) (bk HS3.out (by omega)) (bk HU3.out (by omega)) (bk HQ3.out (by omega)) (by omega)
      obtain ⟨bu, ou, hae, -⟩ := HUU.out.at (k := 0) (by
        rcases Nat.eq_zero_or_pos lu with e | e
        · have h1 := HG0.out
          have h2 := HG1.out
          rw [e] at h2
          exact absurd h1 h2
        · exact e)
      subst hae
      have hlu1 : 0 < lu := by
        rcases Nat.eq_zero_or_pos lu with e | e
        · have h1 := HG0.out
          have h2 := HG1.out
          rw [e] at h2
          exact absurd h1 h2
        · exact e
      have u3 := bx_cells1 HU3.out
      clear hk2 hg2 hkw hb23 hq3 hg3 hwg hne p0 u0
      go_upto_region 9 with fail
      rw [HW3.out, HQB.out]
      go_quiet (fail)
      have HK4 := Lib.hid (HK3.out.keep (below_drewN w3 nq))
      have HG4 : Hid (w3.grownBy (w3.drewN nq) (some mb)) := grown_below (below_drewN w3 nq) _
      go_wp2_with fail
      go_loopg [12, 13, 14] lu (fun gg v12 v13 v14 wr => ∃ (lo hi cc : Nat), lo < hi ∧ hi ≤ lu ∧ hi - lo ≤ gg ∧ v12 = .int .i64 lo ∧ v13 = .int .i64 hi ∧ cc ≤ c + 1 + (lu - (hi - lo)) ∧ Hid (gS f x A u lo = fu) ∧ Hid (gS f x A u hi ≠ fu) ∧ Hid (KN f mb cc wr) ∧ Hid (w3.grownBy wr (some mb)))
      case atStart => exact ⟨0, lu, c2, hlu1, Nat.le_refl _, by omega, rfl, rfl, by omega, (by rw [← HFU.out]; exact HG0), (by rw [← HFU.out]; exact HG1), HK4, HG4⟩
      case round =>
        clear HK4 HG4 u3
        obtain ⟨lo, hi, cc, hlh, hhl, hgg, rfl, rfl, hcc, HGL, HGH, HKC, HGC⟩ := hrel
        obtain ⟨w5, rfl⟩ : ∃ ww : World, ww = wr := ⟨_, rfl⟩
        have hwd : IntKind.i64.wrap ((hi : Int) - (lo : Int)) = (hi : Int) - (lo : Int) := by rw [IntWalk.i64_in _ (by omega)]
        by_cases hd : 1 < hi - lo
        · have hd' : (1 : Int) < (hi : Int) - (lo : Int) := by omega
          have hws : IntKind.i64.wrap ((lo : Int) + (hi : Int)) = (lo : Int) + (hi : Int) := by rw [IntWalk.i64_in _ (by omega)]
          have htd := tdiv_mid (lo := lo) (hi := hi)
          obtain ⟨mid, HMID⟩ := nameIt ((lo + hi) / 2)
          have hmid : lo < mid ∧ mid < hi := by rw [← HMID.out]; omega
          rw [HMID.out] at htd
          have hwm : IntKind.i64.wrap (mid : Int) = (mid : Int) := by rw [IntWalk.i64_in _ (by omega)]
          have HSM := Lib.hid (HSAME.out w5 cc mid HGC.out HKC.out (by omega) (by omega))
          go_wp2_with fail
          with_reducible refine HSM.out.mono ?_
          rintro e w6 ⟨c6, rfl, hk6, hc6, hg6⟩
          have HK6 := Lib.hid hk6
          have HG6 := Lib.hid (grown_trans HGC.out hg6)
          clear hk6 hg6
          by_cases hgm : gS f x A u mid = fu
          · have hbq : (gS f x A u mid == fu) = true := by simpa using hgm
            rw [hbq]
            have HGM := Lib.hid hgm
            clear hgm hbq
            go_wp2_with fail
            go_roundg (hi - mid)
            case measure => omega
            case rel => exact ⟨mid, hi, c6, by omega, by omega, by omega, rfl, rfl, by omega, HGM, HGH, HK6, HG6⟩
          · have hbq : (gS f x A u mid == fu) = false := by simpa using hgm
            rw [hbq]
            have HGM : Hid (gS f x A u mid ≠ fu) := hgm
            clear hgm hbq
            go_wp2_with fail
            go_roundg (mid - lo)
            case measure => omega
            case rel => exact ⟨lo, mid, c6, by omega, by omega, by omega, rfl, rfl, by omega, HGL, HGM, HK6, HG6⟩
        · have hd' : ¬ (1 : Int) < (hi : Int) - (lo : Int) := by omega
          have HHE : Hid (hi = lo + 1) := by show _ = _; omega
          have hhi0 : 0 < hi := by omega
          obtain ⟨a5, HA5⟩ := nameIt (if cu = hi then (some ⟨bu, ou, none⟩ : Option Addr) else some ⟨bu, ou + hi, none⟩)
          obtain ⟨n5, HN5⟩ := nameIt (lu - hi)
          obtain ⟨c5, HC5⟩ := nameIt (cu - hi)
          have hsu := sl_map HUU3.out HK3.out HGC.out
          have hul := hsu.len
          have hpt := hsu.part (i := hi) (j := lu) hhl (Nat.le_refl _)
          have hdr : ((ints u).drop hi).take (lu - hi) = ints (u.drop hi) := by
            rw [List.take_of_length_le (by rw [List.length_drop, ints_len, HLU.out]; exact Nat.le_refl _)]
            simp [ints]
          rw [hdr] at hpt
          simp only [Option.map_some, add_at] at hpt
          rw [HA5.out, HN5.out, HC5.out] at hpt
          have hslt : ∀ W, (Instr.slice 22 (.slice (some ⟨bu, ou, none⟩) lu cu) (some (.int .i64 (hi : Int))) none none).run Try.prog W = .ok (.slice a5 n5 c5) W := fun W => by
            have hs := run_slice_l (P := Try.prog) W 22 (some ⟨bu, ou, none⟩) lu cu (by kernel_rfl) .i64 (hi : Int) (by omega) (by omega)
            rw [hs, ← HA5.out, ← HN5.out, ← HC5.out]
            by_cases hct : cu = hi
            · subst hct; simp [go_sem]
            · simp [go_sem, hct]
          have HCL := Lib.hid (clone_int _ (u.drop hi) w5 hpt (by rw [List.length_drop, HLU.out]; omega))
          have hu5 : w5.heap[s0 + 1 + 1]? = _ := (HGC.out.block _ (Array.getElem?_eq_some_iff.1 HU3.out).1 (fun e => by have e2 := Option.some.inj e; have h1 : mb < s0 := HMS.out; omega)).trans HU3.out
          have u5 := bx_cells1 hu5
          have HWS : Hid (w.heap.size ≤ w5.heap.size) := Nat.le_trans HWG.out.size HGC.out.size
          clear hsu hul hpt hdr hu5
          go_wp2_with fail
          with_reducible refine HCL.out.mono ?_
          rintro e w6 ⟨a6, c6, rfl, ho6, hb6⟩
          have HO6 := Lib.hid ho6
          have HB6 := Lib.hid hb6
          obtain ⟨n6, HN6⟩ := nameIt (u.drop hi).length
          rw [HN6.out] at HO6 ⊢
          clear ho6 hb6
          go_wp2_with fail
          rw [← HP.out]
          have hhe := HHE.out
          subst hhe
          refine ⟨lo, n6, c6, cc, a6, by omega, (by rw [HGL.out, HFU.out]), (by rw [HFU.out]; exact HGH.out), rfl, ?_, HKC.out.keep HB6.out, by omega, grown_trans (grown_trans HWG.out HGC.out) (grown_below HB6.out _)⟩
          exact rd_of_own (ds := (u.drop (lo + 1)).map D.int) HO6.out ((rdAll_ints _ _).2 rfl) (by rw [List.length_map]; exact HN6.out) (fun q e => Nat.le_trans HWS.out (HO6.out.lt q e).1)
end Lr
end Go.Proofs.Ytclpmmbclgihbaa
namespace Go.Proofs.Ytclpmmbclgihbaa
open Go.RowKit
namespace Lr
open Df Cl

def castW (u : List Nat) : List Int := u.map fun (n : Nat) => (n : Int)
theorem castW_len (u : List Nat) : (castW u).length = u.length := by simp [castW]
theorem runS_cast (x : Dfa) : ∀ (u : List Nat) (s : Int), runS x s (castW u) = rn x s u
  | [], _ => rfl
  | c :: u, s => by
    show runS x (toS x s ((c : Int)).toNat) (castW u) = _
    rw [Int.toNat_natCast, rn_cons]
    exact runS_cast x u _
theorem castW_ov {k : Nat} {u : List Nat} (h : Bf.over k u) : ovK (k : Int) (castW u) := by
  intro y hy
  unfold castW at hy
  rw [List.mem_map] at hy
  obtain ⟨c, hc, rfl⟩ := hy
  have := h c hc
  omega
theorem fD_cast (D : Dfa) (u : List Nat) : fD D (castW u) = lg D D.start u := by unfold fD lg; rw [runS_cast]
/-- what a round knows -/
structure RF (D : Dfa) (T : List (List Int)) (k : Nat) (A0 A : List (List Int)) (LR : List (List Int)) (LA : List Int) (x : Dfa) : Prop where
  a : discA (fD D) T k A0 200 = A
  r : rowsA (fD D) T k A0 200 = LR
  c : accsA (fD D) T k A0 200 = LA
  nx : x.next = LR
  ac : x.acc = LA
  st : x.start = 0
  right : Right x
  full : Full x
  flat : Flat x
  width : x.width = k
  lr : LR.length = A.length
  la : LA.length = A.length
  le : A.length ≤ D.next.length + 1
  ok : OkA (fD D) T k A
  one : A[0]? = some []
  ge : A0.length ≤ A.length
  bad : ∀ u : List Nat, Bf.over k u → u.length ≤ 2000 → lg D D.start u ≠ lg x x.start u → wrongV (fD D) (k : Int) x (castW u) = 0 ∧ gS (fD D) x A (castW u) 0 = fD D (castW u) ∧ gS (fD D) x A (castW u) u.length ≠ fD D (castW u) ∧
    ∀ j, j < u.length → gS (fD D) x A (castW u) j = fD D (castW u) → gS (fD D) x A (castW u) (j + 1) ≠ fD D (castW u) → A.length < (discA (fD D) (T ++ [(castW u).drop (j + 1)]) k A 200).length
theorem closed_flat {f : List Int → Bool} {T : List (List Int)} {k : Nat} {A0 : List (List Int)} {N : Nat} : Flat (closedD f T k A0 N) := by
  intro v hv
  have hv2 : v ∈ accsA f T k A0 N := hv
  unfold accsA at hv2
  rw [List.mem_map] at hv2
  obtain ⟨u, _, rfl⟩ := hv2
  split <;> omega
theorem rf_gen {D : Dfa} (hD : Right D) {T : List (List Int)} {k : Nat} (hk : 1 ≤ k ∧ k ≤ 16) {A0 : List (List Int)} (hA : OkA (fD D) T k A0) (h0 : A0[0]? = some []) (N : Nat) (hN : N ≤ 200) (hDN : D.next.length + 1 ≤ N) :
    Right (closedD (fD D) T k A0 N) ∧ Full (closedD (fD D) T k A0 N) ∧ (closedD (fD D) T k A0 N).width = k ∧ (rowsA (fD D) T k A0 N).length = (discA (fD D) T k A0 N).length ∧ (accsA (fD D) T k A0 N).length = (discA (fD D) T k A0 N).length ∧ OkA (fD D) T k (discA (fD D) T k A0 N) ∧ (discA (fD D) T k A0 N).length ≤ D.next.length + 1 ∧ (discA (fD D) T k A0 N)[0]? = some [] ∧ A0.length ≤ (discA (fD D) T k A0 N).length ∧
    ∀ u : List Nat, Bf.over k u → u.length ≤ 2000 → lg D D.start u ≠ lg (closedD (fD D) T k A0 N) 0 u → wrongV (fD D) (k : Int) (closedD (fD D) T k A0 N) (castW u) = 0 ∧ gS (fD D) (closedD (fD D) T k A0 N) (discA (fD D) T k A0 N) (castW u) 0 = fD D (castW u) ∧ gS (fD D) (closedD (fD D) T k A0 N) (discA (fD D) T k A0 N) (castW u) u.length ≠ fD D (castW u) ∧
      ∀ j, j < u.length → gS (fD D) (closedD (fD D) T k A0 N) (discA (fD D) T k A0 N) (castW u) j = fD D (castW u) → gS (fD D) (closedD (fD D) T k A0 N) (discA (fD D) T k A0 N) (castW u) (j + 1) ≠ fD D (castW u) → (discA (fD D) T k A0 N).length < (discA (fD D) (T ++ [(castW u).drop (j + 1)]) k (discA (fD D) T k A0 N) N).length := by
  have hok := discA_ok hA N
  have hle := bdD hD hok
  have h200 : (discA (fD D) T k A0 N).length ≤ N := by omega
  have hpos : 0 < A0.length := (List.getElem?_eq_some_iff.1 h0).1
  obtain ⟨c1, c2, c3, c4, c5⟩ := closed_right hA hpos (fun A h => by have := bdD hD h; omega) hN hk
  have hpre := discA_to (f := fD D) (T := T) (k := k) (A0 := A0) (i := 0) (j := N) (by omega)
  have hone : (discA (fD D) T k A0 N)[0]? = some [] := getP hpre h0
  refine ⟨c1, c2, c3, c4, c5, hok, hle, hone, hpre.length_le, fun u hu hul hb => ?_⟩
  have hov := castW_ov hu
  have hz : gS (fD D) (closedD (fD D) T k A0 N) (discA (fD D) T k A0 N) (castW u) 0 = fD D (castW u) := sm_zero hone (castW u)
  have hlen := sm_len h200 hone (castW u) hov
  have hat : decide (0 ≤ atS (closedD (fD D) T k A0 N) (runS (closedD (fD D) T k A0 N) 0 (castW u))) = lg (closedD (fD D) T k A0 N) 0 u := by
    rw [runS_cast]
    unfold lg
    rw [goodS_at]
  have hne : gS (fD D) (closedD (fD D) T k A0 N) (discA (fD D) T k A0 N) (castW u) u.length ≠ fD D (castW u) := by
    have h1 : gS (fD D) (closedD (fD D) T k A0 N) (discA (fD D) T k A0 N) (castW u) (castW u).length = sm (fD D) T k A0 N (castW u) (castW u).length := rfl
    rw [castW_len] at h1
    rw [castW_len] at hlen
    rw [h1, hlen, hat, fD_cast]
    exact fun e => hb e.symm
  refine ⟨?_, hz, hne, fun j hj h1 h2 => ?_⟩
  · unfold wrongV
    rw [if_neg (by rw [castW_len]; omega), if_neg, if_neg]
    · have h3 : (closedD (fD D) T k A0 N).start = 0 := rfl
      rw [h3, hat, fD_cast]
      intro e
      have := eq_of_beq e
      exact hb this.symm
    · intro e
      obtain ⟨y, hy, h4⟩ := List.any_eq_true.1 e
      have := hov y hy
      unfold outK at h4
      have h5 := of_decide_eq_true h4
      omega
  · refine lstar hA h200 hone (castW u) hov (j := j) (by rw [castW_len]; exact hj) h1 h2 ?_
    have := bdD hD (discA_ok (okA_more hok ((castW u).drop (j + 1))) N)
    omega
theorem rf_of {D : Dfa} (hD : Right D) (hn : D.next.length ≤ 60) {T : List (List Int)} {k : Nat} (hk : 1 ≤ k ∧ k ≤ 16) {A0 : List (List Int)} (hA : OkA (fD D) T k A0) (h0 : A0[0]? = some []) : ∃ A LR LA x, RF D T k A0 A LR LA x := by
  obtain ⟨N, hN⟩ : ∃ N, N = 200 := ⟨200, rfl⟩
  obtain ⟨c1, c2, c3, c4, c5, c6, c7, c8, c9, c10⟩ := rf_gen hD hk hA h0 N (by omega) (by omega)
  have cf : Flat (closedD (fD D) T k A0 N) := closed_flat
  refine ⟨discA (fD D) T k A0 N, rowsA (fD D) T k A0 N, accsA (fD D) T k A0 N, closedD (fD D) T k A0 N, ⟨by rw [hN], by rw [hN], by rw [hN], rfl, rfl, rfl, c1, c2, cf, c3, c4, c5, c7, c6, c8, c9, ?_⟩⟩
  rw [← hN]
  exact c10
end Lr
end Go.Proofs.Ytclpmmbclgihbaa
namespace Go.Proofs.Ytclpmmbclgihbaa
open Go.RowKit
namespace Lr
open Df Cl

def oneD : Dfa := ⟨0, [-1, 0], [[1], [-1]]⟩
theorem one_right : Right oneD := by
  refine ⟨by simp [oneD], rfl, by simp [oneD, Dfa.width], fun r hr => ?_, by simp [oneD], fun v hv => ?_, fun r hr v hv => ?_⟩
  · simp [oneD] at hr; rcases hr with rfl | rfl <;> rfl
  · simp [oneD] at hv; omega
  · simp [oneD] at hr; rcases hr with rfl | rfl <;> simp at hv <;> subst hv <;> simp [oneD]
theorem one_flat : Flat oneD := fun v hv => by simp [oneD] at hv; omega
theorem one_f (u : List Int) (hu : ovK 1 u) : fD oneD u = decide (u.length = 1) := by
  have h0 : ∀ y ∈ u, y = 0 := fun y hy => by have := hu y hy; omega
  match u, h0 with
  | [], _ => rfl
  | [y], h => rw [h y (by simp)]; rfl
  | y :: z :: v, h =>
    rw [h y (by simp), h z (by simp)]
    unfold fD
    have h2 : runS oneD oneD.start (0 :: 0 :: v) < 0 := by
      show runS oneD (toS oneD (toS oneD 0 0) 0) v < 0
      exact runS_dead oneD v (by decide)
    unfold goodS
    simp; omega
def oneP (s : Nat) : Int := (s : Int)
theorem one_num : Num oneD oneP := by
  have hn : oneD.next.length = 2 := rfl
  refine ⟨fun s hs => by rw [hn] at hs ⊢; unfold oneP; omega, fun s hs => ?_, fun s t hs ht _ _ => ⟨fun h u _ => ?_, fun h => ?_⟩⟩
  · rw [hn] at hs
    constructor
    · intro h; unfold oneP at h; omega
    · intro h
      have h1 : s = 0 ∨ s = 1 := by omega
      rcases h1 with rfl | rfl
      · have := h [0] (fun c hc => by simp at hc; subst hc; decide)
        exact absurd this (by decide)
      · have := h [] (fun c hc => (by cases hc))
        exact absurd this (by decide)
  · have : s = t := by unfold oneP at h; omega
    rw [this]
  · rw [hn] at hs ht
    have h0 := h [] (fun c hc => (by cases hc))
    have h1 : s = 0 ∨ s = 1 := by omega
    have h2 : t = 0 ∨ t = 1 := by omega
    rcases h1 with rfl | rfl <;> rcases h2 with rfl | rfl
    · rfl
    · exact absurd h0 (by decide)
    · exact absurd h0 (by decide)
    · rfl
theorem one_canon : canonD oneD oneP oneD.next.length = oneD := by rfl
def noneD (k : Nat) : Dfa := ⟨0, [-1], [List.replicate k (-1)]⟩
theorem none_width (k : Nat) : (noneD k).width = k := by simp [noneD, Dfa.width]
theorem none_right {k : Nat} (hk : 1 ≤ k ∧ k ≤ 16) : Right (noneD k) := by
  refine ⟨by simp [noneD], rfl, by rw [none_width]; omega, fun r hr => ?_, by simp [noneD], fun v hv => ?_, fun r hr v hv => ?_⟩
  · rw [none_width]; simp [noneD] at hr; subst hr; simp
  · simp [noneD] at hv; omega
  · simp [noneD] at hr; subst hr
    have := List.eq_of_mem_replicate hv
    simp [noneD]; omega
theorem none_lg (k : Nat) (u : List Nat) : lg (noneD k) 0 u = false := by
  cases u with
  | nil => rfl
  | cons c u =>
    rw [lg_cons]
    refine lg_dead _ ?_ u
    unfold toS
    rw [if_neg (by omega)]
    show (((noneD k).next[0]?.getD [])[c]?).getD (-1) < 0
    simp [noneD, List.getElem?_replicate]
    split <;> simp
theorem none_f (k : Nat) (u : List Int) : fD (noneD k) u = false := by
  have h1 : fD (noneD k) u = lg (noneD k) 0 (u.map Int.toNat) := by
    unfold fD lg
    congr 1
    have : ∀ (u : List Int) (s : Int), runS (noneD k) s u = rn (noneD k) s (u.map Int.toNat) := by
      intro u
      induction u with
      | nil => intro s; rfl
      | cons y u ih => intro s; exact ih _
    exact this u 0
  rw [h1, none_lg]
theorem none_canon {x : Dfa} {P : Nat → Int} {k : Nat} (hx : Right x) (hw : x.width = (noneD k).width) (hP : Num x P) (hs : SameL (noneD k) x (noneD k).start x.start) : canonD x P x.next.length = noneD k := by
  have hd : deadP P x.start := (dead_lang hx hP hx.start.2).2 fun u hu => by
    rw [hw] at hu
    rw [← hs u hu]
    exact none_lg k u
  have h0 := hx.start.1
  unfold deadP at hd
  unfold canonD
  rw [if_pos (by omega), hw, none_width]
  rfl
theorem plain_right {x : Dfa} (h : Right x) : Right (plainD x) := by
  obtain ⟨h1, h2, h3, h4, h5, h6, h7⟩ := h
  refine ⟨h1, by simp [plainD]; exact h2, h3, h4, h5, fun v hv => ?_, h7⟩
  simp only [plainD, List.mem_map] at hv
  obtain ⟨a, ha, rfl⟩ := hv
  have := h6 a ha
  omega
theorem plain_flat (x : Dfa) : Flat (plainD x) := fun v hv => by
  simp only [plainD, List.mem_map] at hv
  obtain ⟨a, ha, rfl⟩ := hv
  omega
theorem plain_good (x : Dfa) (s : Int) : goodS (plainD x) s = goodS x s := by
  unfold goodS plainD
  simp only [List.getElem?_map]
  cases x.acc[s.toNat]? with
  | none => rfl
  | some a =>
    simp only [Option.map_some, Option.getD_some]
    congr 1
    exact decide_eq_decide.2 (by omega)
theorem plain_rn (x : Dfa) : ∀ (u : List Nat) (s : Int), rn (plainD x) s u = rn x s u
  | [], _ => rfl
  | c :: u, s => by rw [rn_cons, rn_cons]; exact plain_rn x u _
theorem plain_same (x : Dfa) : SameL x (plainD x) x.start (plainD x).start := fun u _ => by
  unfold lg
  rw [plain_good, plain_rn]; rfl
end Lr
end Go.Proofs.Ytclpmmbclgihbaa
