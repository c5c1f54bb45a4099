/- census.check and census.Trees. Plain: how many nodes a listed tree has. census.Trees. census.Total. rank.count and rank.Count. The contract of tree.Word. What rank.numberer.of meets: valid trees, the counter between calls. Plain: the number that rank.of reckons is the place in the list of all trees. What rank.numberer.tree and list answer. -/
import Derived.Test.YtbnpemgmdnghgaaJRankTellsRow5
import Derived.Test.YtbnpemgmdnghgaaJRankTellsRow2
import Derived.Test.YtbnpemgmdnghgaaJRankTellsRow3
namespace Go.Proofs.Ytbnpemgmdnghgaa
open Go.RowKit
namespace Cs

/-- what a checked grammar has -/
structure OkC (g : Gram) (N : Nat) : Prop where
  nons : g.nons = (N : Int)
  n1 : 1 ≤ N
  n2 : N ≤ 10
  s0 : 0 ≤ g.start
  s1 : g.start < (N : Int)
  r : okR N g
  l : okL N g
  len : g.rules.length ≤ 32
theorem okC_of {g : Gram} (h : checkG g = 0) : ∃ N, OkC g N := by
  unfold checkG at h
  by_cases hb : badHead g = true
  · rw [if_pos hb] at h; cases h
  · rw [if_neg hb] at h
    by_cases hl : 32 < g.rules.length
    · rw [if_pos hl] at h; cases h
    · rw [if_neg hl] at h
      have hz := faultsFrom_zero h
      unfold badHead at hb
      simp only [Bool.or_eq_true, decide_eq_true_eq, not_or] at hb
      obtain ⟨⟨⟨⟨⟨b1, b2⟩, b3⟩, b4⟩, b5⟩, b6⟩ := hb
      refine ⟨g.nons.toNat, by omega, by omega, by omega, by omega, by omega, fun r hr s hs ht => ?_, fun r hr => ?_, by omega⟩
      · have := (hz r hr).2.2.2 s hs
        unfold hasS at this
        rw [ht] at this
        simp at this
        omega
      · have := hz r hr
        omega
def errC (g : Gram) (n : Int) : Int := if checkG g ≠ 0 then checkG g else if n < 0 ∨ 24 < n then 1 else 0

set_option maxHeartbeats 4000000 in
set_option maxRecDepth 100000 in
theorem checkCE (g : Gram) (ra : Option Addr) (rcap : Nat) (n : Int) (w : World) (hr : Rd AnyB w (.sl (g.rules.map Rule.d)) [.slice ra g.rules.length rcap]) :
    Calls Try.prog 27 #[.agg #[.int .i64 g.terms, .int .i64 g.nons, .int .i64 g.start, .slice ra g.rules.length rcap], .int .i64 n] w fun e w' => e = .returned (.int .i64 (errC g n)) ∧ Below w.heap.size w w' := by
  obtain ⟨w0, HW0⟩ := nameIt (w.alloc (.cells #[.int .i64 g.terms, .int .i64 g.nons, .int .i64 g.start, .slice ra g.rules.length rcap] 24))
  have hb0 : Below w.heap.size w w0 := by rw [← HW0.out]; exact (Below.refl _ _).alloc (Nat.le_refl _) _
  have X0 : Hid (w0.heap[w.heap.size]? = some (.cells #[.int .i64 g.terms, .int .i64 g.nons, .int .i64 g.start, .slice ra g.rules.length rcap] 24 (0, 0))) := by rw [← HW0.out]; exact bx_new _ _ _ rfl
  have HCK := Lib.hid (checkE g ra rcap w0 (hr.below hb0))
  have HE : Hid (errC g n = if checkG g ≠ 0 then checkG g else if n < 0 ∨ 24 < n then 1 else 0) := rfl
  obtain ⟨PST, HP⟩ := nameIt (fun e w' => e = Ending.returned (.int .i64 (errC g n)) ∧ Below w.heap.size w w')
  rw [HP.out]
  have HFIN : Hid (∀ w', Below w0.heap.size w0 w' → PST (.returned (.int .i64 (errC g n))) w') := by
    intro w' h; rw [← HP.out]; exact ⟨rfl, hb0.trans (h.mono hb0.size)⟩
  obtain ⟨R, HR⟩ := nameIt (errC g n)
  rw [HR.out] at HE HFIN
  obtain ⟨c, HC⟩ := nameIt (checkG g)
  rw [HC.out] at HE HCK
  obtain ⟨x0, x1, x2, x3⟩ := bx_cells4 X0.out
  clear hb0 hr HP
  go_enter Try.func27, Try.ntmps27
  go_upto_region 1 with fail
  rw [HW0.out]
  go_wp2_with fail
  with_reducible refine HCK.out.mono ?_
  rintro e w1 ⟨rfl, hb1⟩
  have HFN := Lib.hid (HFIN.out w1 hb1)
  clear hb1 HFIN x0 x1 x2 x3 HW0
  by_cases hc : c = 0
  · subst hc
    have HE1 : Hid (R = if n < 0 ∨ 24 < n then 1 else 0) := by show _ = _; rw [HE.out]; simp
    by_cases hn : n < 0
    · obtain rfl : R = 1 := by rw [HE1.out, if_pos (.inl hn)]
      have b1 : decide (n < 0) = true := by simpa using hn
      go_wp2_with fail
      exact HFN.out
    · have b1 : decide (n < 0) = false := by simpa using hn
      by_cases hn2 : 24 < n
      · obtain rfl : R = 1 := by rw [HE1.out, if_pos (.inr hn2)]
        have b2 : decide (24 < n) = true := by simpa using hn2
        go_wp2_with fail
        exact HFN.out
      · obtain rfl : R = 0 := by rw [HE1.out, if_neg (by omega)]
        have b2 : decide (24 < n) = false := by simpa using hn2
        go_wp2_with fail
        exact HFN.out
  · obtain rfl : R = c := by rw [HE.out, if_pos hc]
    have b1 : (R != 0) = true := by simpa using hc
    go_wp2_with fail
    exact HFN.out
end Cs
end Go.Proofs.Ytbnpemgmdnghgaa
namespace Go.Proofs.Ytbnpemgmdnghgaa
open Go.RowKit
namespace Cs

theorem enL_mem_cons {S : Nat → Nat → Bool} {o : Sym → Nat → List Tree} {s : Sym} {l : List Sym} {k : Nat} {ks : List Tree} (h : ks ∈ enL S o (s :: l) k) : ∃ (i : Nat) (t : Tree) (y : List Tree), i ≤ k ∧ hasK S s i = true ∧ canK S l (k - i) = true ∧ t ∈ o s i ∧ y ∈ enL S o l (k - i) ∧ ks = t :: y := by
  rw [enL] at h
  obtain ⟨i, hi, h⟩ := List.mem_flatMap.1 h
  by_cases c : (hasK S s i && canK S l (k - i)) = true
  · rw [if_pos c] at h
    rw [Bool.and_eq_true] at c
    obtain ⟨t, ht, h⟩ := List.mem_flatMap.1 h
    obtain ⟨y, hy, rfl⟩ := List.mem_map.1 h
    exact ⟨i, t, y, by have := List.mem_range.1 hi; omega, c.1, c.2, ht, hy, rfl⟩
  · rw [if_neg c] at h; cases h
theorem enR_mem {S : Nat → Nat → Bool} {o : Sym → Nat → List Tree} {A : Int} {k : Nat} {t : Tree} : ∀ (rs : List Rule) (j : Nat), t ∈ enR S o A k rs j → ∃ r ∈ rs, ∃ (j' : Nat) (ks : List Tree), r.left = A ∧ ks ∈ enL S o r.right k ∧ t = .node (j' : Int) 0 ks
  | [], j, h => by unfold enR at h; cases h
  | r :: rs, j, h => by
    rw [enR] at h
    rcases List.mem_append.1 h with h | h
    · by_cases hl : r.left = A
      · rw [if_pos hl] at h
        obtain ⟨ks, hk, rfl⟩ := List.mem_map.1 h
        exact ⟨r, List.mem_cons_self, j, ks, hl, hk, rfl⟩
      · rw [if_neg hl] at h; cases h
    · obtain ⟨r', h1, j', ks, h2⟩ := enR_mem rs (j + 1) h
      exact ⟨r', List.mem_cons_of_mem _ h1, j', ks, h2⟩
/-- the nodes of a list of trees -/
def nsum (ks : List Tree) : Nat := (nodesL ks).length
theorem nsum_cons (t : Tree) (ks : List Tree) : nsum (t :: ks) = (nodes t).length + nsum ks := by unfold nsum; rw [nodesL, List.length_append]
theorem nodes_node (j : Nat) (ks : List Tree) : (nodes (.node (j : Int) 0 ks)).length = 1 + nsum ks := by
  rw [nodes]
  have : ¬ ((j : Int) = -1) := by omega
  rw [if_neg this, List.length_cons]
  unfold nsum; omega
def DD : Nat := 195312502
def ZZ : Nat := 48828125
/-- the nodes of a list: what is empty counts ZZ at most -/
theorem nsum_le {S : Nat → Nat → Bool} {o : Sym → Nat → List Tree} (K r : Nat) : ∀ (l : List Sym) (k : Nat) (ks : List Tree), k ≤ K →
    (∀ (p : Nat) (s : Sym) (i a : Nat) (t : Tree), l[p]? = some s → hasK S s i = true → a + i ≤ k → canK S (l.take p) a = true → canK S (l.drop (p + 1)) (k - a - i) = true → t ∈ o s i → (i = 0 → (nodes t).length ≤ ZZ) ∧ (0 < i → (nodes t).length + 11 * DD ≤ DD * (22 * i)) ∧ (0 < i → i = K → (nodes t).length + 22 * DD ≤ DD * (22 * K + r) + 1)) →
    ks ∈ enL S o l k → (k = 0 → nsum ks ≤ l.length * ZZ) ∧ (0 < k → nsum ks + 11 * DD ≤ l.length * ZZ + DD * (22 * k)) ∧ (0 < k → k = K → nsum ks + 22 * DD ≤ l.length * ZZ + DD * (22 * K + r) + 1)
  | [], k, ks, hk, _, h => by
    unfold enL at h
    by_cases h0 : k = 0
    · rw [if_pos h0] at h
      simp at h
      subst h
      exact ⟨fun _ => by simp [nsum, nodesL], fun h => by omega, fun h => by omega⟩
    · rw [if_neg h0] at h; cases h
  | s :: l, k, ks, hk, hb, h => by
    obtain ⟨i, t, y, hi, h1, h2, ht, hy, rfl⟩ := enL_mem_cons h
    obtain ⟨b1, b2, b3⟩ := hb 0 s i 0 t rfl h1 (by omega) rfl (by simpa using h2) ht
    obtain ⟨c1, c2, c3⟩ := nsum_le K r l (k - i) y (by omega) (fun p s' j a t' hp hh ha h3 h4 ht' => hb (p + 1) s' j (i + a) t' hp hh (by omega) (by rw [List.take_succ_cons, canK_cons]; exact ⟨i, by omega, h1, by rw [Nat.add_sub_cancel_left]; exact h3⟩) (by rw [List.drop_succ_cons, show k - (i + a) - j = k - i - a - j by omega]; exact h4) ht') hy
    rw [nsum_cons, List.length_cons]
    unfold ZZ DD at *
    refine ⟨fun h0 => ?_, fun h0 => ?_, fun h0 h0' => ?_⟩
    · have := b1 (by omega); have := c1 (by omega); omega
    · by_cases e0 : i = 0
      · have := b1 e0; have := c2 (by omega); subst e0; simp at *; omega
      · by_cases e1 : i = k
        · have := b2 (by omega); have := c1 (by omega); omega
        · have := b2 (by omega); have := c2 (by omega); omega
    · by_cases e0 : i = 0
      · have := b1 e0; have := c3 (by omega) (by omega); omega
      · by_cases e1 : i = k
        · have := b3 (by omega) (by omega); have := c1 (by omega); omega
        · have := b2 (by omega); have := c2 (by omega); omega
/-- which nodes of the same length are led to -/
def same (T : Nat → Nat → Bool) (N n A k : Nat) : Nat := ((List.range N).filter fun B => T (A * (n + 1) + k) (B * (n + 1) + k)).length
theorem same_le (T : Nat → Nat → Bool) (N n A k : Nat) : same T N n A k ≤ N := by
  unfold same
  refine Nat.le_trans (List.length_filter_le _ _) ?_
  rw [List.length_range]; exact Nat.le_refl _
theorem filter_lt {P Q : Nat → Bool} {v : Nat} (hPQ : ∀ w, P w = true → Q w = true) (hv : Q v = true) (hv' : P v = false) (N : Nat) (h : v < N) : ((List.range N).filter P).length < ((List.range N).filter Q).length := by
  have key : ∀ n, ((List.range n).filter P).length + (if v < n then 1 else 0) ≤ ((List.range n).filter Q).length := by
    intro n
    induction n with
    | zero => simp
    | succ n ih =>
      rw [List.range_succ, List.filter_append, List.filter_append, List.length_append, List.length_append]
      by_cases e : v = n
      · subst e
        rw [if_neg (by omega)] at ih
        rw [if_pos (by omega)]
        simp [hv, hv'] at ih ⊢
        exact ih
      · have e2 : (if v < n + 1 then 1 else 0) = (if v < n then 1 else 0) := by
          by_cases h : v < n
          · rw [if_pos h, if_pos (by omega)]
          · rw [if_neg h, if_neg (by omega)]
        rw [e2]
        cases h : P n with
        | false => simp [h]; omega
        | true =>
          have := hPQ n h
          simp [h, this]; omega
  have := key N
  rw [if_pos h] at this
  omega
section
variable {rules : List Rule} {S : Nat → Nat → Bool} {N n : Nat}
/-- an edge between nodes of one length -/
theorem same_lt {A B k : Nat} (hT : clK rules S N n (A * (n + 1) + k) (B * (n + 1) + k) = true) (hB : B < N) (hvv : clK rules S N n (B * (n + 1) + k) (B * (n + 1) + k) = false) : same (clK rules S N n) N n B k < same (clK rules S N n) N n A k :=
  filter_lt (P := fun C => clK rules S N n (B * (n + 1) + k) (C * (n + 1) + k)) (Q := fun C => clK rules S N n (A * (n + 1) + k) (C * (n + 1) + k)) (fun w h => clo_trans _ _ _ hT h) hT hvv N hB
/-- the nodes of a tree of a good symbol -/
theorem nodes_le (hN : N ≤ 10) (hok : ∀ r ∈ rules, ∀ s ∈ r.right, s.term = false → 0 ≤ s.n ∧ s.n.toNat < N) (h4 : ∀ r ∈ rules, r.right.length ≤ 4) : ∀ (f A k : Nat), A < N → k ≤ n → MK rules S N n A k = false → ∀ t ∈ enF rules S f A k,
    (k = 0 → (nodes t).length ≤ 5 ^ (same (clK rules S N n) N n A k + 1)) ∧ (0 < k → (nodes t).length + 21 * DD ≤ DD * (22 * k + same (clK rules S N n) N n A k)) := by
  intro f
  induction f with
  | zero => intro A k hA hk hM t ht; unfold enF at ht; cases ht
  | succ f ih =>
    intro A k hA hk hM t ht
    rw [enF] at ht
    by_cases hS : S A k = false
    · rw [if_pos hS] at ht; cases ht
    · rw [if_neg hS] at ht
      obtain ⟨r, hr, j', ks, hl, hks, rfl⟩ := enR_mem _ _ ht
      have hpow : ∀ B, 5 ^ (same (clK rules S N n) N n B 0 + 1) ≤ 48828125 := by
        intro B
        have := same_le (clK rules S N n) N n B 0
        exact Nat.le_trans (Nat.pow_le_pow_right (by omega) (show _ ≤ 11 by omega)) (by decide)
      have hedge : ∀ (p : Nat) (s : Sym) (i a : Nat), r.right[p]? = some s → s.term = false → hasK S s i = true → a + i ≤ k → canK S (r.right.take p) a = true → canK S (r.right.drop (p + 1)) (k - a - i) = true →
          s.n.toNat < N ∧ i ≤ n ∧ MK rules S N n s.n.toNat i = false ∧ clK rules S N n (A * (n + 1) + k) (s.n.toNat * (n + 1) + i) = true ∧ clK rules S N n (s.n.toNat * (n + 1) + i) (s.n.toNat * (n + 1) + i) = false := by
        intro p s i a hp hterm hh ha h1 h2
        have hs := hok r hr s (List.mem_of_getElem? hp) hterm
        have hS' : S s.n.toNat i = true := by unfold hasK at hh; rw [hterm] at hh; simpa using hh
        have hin : i ≤ n := by omega
        have hg := ends_MM (rules := rules) (S := S) (N := N) (n := n) hok A k r hA hk hM hr hl p s i a hp hterm hS' ha h1 h2
        have hu := node_lt (N := N) hA hk
        have hv := node_lt (N := N) hs.2 hin
        have hsp : splitK S (r.right.take p) (r.right.drop (p + 1)) (k - i) = true := splitK_iff.2 ⟨a, by omega, h1, by rw [show k - i - a = k - a - i by omega]; exact h2⟩
        have hed := e5_hit (n := n) hr hk hp hterm (show i ≤ k by omega) hS' hsp
        rw [hl, Int.toNat_natCast] at hed
        have hT : clK rules S N n (A * (n + 1) + k) (s.n.toNat * (n + 1) + i) = true := clo_edge hu hv hed
        exact ⟨hs.2, hin, hg.2.2.1, hT, manyK_not hM hv (.inr hT)⟩
      rw [nodes_node]
      have hlen := h4 r hr
      by_cases hk0 : k = 0
      · subst hk0
        refine ⟨fun _ => ?_, fun h => by omega⟩
        -- all kids are empty, and of fewer nodes
        have key : ∀ (l : List Sym) (y : List Tree), (∀ (p : Nat) (s : Sym) (t : Tree), l[p]? = some s → hasK S s 0 = true → canK S (l.take p) 0 = true → canK S (l.drop (p + 1)) 0 = true → t ∈ symE S (enF rules S f) s 0 → (nodes t).length ≤ 5 ^ (same (clK rules S N n) N n A 0)) → y ∈ enL S (symE S (enF rules S f)) l 0 → nsum y ≤ l.length * 5 ^ (same (clK rules S N n) N n A 0) := by
          intro l
          induction l with
          | nil => intro y _ hy; simp [enL] at hy; subst hy; simp [nsum, nodesL]
          | cons s l ihl =>
            intro y hb hy
            obtain ⟨i, t, z, hi, h1, h2, ht, hz, rfl⟩ := enL_mem_cons hy
            obtain rfl : i = 0 := by omega
            have := hb 0 s t rfl h1 rfl (by simpa using h2) ht
            have := ihl z (fun p s' t' hp hh h3 h4 ht' => hb (p + 1) s' t' hp hh (by rw [List.take_succ_cons, canK_cons]; exact ⟨0, by omega, h1, h3⟩) (by rw [List.drop_succ_cons]; exact h4) ht') hz
            rw [nsum_cons, List.length_cons, Nat.add_mul]
            omega
        have h5 := key r.right ks (fun p s t hp hh h1 h2 ht' => by
          unfold symE at ht'
          rw [if_neg (by rw [hh]; decide)] at ht'
          cases hterm : s.term with
          | true => unfold hasK at hh; rw [hterm] at hh; simp at hh
          | false =>
            rw [hterm] at ht'
            simp only [Bool.false_eq_true, if_false] at ht'
            obtain ⟨e1, e2, e3, e4, e5⟩ := hedge p s 0 0 hp hterm hh (by omega) h1 (by simpa using h2)
            have h6 := (ih s.n.toNat 0 e1 e2 e3 t ht').1 rfl
            have h7 := same_lt e4 e1 e5
            exact Nat.le_trans h6 (Nat.pow_le_pow_right (by omega) (by omega))) hks
        have h8 : 0 < 5 ^ (same (clK rules S N n) N n A 0) := Nat.pos_of_ne_zero (by simp)
        rw [Nat.pow_succ]
        have h9 : r.right.length * 5 ^ (same (clK rules S N n) N n A 0) ≤ 4 * 5 ^ (same (clK rules S N n) N n A 0) := Nat.mul_le_mul_right _ hlen
        omega
      · refine ⟨fun h => absurd h hk0, fun _ => ?_⟩
        have h5 := (nsum_le (S := S) (o := symE S (enF rules S f)) k (same (clK rules S N n) N n A k) r.right k ks (Nat.le_refl _) (fun p s i a t hp hh ha h1 h2 ht' => by
          unfold symE at ht'
          rw [if_neg (by rw [hh]; decide)] at ht'
          cases hterm : s.term with
          | true =>
            rw [hterm] at ht'
            simp at ht'
            subst ht'
            have hi1 : i = 1 := by unfold hasK at hh; rw [hterm] at hh; simpa using hh
            have hn1 : (nodes (Tree.node (-1) s.n [])).length = 1 := by rw [nodes]; simp
            rw [hn1]
            unfold ZZ DD
            subst hi1
            refine ⟨fun h => by omega, fun h => by omega, fun h h' => by omega⟩
          | false =>
            rw [hterm] at ht'
            simp only [Bool.false_eq_true, if_false] at ht'
            obtain ⟨e1, e2, e3, e4, e5⟩ := hedge p s i a hp hterm hh ha h1 h2
            obtain ⟨g1, g2⟩ := ih s.n.toNat i e1 e2 e3 t ht'
            have hsl := same_le (clK rules S N n) N n s.n.toNat i
            refine ⟨fun h => ?_, fun h => ?_, fun h h' => ?_⟩
            · subst h
              exact Nat.le_trans (g1 rfl) (hpow _)
            · have := g2 h
              unfold DD at *
              omega
            · subst h'
              have := g2 h
              have h7 := same_lt e4 e1 e5
              unfold DD at *
              omega) hks).2.2 (Nat.pos_of_ne_zero hk0) rfl
        have h9 : r.right.length * ZZ ≤ 4 * ZZ := Nat.mul_le_mul_right _ hlen
        unfold ZZ DD at *
        omega
theorem nodes_bound (hN : N ≤ 10) (hok : ∀ r ∈ rules, ∀ s ∈ r.right, s.term = false → 0 ≤ s.n ∧ s.n.toNat < N) (h4 : ∀ r ∈ rules, r.right.length ≤ 4) (hn : n ≤ 24) {f A k : Nat} (hA : A < N) (hk : k ≤ n) (hM : MK rules S N n A k = false) {t : Tree} (ht : t ∈ enF rules S f A k) : (nodes t).length ≤ 1099511627776 := by
  obtain ⟨g1, g2⟩ := nodes_le hN hok h4 f A k hA hk hM t ht
  have hsl := same_le (clK rules S N n) N n A k
  by_cases h0 : k = 0
  · have := g1 h0
    have h2 : 5 ^ (same (clK rules S N n) N n A k + 1) ≤ 5 ^ 11 := Nat.pow_le_pow_right (by omega) (by omega)
    have h3 : 5 ^ 11 ≤ 1099511627776 := by decide
    omega
  · have := g2 (by omega)
    unfold DD at this
    omega
end
end Cs
end Go.Proofs.Ytbnpemgmdnghgaa
namespace Go.Proofs.Ytbnpemgmdnghgaa
open Go.RowKit
namespace Cs

theorem elIntsC : ElemT Try.prog 29 33 1 24 := ElemT.mk' (z := .slice none 0 0) (by kernel_rfl) (by kernel_rfl) rfl (by decide)
section
variable {g : Gram} {vr : Value} {N n : Nat} {d : Cid} {S M : Nat → Nat → Bool} {V : Nat → Nat → Int} {w0 : World} {C : Nat → Nat → Int} {W W' : World}
theorem own_fr {B : Nat} {e : TypeId} {s : Nat} {v : Value} {k : Nat} {xs : List Value} (h : W.ownsRow B e s v k xs) (hf : Fr N d W W') (hr : ∀ a, a < N → d.rc a < B) : W'.ownsRow B e s v k xs := by
  obtain ⟨h1, h2⟩ := h
  refine ⟨h1, ?_⟩
  rcases h2 with h2 | ⟨b, cap, cur, rfl, hg, hh, r⟩
  · exact .inl h2
  · exact .inr ⟨b, cap, cur, rfl, hg, (hf.block b (Array.getElem?_eq_some_iff.1 hh).1 (fun a ha e => by have := hr a ha; omega)).trans hh, r⟩
theorem RowD.fr {B : Nat} {e : TypeId} {s : Nat} {ds : List D} {v : Value} (h : RowD (fun k => B ≤ k) B e s ds v W) (hf : Fr N d W W') (hr : ∀ a, a < N → d.rc a < B) : RowD (fun k => B ≤ k) B e s ds v W' := by
  obtain ⟨⟨xs, h1, h2⟩, h3⟩ := h
  exact ⟨⟨xs, own_fr h1 hf hr, RdAll.keep (fun k hk hl => ⟨hk, hf.block k hl (fun a ha e => by have := hr a ha; omega)⟩) _ _ h2⟩, Nat.le_trans h3 hf.size⟩
theorem CI.low (h : CI g vr N n d S M C W) (hs : ∀ k, k ≤ d.cb → W'.heap[k]? = W.heap[k]?) : CI g vr N n d S M C W' := by
  obtain ⟨⟨T, h1⟩, h2, h3, h4, h5⟩ := h
  have p2 := h2.pl
  have p3 := h3.pl
  have p4 := h4.pl
  exact ⟨⟨T, (hs _ (Nat.le_refl _)).trans h1⟩, h2.other fun k _ hk => hs k (by omega), h3.other fun k _ hk => hs k (by omega), h4.other fun k _ hk => hs k (by omega), h5⟩
theorem CS.keepB {B : Nat} (h : CS g vr N n d S M V w0 C W) (hb : Below B W W') (hB : d.cb < B) : CS g vr N n d S M V w0 C W' := by
  have p2 := h.ci.some'.pl
  have p3 := h.ci.many.pl
  have p4 := h.ci.cnt.pl
  have p5 := h.ci.le
  have p6 := h.lo
  exact ⟨h.ci.low fun k hk => hb.block k (by omega), h.cv, h.bel.trans (hb.mono (by omega)), h.lo⟩
theorem CS.rlt (h : CS g vr N n d S M V w0 C W) {B : Nat} (hB : d.cb < B) : ∀ a, a < N → d.rc a < B := fun a ha => Nat.lt_trans (h.rc a ha).2 hB
end
/-- the numbers of trees of a nonterminal -/
def tC (g : Gram) (S : Nat → Nat → Bool) (N n A k : Nat) : Int := symV S (valK g.rules S (MK g.rules S N n) MaxC (-1) (sizeK N n)) ⟨false, (A : Int)⟩ k
def rowC (g : Gram) (S : Nat → Nat → Bool) (N n A k : Nat) : List Int := (List.range k).map (tC g S N n A)
def tabC (g : Gram) (S : Nat → Nat → Bool) (N n A : Nat) : List (List Int) := (List.range A).map fun a => rowC g S N n a (n + 1)
theorem rowC_next (g : Gram) (S : Nat → Nat → Bool) (N n A k : Nat) : rowC g S N n A (k + 1) = rowC g S N n A k ++ [tC g S N n A k] := by unfold rowC; rw [List.range_succ, List.map_append]; rfl
theorem tabC_next (g : Gram) (S : Nat → Nat → Bool) (N n A : Nat) : tabC g S N n (A + 1) = tabC g S N n A ++ [rowC g S N n A (n + 1)] := by unfold tabC; rw [List.range_succ, List.map_append]; rfl
theorem rowC_len (g : Gram) (S : Nat → Nat → Bool) (N n A k : Nat) : (rowC g S N n A k).length = k := by simp [rowC]
theorem tabC_len (g : Gram) (S : Nat → Nat → Bool) (N n A : Nat) : (tabC g S N n A).length = A := by simp [tabC]
/-- the counter's lengths -/
def DoneC (g : Gram) (n : Nat) (S : Nat → Nat → Bool) : Prop := (∃ q, S = itP n g.rules q (fun _ _ => false)) ∧ (p3 n g.rules S).2 = false
/-- while the table is made -/
structure TI (g : Gram) (vr : Value) (N n : Nat) (d : Cid) (S : Nat → Nat → Bool) (w1 : World) (B A : Nat) (v : Value) (W : World) : Prop where
  cs : ∃ C, CS g vr N n d S (MK g.rules S N n) (valK g.rules S (MK g.rules S N n) MaxC (-1) (sizeK N n)) w1 C W
  row : RowD (fun k => B ≤ k) B 33 1 ((tabC g S N n A).map D.ints) v W
  cb : d.cb < B
structure TJ (g : Gram) (vr : Value) (N n : Nat) (d : Cid) (S : Nat → Nat → Bool) (w1 w3 : World) (A k : Nat) (v : Value) (W : World) : Prop where
  cs : ∃ C, CS g vr N n d S (MK g.rules S N n) (valK g.rules S (MK g.rules S N n) MaxC (-1) (sizeK N n)) w1 C W
  row : W.ownsRow w3.heap.size 3 1 v k (ints (rowC g S N n A k))
  fr : Fr N d w3 W
  cb : d.cb < w3.heap.size
section
variable {g : Gram} {vr : Value} {N n : Nat} {d : Cid} {S : Nat → Nat → Bool} {w1 w3 W W' : World} {B A k : Nat} {v u : Value}
theorem TJ.keep (h : TJ g vr N n d S w1 w3 A k v W) (hb : Below W.heap.size W W') : TJ g vr N n d S w1 w3 A k v W' := by
  obtain ⟨C, hc⟩ := h.cs
  exact ⟨⟨C, hc.keep hb⟩, own_keep h.row hb, h.fr.trans (Fr.of hb), h.cb⟩
/-- behind the count -/
theorem TJ.of (h : TJ g vr N n d S w1 w3 A k v W) (hf : Fr N d W W') (hc : ∃ C, CS g vr N n d S (MK g.rules S N n) (valK g.rules S (MK g.rules S N n) MaxC (-1) (sizeK N n)) w1 C W') : TJ g vr N n d S w1 w3 A k v W' := by
  obtain ⟨C, hc0⟩ := h.cs
  exact ⟨hc, own_fr h.row hf (hc0.rlt h.cb), h.fr.trans hf, h.cb⟩
theorem TJ.add {v' : Value} (h : TJ g vr N n d S w1 w3 A k v W) (ho : W'.ownsRow w3.heap.size 3 1 v' (k + 1) (ints (rowC g S N n A k) ++ [.int .i64 (tC g S N n A k)])) (hg : W.grownBy W' v.ownBlock) : TJ g vr N n d S w1 w3 A (k + 1) v' W' := by
  obtain ⟨C, hc⟩ := h.cs
  have hlt := h.row.lt
  have hs := h.fr.size
  refine ⟨⟨C, hc.keepB (B := w3.heap.size) ((Below.refl _ _).grown hg hs (fun k e => (hlt k e).1)) h.cb⟩, ?_, ?_, h.cb⟩
  · rw [rowC_next]; simpa [ints] using ho
  · exact ⟨hg.os.trans h.fr.os, hg.tape.trans h.fr.tape, hg.output.trans h.fr.output, Nat.le_trans hs hg.size, fun j hj hn => (hg.block j (by omega) (fun e => by have := (hlt j e.symm).1; omega)).trans (h.fr.block j hj hn)⟩
theorem TI.keep (h : TI g vr N n d S w1 B A v W) (hb : Below W.heap.size W W') : TI g vr N n d S w1 B A v W' := by
  obtain ⟨C, hc⟩ := h.cs
  exact ⟨⟨C, hc.keep hb⟩, h.row.keep hb, h.cb⟩
theorem TI.start (h : TI g vr N n d S w1 B A v w3) : TJ g vr N n d S w1 w3 A 0 (.slice none 0 0) w3 := by
  have := h.row.le
  have := h.cb
  exact ⟨h.cs, World.ownsRow_nil _ _ _ _, Fr.refl _ _ _, by omega⟩
/-- a row is done: what the append of it finds -/
theorem TI.fin (h : TI g vr N n d S w1 B A v w3) (hj : TJ g vr N n d S w1 w3 A k u W) : RowD (fun k => B ≤ k) B 33 1 ((tabC g S N n A).map D.ints) v W := by
  obtain ⟨C, hc⟩ := h.cs
  exact RowD.fr h.row hj.fr (hc.rlt h.cb)
theorem TI.add {v' : Value} {xs : List Value} (h : TI g vr N n d S w1 B A v w3) (hj : TJ g vr N n d S w1 w3 A (n + 1) u W) (h1 : W.ownsRow B 33 1 v A xs) (h2 : RdAll (fun k => B ≤ k ∧ v.ownBlock ≠ some k) W ((tabC g S N n A).map D.ints) xs)
    (ho : W'.ownsRow B 33 1 v' (A + 1) (xs ++ [u])) (hg : W.grownBy W' v.ownBlock) (hat : v'.ownBlock = v.ownBlock ∨ ∃ k, v'.ownBlock = some k ∧ W.heap.size ≤ k) : TI g vr N n d S w1 B (A + 1) v' W' := by
  obtain ⟨C, hc⟩ := hj.cs
  have hle := h.row.le
  have hs := hj.fr.size
  have hlt : ∀ k, v.ownBlock = some k → B ≤ k ∧ k < w3.heap.size := by
    obtain ⟨xs', o1, o2⟩ := h.row.own
    exact o1.lt
  refine ⟨⟨C, hc.keepB (B := B) ((Below.refl _ _).grown hg (by omega) (fun k e => (hlt k e).1)) h.cb⟩, ?_, h.cb⟩
  rw [tabC_next, List.map_append]
  have hrd : Rd (fun k => w3.heap.size ≤ k) W (D.ints (rowC g S N n A (n + 1))) [u] := rd_of_own hj.row ((rdAll_ints _ _).2 rfl) (by simp [rowC_len]) (fun k e => (hj.row.lt k e).1)
  exact RowD.step (es := [D.ints (rowC g S N n A (n + 1))]) h1 h2 (by rw [List.length_map, tabC_len]) (RdAll.one hrd) (fun k hk _ => ⟨by omega, fun e => by have := (hlt k e).2; omega⟩) (by omega) (by simpa using ho) hg hat
end

/-- the table of the numbers of trees, or an error -/
def TreesPost (g : Gram) (n : Int) (w : World) (e : Ending) (w' : World) : Prop :=
  Below w.heap.size w w' ∧ ((errC g n ≠ 0 ∧ e = .returned (.tuple #[.slice none 0 0, .int .i64 (errC g n)])) ∨
    (errC g n = 0 ∧ ∃ (N n' : Nat) (S : Nat → Nat → Bool) (a : Option Addr) (c : Nat), OkC g N ∧ n = (n' : Int) ∧ n' ≤ 24 ∧ DoneC g n' S ∧ e = .returned (.tuple #[.slice a N c, .int .i64 0]) ∧ Rd AnyB w' (.sl ((tabC g S N n' N).map D.ints)) [.slice a N c]))
set_option maxHeartbeats 8000000 in
set_option maxRecDepth 100000 in
theorem treesE (g : Gram) (ra : Option Addr) (rcap : Nat) (n : Int) (w : World) (hr : Rd AnyB w (.sl (g.rules.map Rule.d)) [.slice ra g.rules.length rcap]) :
    Calls Try.prog 9 #[.agg #[.int .i64 g.terms, .int .i64 g.nons, .int .i64 g.start, .slice ra g.rules.length rcap], .int .i64 n] w (TreesPost g n w) := by
  obtain ⟨w0, HW0⟩ := nameIt (w.alloc (.cells #[.int .i64 g.terms, .int .i64 g.nons, .int .i64 g.start, .slice ra g.rules.length rcap] 24))
  have hb0 : Below w.heap.size w w0 := by rw [← HW0.out]; exact (Below.refl _ _).alloc (Nat.le_refl _) _
  have HB0 := Lib.hid hb0
  have X0 : Hid (w0.heap[w.heap.size]? = some (.cells #[.int .i64 g.terms, .int .i64 g.nons, .int .i64 g.start, .slice ra g.rules.length rcap] 24 (0, 0))) := by rw [← HW0.out]; exact bx_new _ _ _ rfl
  have HCK := Lib.hid (checkCE g ra rcap n w0 (hr.below hb0))
  obtain ⟨PST, HP⟩ := nameIt (TreesPost g n w)
  rw [HP.out]
  have HRD := Lib.hid (hr.below hb0)
  by_cases he : errC g n = 0
  · have hck : checkG g = 0 := by
      unfold errC at he
      by_cases h : checkG g = 0
      · exact h
      · rw [if_pos h] at he; exact absurd he h
    have hnn : 0 ≤ n ∧ n ≤ 24 := by
      unfold errC at he
      rw [if_neg (by simpa using hck)] at he
      by_cases h : n < 0 ∨ 24 < n
      · rw [if_pos h] at he; cases he
      · omega
    obtain ⟨N, hok⟩ := okC_of hck
    obtain ⟨n', rfl⟩ := Int.eq_ofNat_of_zero_le hnn.1
    obtain ⟨n, hn'⟩ : ∃ x : Nat, x = n' := ⟨_, rfl⟩
    subst hn'
    have hn24 : n ≤ 24 := by omega
    have HFIN : Hid (∀ (S : Nat → Nat → Bool) (a : Option Addr) (c : Nat) (w' : World), Below w0.heap.size w0 w' → DoneC g n S → Rd AnyB w' (.sl ((tabC g S N n N).map D.ints)) [.slice a N c] → PST (.returned (.tuple #[.slice a N c, .int .i64 0])) w') := by
      intro S a c w' h1 h2 h3
      rw [← HP.out]
      exact ⟨hb0.trans (h1.mono hb0.size), .inr ⟨he, N, n, S, a, c, hok, rfl, hn24, h2, rfl, h3⟩⟩
    have HMK : Hid (∀ W, Below w0.heap.size w0 W → Calls Try.prog 28 #[.agg #[.int .i64 g.terms, .int .i64 g.nons, .int .i64 g.start, .slice ra g.rules.length rcap], .int .i64 (n : Int)] W (MadeC g (.slice ra g.rules.length rcap) N n W)) :=
      fun W hb => makeE hok.nons hok.n1 hok.n2 hn24 hok.r hok.l W (HRD.out.below hb)
    have HOF : Hid (∀ (w1 : World) (d : Cid) (S : Nat → Nat → Bool) (C : Nat → Nat → Int) (A k : Nat) (W : World), Below w0.heap.size w0 w1 → A < N → k ≤ n → CS g (.slice ra g.rules.length rcap) N n d S (MK g.rules S N n) (valK g.rules S (MK g.rules S N n) MaxC (-1) (sizeK N n)) w1 C W →
        Calls Try.prog 29 #[.pointer (some ⟨d.cb, 0, none⟩), .agg #[.bool false, .int .i64 (A : Int)], .int .i64 (k : Int)] W (OfPost g (.slice ra g.rules.length rcap) N n d S (MK g.rules S N n) (valK g.rules S (MK g.rules S N n) MaxC (-1) (sizeK N n)) w1 (tC g S N n A k) W)) := by
      intro w1 d S C A k W hb hA hk hc
      have := ofE (d := d) (w0 := w1) (n := n) (by omega) (by have := hok.n2; omega) hok.r (ends_MK (rules := g.rules) (S := S) (N := N) (n := n) hok.r) (HRD.out.below hb) (sizeK N n + 1) ⟨false, (A : Int)⟩ k C W (fun _ => ⟨by simp, by simpa using hA⟩) hk (fun _ => okK_all _ _ _ (Nat.lt_succ_self _)) hc
      exact this
    have hnons := hok.nons
    have hN1 := hok.n1
    have hN2 := hok.n2
    obtain ⟨m, HM⟩ := nameIt (n + 1)
    have hm1 : 1 ≤ m := by have := HM.out; omega
    have hm2 : m ≤ 25 := by have := HM.out; omega
    have HMZ : Hid (((n : Int) + 1) = (m : Int)) := by show _ = _; rw [← HM.out]; omega
    have hw1 : IntKind.i64.wrap ((n : Int) + 1) = (m : Int) := by rw [IntWalk.i64_in _ (by omega), HMZ.out]
    obtain ⟨gt, HGT⟩ := nameIt g.terms
    obtain ⟨gs, HGS⟩ := nameIt g.start
    obtain ⟨rl, HRL⟩ := nameIt g.rules.length
    rw [he] at HCK
    rw [HGT.out, hnons, HGS.out, HRL.out] at HW0 X0 HCK HMK
    rw [HRL.out] at HOF
    rw [HGT.out, hnons, HGS.out, HRL.out]
    obtain ⟨x0, x1, x2, x3⟩ := bx_cells4 X0.out
    clear hb0 hr HP he hck hnn
    go_enter Try.func9, Try.ntmps9
    go_upto_region 1 with fail
    rw [HW0.out]
    go_wp2_with fail
    with_reducible refine HCK.out.mono ?_
    rintro e w1 ⟨rfl, hb1⟩
    have HB1 := Lib.hid hb1
    obtain ⟨x0, x1, x2, x3⟩ := bx_cells4 (bx_keep X0.out hb1)
    go_wp2_with fail
    with_reducible refine (HMK.out w1 HB1.out).mono ?_
    rintro e w2 ⟨d, S, rfl, hq, hp3, hci, hb2, hlo⟩
    have HDN : Hid (DoneC g n S) := ⟨hq, hp3⟩
    have HB2 : Hid (Below w1.heap.size w1 w2) := hb2
    have hcb : d.cb < w2.heap.size := hci.lt
    have HTI : Hid (TI g (.slice ra rl rcap) N n d S w1 w2.heap.size 0 (.slice none 0 0) w2) := ⟨⟨_, hci, fun _ _ _ _ => .inl rfl, hb2, hlo⟩, RowD.nil _ _ _ _ _ (Nat.le_refl _), hcb⟩
    obtain ⟨B, HBN⟩ := nameIt w2.heap.size
    rw [HBN.out] at HTI hcb
    obtain ⟨x0, x1, x2, x3⟩ := bx_cells4 (bx_keep (bx_keep X0.out hb1) hb2)
    have HBX := Lib.hid (bx_keep X0.out hb1)
    clear hq hp3 hci hb2 hlo hb1
    go_wp2_with fail
    clear x0 x1 x2 x3
    go_loopg [8, 23] N (fun gg v8 v23 wr => ∃ (A : Nat) (a : Option Addr) (c : Nat), A ≤ N ∧ N - A ≤ gg ∧ v8 = .slice a A c ∧ v23 = .int .i64 A ∧ Hid (TI g (.slice ra rl rcap) N n d S w1 B A (.slice a A c) wr))
    case atStart => exact ⟨0, none, 0, by omega, by omega, rfl, rfl, HTI⟩
    case round =>
      clear HTI
      obtain ⟨A, a, c, hA, hg, rfl, rfl, HTI⟩ := hrel
      obtain ⟨w3, rfl⟩ : ∃ ww : World, ww = wr := ⟨_, rfl⟩
      by_cases hAN : A < N
      · have hAN' : (A : Int) < (N : Int) := by omega
        have HTJ0 := Lib.hid HTI.out.start
        go_wp2_with fail
        go_loopg [10, 28] m (fun gg v10 v28 wr => ∃ (k : Nat) (b : Option Addr) (f : Nat), k ≤ m ∧ m - k ≤ gg ∧ v10 = .slice b k f ∧ v28 = .int .i64 k ∧ Hid (TJ g (.slice ra rl rcap) N n d S w1 w3 A k (.slice b k f) wr))
        case atStart => exact ⟨0, none, 0, by omega, by omega, rfl, rfl, HTJ0⟩
        case round =>
          clear HTJ0
          obtain ⟨k, b, f, hk, hg2, rfl, rfl, HTJ⟩ := hrel
          obtain ⟨w4, rfl⟩ : ∃ ww : World, ww = wr := ⟨_, rfl⟩
          by_cases hkm : k < m
          · have hkm' : (k : Int) < (m : Int) := by omega
            have hkn : k ≤ n := by have := HM.out; omega
            go_wp2_with fail
            with_reducible refine (gramN _ _).mono ?_
            rintro e w5 ⟨rfl, hb5⟩
            have HTJ5 := Lib.hid (HTJ.out.keep hb5)
            clear hb5
            obtain ⟨C5, hc5⟩ := HTJ5.out.cs
            go_wp2_with fail
            with_reducible refine (HOF.out w1 d S C5 A k w5 HB1.out hAN hkn hc5).mono ?_
            rintro e w6 ⟨rfl, hf6, hc6⟩
            have HTJ6 := Lib.hid (HTJ5.out.of hf6 hc6)
            have HOW := Lib.hid HTJ6.out.row
            have hsz6 := HTJ6.out.fr.size
            obtain ⟨tv, HTV⟩ := nameIt (tC g S N n A k)
            rw [HTV.out]
            clear hf6 hc6 hc5
            go_wp2_with (at_builtin; refine wp_app1at elInt rfl _ _ rfl HOW.out rfl rfl (by simp) rfl rfl (by omega) (by unfold maxLen; omega) (by omega) ?_)
            intro v7 w7 ho7 hg7 hat7
            obtain ⟨a7, c7, rfl, -, -⟩ := own_len ho7
            have HTJ7 : Hid (TJ g (.slice ra rl rcap) N n d S w1 w3 A (k + 1) (.slice a7 (k + 1) c7) w7) := HTJ6.out.add (by rw [HTV.out]; exact ho7) hg7
            clear ho7 hg7 hat7
            go_wp2_with fail
            go_roundg (m - (k + 1))
            case measure => omega
            case rel => exact ⟨k + 1, a7, c7, by omega, by omega, rfl, by go_num, HTJ7⟩
          · have hkm' : ¬ (k : Int) < (m : Int) := by omega
            have hkk : k = n + 1 := by have := HM.out; omega
            have HRO := Lib.hid (HTI.out.fin HTJ.out)
            obtain ⟨xs, hx1, hx2⟩ := HRO.out.own
            rw [List.length_map, tabC_len] at hx1
            have HX1 := Lib.hid hx1
            have HX2 := Lib.hid hx2
            have hszB := HRO.out.le
            have HTJ8 : Hid (TJ g (.slice ra rl rcap) N n d S w1 w3 A (n + 1) (.slice b k f) w4) := by have := HTJ.out; rw [hkk] at this ⊢; exact this
            clear hkk hx1 hx2 HTJ
            go_wp2_with (at_builtin; refine wp_app1at elIntsC rfl _ _ rfl HX1.out rfl rfl (by simp) rfl rfl (by omega) (by unfold maxLen; omega) (by omega) ?_)
            intro v7 w7 ho7 hg7 hat7
            obtain ⟨a7, c7, rfl, -, -⟩ := own_len ho7
            have HTI7 : Hid (TI g (.slice ra rl rcap) N n d S w1 B (A + 1) (.slice a7 (A + 1) c7) w7) := HTI.out.add HTJ8.out HX1.out HX2.out ho7 hg7 hat7
            clear ho7 hg7 hat7
            go_wp2_with fail
            go_roundg (N - (A + 1))
            case measure => omega
            case rel => exact ⟨A + 1, a7, c7, by omega, by omega, rfl, by go_num, HTI7⟩
      · have hAN' : ¬ (A : Int) < (N : Int) := by omega
        have hAA : A = N := by omega
        have HE : Hid (PST (.returned (.tuple #[.slice a A c, .int .i64 0])) w3) := by
          have h := HTI.out
          rw [hAA] at h ⊢
          obtain ⟨C, hc⟩ := h.cs
          exact HFIN.out S a c w3 (HB1.out.trans (hc.bel.mono HB1.out.size)) HDN.out (h.row.rd.mono fun _ _ _ => trivial)
        clear hAA
        go_wp2_with fail
        first | exact HE.out | (refine bodyPost_ret (results_tmp2 Try.results9 _ _ _) rfl ?_; exact HE.out)
  · have HFIN : Hid (∀ w', Below w0.heap.size w0 w' → PST (.returned (.tuple #[.slice none 0 0, .int .i64 (errC g n)])) w') := by
      intro w' h1
      rw [← HP.out]
      exact ⟨hb0.trans (h1.mono hb0.size), .inl ⟨he, rfl⟩⟩
    obtain ⟨c, HC⟩ := nameIt (errC g n)
    rw [HC.out] at he HFIN HCK
    have b1 : (c != 0) = true := by simpa using he
    obtain ⟨x0, x1, x2, x3⟩ := bx_cells4 X0.out
    clear hb0 hr HP
    go_enter Try.func9, Try.ntmps9
    go_upto_region 1 with fail
    rw [HW0.out]
    go_wp2_with fail
    with_reducible refine HCK.out.mono ?_
    rintro e w1 ⟨rfl, hb1⟩
    have HF := Lib.hid (HFIN.out w1 hb1)
    clear hb1 HFIN x0 x1 x2 x3
    go_wp2_with fail
    first | exact HF.out | (refine bodyPost_ret (results_tmp2 Try.results9 _ _ _) rfl ?_; exact HF.out)
end Cs
end Go.Proofs.Ytbnpemgmdnghgaa
namespace Go.Proofs.Ytbnpemgmdnghgaa
open Go.RowKit
namespace Cs

theorem rowI_at {S : Nat → Prop} {w : World} {l : List (List Int)} {a : Option Addr} {n cap i : Nat} (h : Rd S w (.sl (l.map D.ints)) [.slice a n cap]) (hi : i < l.length) :
    ∃ b off v, a = some ⟨b, off, none⟩ ∧ w.cell? ⟨b, off + i, none⟩ = some v ∧ Sl w v (ints l[i]) := by
  obtain ⟨b, off, cs, ha, hS, hb, hr, hl, hc⟩ := Rd.at (k := 1) h (by intro d hd; rw [List.mem_map] at hd; obtain ⟨x, _, rfl⟩ := hd; rfl) (by omega) (i := i) (by simpa using hi)
  rw [List.getElem_map] at hr
  obtain ⟨v, rfl⟩ : ∃ v, cs = [v] := by
    match cs, hl with
    | [v], _ => exact ⟨v, rfl⟩
  have h0 := hc 0 (by simp)
  exact ⟨b, off, v, ha, by simpa using h0, sl_rd hr⟩


def totV : List Int → Int → Int
  | [], s => s
  | x :: l, s => if x = -1 then -1 else totV l (min (IntKind.i64.wrap (s + x)) MaxC)
theorem totV_at {l : List Int} {i : Nat} (h : i < l.length) (s : Int) : totV (l.drop i) s = if l[i] = -1 then -1 else totV (l.drop (i + 1)) (min (IntKind.i64.wrap (s + l[i])) MaxC) := by
  rw [List.drop_eq_getElem_cons h, totV]
def TotalPost (g : Gram) (n : Int) (w : World) (e : Ending) (w' : World) : Prop :=
  Below w.heap.size w w' ∧ ((errC g n ≠ 0 ∧ e = .returned (.tuple #[.int .i64 0, .int .i64 (errC g n)])) ∨
    (errC g n = 0 ∧ ∃ (N n' : Nat) (S : Nat → Nat → Bool), OkC g N ∧ n = (n' : Int) ∧ n' ≤ 24 ∧ DoneC g n' S ∧ e = .returned (.tuple #[.int .i64 (totV (rowC g S N n' g.start.toNat (n' + 1)) 0), .int .i64 0])))
set_option maxHeartbeats 8000000 in
set_option maxRecDepth 100000 in
theorem totalE (g : Gram) (ra : Option Addr) (rcap : Nat) (n : Int) (w : World) (hr : Rd AnyB w (.sl (g.rules.map Rule.d)) [.slice ra g.rules.length rcap]) :
    Calls Try.prog 7 #[.agg #[.int .i64 g.terms, .int .i64 g.nons, .int .i64 g.start, .slice ra g.rules.length rcap], .int .i64 n] w (TotalPost g n w) := by
  obtain ⟨w0, HW0⟩ := nameIt (w.alloc (.cells #[.int .i64 g.terms, .int .i64 g.nons, .int .i64 g.start, .slice ra g.rules.length rcap] 24))
  have hb0 : Below w.heap.size w w0 := by rw [← HW0.out]; exact (Below.refl _ _).alloc (Nat.le_refl _) _
  have X0 : Hid (w0.heap[w.heap.size]? = some (.cells #[.int .i64 g.terms, .int .i64 g.nons, .int .i64 g.start, .slice ra g.rules.length rcap] 24 (0, 0))) := by rw [← HW0.out]; exact bx_new _ _ _ rfl
  have HTR := Lib.hid (treesE g ra rcap n w0 (hr.below hb0))
  obtain ⟨PST, HP⟩ := nameIt (TotalPost g n w)
  rw [HP.out]
  have HE1 : Hid (errC g n ≠ 0 → ∀ w', Below w0.heap.size w0 w' → PST (.returned (.tuple #[.int .i64 0, .int .i64 (errC g n)])) w') := by
    intro he w' h
    rw [← HP.out]
    exact ⟨hb0.trans (h.mono hb0.size), .inl ⟨he, rfl⟩⟩
  have HE2 : Hid (∀ (N n' : Nat) (S : Nat → Nat → Bool) w', errC g n = 0 → OkC g N → n = (n' : Int) → n' ≤ 24 → DoneC g n' S → Below w0.heap.size w0 w' → PST (.returned (.tuple #[.int .i64 (totV (rowC g S N n' g.start.toNat (n' + 1)) 0), .int .i64 0])) w') := by
    intro N n' S w' h1 h2 h3 h4 h5 h6
    rw [← HP.out]
    exact ⟨hb0.trans (h6.mono hb0.size), .inr ⟨h1, N, n', S, h2, h3, h4, h5, rfl⟩⟩
  obtain ⟨gt, HGT⟩ := nameIt g.terms
  obtain ⟨gn, HGN⟩ := nameIt g.nons
  obtain ⟨rl, HRL⟩ := nameIt g.rules.length
  rw [HGT.out, HGN.out, HRL.out] at HW0 X0 HTR
  rw [HGT.out, HGN.out, HRL.out]
  obtain ⟨x0, x1, x2, x3⟩ := bx_cells4 X0.out
  clear hb0 hr HP
  go_enter Try.func7, Try.ntmps7
  go_upto_region 1 with fail
  rw [HW0.out]
  go_wp2_with fail
  with_reducible refine HTR.out.mono ?_
  clear x0 x1 x2 x3
  rintro e w1 ⟨hb1, ⟨he, rfl⟩ | ⟨he, N, n', S, a, c, hok, hn, hn24, hdn, rfl, hrd⟩⟩
  · have HF := Lib.hid (HE1.out he w1 hb1)
    clear hb1 HE1 HE2
    obtain ⟨c, HC⟩ := nameIt (errC g n)
    rw [HC.out] at HF he
    rw [HC.out]
    have b1 : (c != 0) = true := by simpa using he
    go_wp2_with fail
    first | exact HF.out | (refine bodyPost_ret (results_tmp2 Try.results7 _ _ _) rfl ?_; exact HF.out)
  · have hs0 := hok.s0
    have hs1 := hok.s1
    obtain ⟨st, hst⟩ := Int.eq_ofNat_of_zero_le hs0
    have hstt : g.start.toNat = st := by omega
    have hstN : st < N := by omega
    have HF := Lib.hid (HE2.out N n' S w1 he hok hn hn24 hdn hb1)
    rw [hstt] at HF
    have X1 := Lib.hid (bx_keep X0.out hb1)
    rw [hst] at X1
    obtain ⟨b, off, vr, hae, c0, hsl⟩ := rowI_at hrd (i := st) (by rw [tabC_len]; exact hstN)
    have hrow : (tabC g S N n' N)[st]'(by rw [tabC_len]; exact hstN) = rowC g S N n' st (n' + 1) := by simp [tabC]
    rw [hrow] at hsl
    obtain ⟨L, HL⟩ := nameIt (rowC g S N n' st (n' + 1))
    have hLl : L.length = n' + 1 := by rw [← HL.out, rowC_len]
    rw [HL.out] at hsl HF
    obtain ⟨ar, cr, rfl⟩ := hsl.form
    have hsll := hsl.len
    rw [ints_len] at c0 hsl hsll
    obtain ⟨br, orr, hae2, hcell⟩ := hsl.at (k := 0) (by omega)
    subst hae
    have HCELL : Hid (∀ i, (h : i < L.length) → w1.cell? ⟨br, orr + i, none⟩ = some (.int .i64 L[i])) := fun i h => by
      have := hcell i (by rw [ints_len]; exact h)
      rwa [ints_get] at this
    subst hae2
    obtain ⟨ll, HLL⟩ := nameIt L.length
    rw [HLL.out] at c0 hLl hsll
    have hst1 : (st : Int) < (N : Int) := by omega
    have hst0 : (0 : Int) ≤ (st : Int) := by omega
    obtain ⟨x0, x1, x2, x3⟩ := bx_cells4 X1.out
    obtain ⟨hlc1, hlc2, hlc3⟩ := hsll
    unfold maxLen at hlc3
    have HT0 : Hid (totV L 0 = totV (L.drop 0) 0) := rfl
    clear hsl hcell hrd hb1 hn hdn hok HE1 HE2 hs0 hs1 hst hstt hrow
    go_wp2_with fail
    clear x0 x1 x2 x3 c0
    go_loopg [8, 26] ll (fun gg v8 v26 wr => ∃ (i : Nat) (s : Int), i ≤ ll ∧ ll - i ≤ gg ∧ v8 = .int .i64 s ∧ v26 = .int .i64 i ∧ wr = w1 ∧ Hid (totV L 0 = totV (L.drop i) s))
    case atStart => exact ⟨0, 0, by omega, by omega, rfl, rfl, rfl, HT0⟩
    case round =>
      clear HT0
      obtain ⟨i, s, hi, hg, rfl, rfl, rfl, HT⟩ := hrel
      by_cases hlt : i < ll
      · have hlt' : (i : Int) < (ll : Int) := by omega
        have hi0 : (0 : Int) ≤ (i : Int) := by omega
        have hiL : i < L.length := by rw [HLL.out]; exact hlt
        have q0 := HCELL.out i hiL
        have HT1 : Hid (totV L 0 = if L[i] = -1 then -1 else totV (L.drop (i + 1)) (min (IntKind.i64.wrap (s + L[i])) MaxC)) := HT.out.trans (totV_at hiL s)
        obtain ⟨x, HX⟩ := nameIt (L[i]'hiL)
        rw [HX.out] at q0 HT1
        by_cases hx : x = -1
        · subst hx
          have HT2 : Hid (totV L 0 = -1) := by show _ = _; rw [HT1.out]; rfl
          rw [HT2.out] at HF
          go_wp2_with fail
          first | exact HF.out | (refine bodyPost_ret (results_tmp2 Try.results7 _ _ _) rfl ?_; exact HF.out)
        · have hxb : (x == -1) = false := by simpa using hx
          have HT2 : Hid (totV L 0 = totV (L.drop (i + 1)) (min (IntKind.i64.wrap (s + x)) 1000000000)) := by show _ = _; rw [HT1.out, if_neg hx]; rfl
          obtain ⟨s1, HS1⟩ := nameIt (min (IntKind.i64.wrap (s + x)) 1000000000)
          rw [HS1.out] at HT2
          have hmin : min (IntKind.i64.wrap (s + x)) 1000000000 = s1 := HS1.out
          clear hx
          go_wp2_with fail
          go_roundg (ll - (i + 1))
          case measure => omega
          case rel => exact ⟨i + 1, s1, by omega, by omega, by first | rfl | (rw [← HS1.out, IntKind.wrap_i64]; first | rfl | simp [wrap64]), by go_num, rfl, HT2⟩
      · have hlt' : ¬ (i : Int) < (ll : Int) := by omega
        have HT2 : Hid (totV L 0 = s) := by
          show _ = _; rw [HT.out, List.drop_of_length_le (by rw [HLL.out]; omega)]; rfl
        rw [HT2.out] at HF
        go_wp2_with fail
        first | exact HF.out | (refine bodyPost_ret (results_tmp2 Try.results7 _ _ _) rfl ?_; exact HF.out)
end Cs
end Go.Proofs.Ytbnpemgmdnghgaa
namespace Go.Proofs.Ytbnpemgmdnghgaa
open Go.RowKit
namespace Cs

/-- a counter in memory that may count -/
def CntR (g : Gram) (vr : Value) (N n : Nat) (d : Cid) (S : Nat → Nat → Bool) (w1 : World) (W : World) : Prop :=
  ∃ C, CS g vr N n d S (MK g.rules S N n) (valK g.rules S (MK g.rules S N n) MaxC (-1) (sizeK N n)) w1 C W
/-- the number of trees of the start symbol -/
def startC (g : Gram) (S : Nat → Nat → Bool) (N n : Nat) : Int := tC g S N n g.start.toNat n
def CntPost (g : Gram) (vr : Value) (n : Int) (w : World) (e : Ending) (w' : World) : Prop :=
  Below w.heap.size w w' ∧ ((errC g n ≠ 0 ∧ e = .returned (.tuple #[.pointer none, .int .i64 0, .int .i64 (errC g n)])) ∨
    (errC g n = 0 ∧ ∃ (N n' : Nat) (S : Nat → Nat → Bool), OkC g N ∧ n = (n' : Int) ∧ n' ≤ 24 ∧ DoneC g n' S ∧
      ((startC g S N n' = -1 ∧ e = .returned (.tuple #[.pointer none, .int .i64 0, .int .i64 9])) ∨
       (startC g S N n' ≠ -1 ∧ MaxC ≤ startC g S N n' ∧ e = .returned (.tuple #[.pointer none, .int .i64 0, .int .i64 2])) ∨
       (startC g S N n' ≠ -1 ∧ startC g S N n' < MaxC ∧ ∃ (d : Cid) (w1 : World), e = .returned (.tuple #[.pointer (some ⟨d.cb, 0, none⟩), .int .i64 (startC g S N n'), .int .i64 0]) ∧ Below w.heap.size w w1 ∧ CntR g vr N n' d S w1 w'))))
theorem start_off (g : Gram) (N : Nat) (h : OkC g N) : ∃ A : Nat, g.start = (A : Int) ∧ A < N := ⟨g.start.toNat, by have := h.s0; omega, by have := h.s0; have := h.s1; omega⟩

set_option maxHeartbeats 8000000 in
set_option maxRecDepth 100000 in
theorem countE (g : Gram) (ra : Option Addr) (rcap : Nat) (n : Int) (w : World) (hr : Rd AnyB w (.sl (g.rules.map Rule.d)) [.slice ra g.rules.length rcap]) :
    Calls Try.prog 36 #[.agg #[.int .i64 g.terms, .int .i64 g.nons, .int .i64 g.start, .slice ra g.rules.length rcap], .int .i64 n] w (CntPost g (.slice ra g.rules.length rcap) n w) := by
  obtain ⟨w0, HW0⟩ := nameIt (w.alloc (.cells #[.int .i64 g.terms, .int .i64 g.nons, .int .i64 g.start, .slice ra g.rules.length rcap] 24))
  have hb0 : Below w.heap.size w w0 := by rw [← HW0.out]; exact (Below.refl _ _).alloc (Nat.le_refl _) _
  have X0 : Hid (w0.heap[w.heap.size]? = some (.cells #[.int .i64 g.terms, .int .i64 g.nons, .int .i64 g.start, .slice ra g.rules.length rcap] 24 (0, 0))) := by rw [← HW0.out]; exact bx_new _ _ _ rfl
  have HTR := Lib.hid (totalE g ra rcap n w0 (hr.below hb0))
  have HRD := Lib.hid (hr.below hb0)
  obtain ⟨PST, HP⟩ := nameIt (CntPost g (.slice ra g.rules.length rcap) n w)
  rw [HP.out]
  have HE1 : Hid (errC g n ≠ 0 → ∀ w', Below w0.heap.size w0 w' → PST (.returned (.tuple #[.pointer none, .int .i64 0, .int .i64 (errC g n)])) w') := by
    intro he w' h
    rw [← HP.out]
    exact ⟨hb0.trans (h.mono hb0.size), .inl ⟨he, rfl⟩⟩
  have HE2 : Hid (∀ (N n' : Nat) (S : Nat → Nat → Bool) (d : Cid) w1 w', errC g n = 0 → OkC g N → n = (n' : Int) → n' ≤ 24 → DoneC g n' S → Below w0.heap.size w0 w1 → CntR g (.slice ra g.rules.length rcap) N n' d S w1 w' →
      (startC g S N n' = -1 → PST (.returned (.tuple #[.pointer none, .int .i64 0, .int .i64 9])) w') ∧ (startC g S N n' ≠ -1 → MaxC ≤ startC g S N n' → PST (.returned (.tuple #[.pointer none, .int .i64 0, .int .i64 2])) w') ∧
      (startC g S N n' ≠ -1 → startC g S N n' < MaxC → PST (.returned (.tuple #[.pointer (some ⟨d.cb, 0, none⟩), .int .i64 (startC g S N n'), .int .i64 0])) w')) := by
    intro N n' S d w1 w' h1 h2 h3 h4 h5 h6 h7
    rw [← HP.out]
    have hB1 : Below w.heap.size w w1 := hb0.trans (h6.mono hb0.size)
    have hB2 : Below w.heap.size w w' := by
      obtain ⟨C, hc⟩ := h7
      exact hB1.trans (hc.bel.mono hB1.size)
    exact ⟨fun h => ⟨hB2, .inr ⟨h1, N, n', S, h2, h3, h4, h5, .inl ⟨h, rfl⟩⟩⟩, fun h h' => ⟨hB2, .inr ⟨h1, N, n', S, h2, h3, h4, h5, .inr (.inl ⟨h, h', rfl⟩)⟩⟩, fun h h' => ⟨hB2, .inr ⟨h1, N, n', S, h2, h3, h4, h5, .inr (.inr ⟨h, h', d, w1, rfl, hB1, h7⟩)⟩⟩⟩
  have HMK : Hid (∀ (N n' : Nat) W, OkC g N → n' ≤ 24 → Below w0.heap.size w0 W → Calls Try.prog 28 #[.agg #[.int .i64 g.terms, .int .i64 g.nons, .int .i64 g.start, .slice ra g.rules.length rcap], .int .i64 (n' : Int)] W (MadeC g (.slice ra g.rules.length rcap) N n' W)) :=
    fun N n' W hok hn24 hb => makeE hok.nons hok.n1 hok.n2 hn24 hok.r hok.l W (HRD.out.below hb)
  have HOF : Hid (∀ (N n : Nat) (w1 : World) (d : Cid) (S : Nat → Nat → Bool) (C : Nat → Nat → Int) (A k : Nat) (W : World), OkC g N → n ≤ 24 → Below w0.heap.size w0 w1 → A < N → k ≤ n → CS g (.slice ra g.rules.length rcap) N n d S (MK g.rules S N n) (valK g.rules S (MK g.rules S N n) MaxC (-1) (sizeK N n)) w1 C W →
      Calls Try.prog 29 #[.pointer (some ⟨d.cb, 0, none⟩), .agg #[.bool false, .int .i64 (A : Int)], .int .i64 (k : Int)] W (OfPost g (.slice ra g.rules.length rcap) N n d S (MK g.rules S N n) (valK g.rules S (MK g.rules S N n) MaxC (-1) (sizeK N n)) w1 (tC g S N n A k) W)) := by
    intro N n w1 d S C A k W hok hn24 hb hA hk hc
    have := ofE (d := d) (w0 := w1) (n := n) (by omega) (by have := hok.n2; omega) hok.r (ends_MK (rules := g.rules) (S := S) (N := N) (n := n) hok.r) (HRD.out.below hb) (sizeK N n + 1) ⟨false, (A : Int)⟩ k C W (fun _ => ⟨by simp, by simpa using hA⟩) hk (fun _ => okK_all _ _ _ (Nat.lt_succ_self _)) hc
    exact this
  have HST : Hid (∀ N, OkC g N → ∃ A : Nat, g.start = (A : Int) ∧ A < N) := fun N h => start_off g N h
  have HSC : Hid (∀ (S : Nat → Nat → Bool) N n A, g.start = ((A : Nat) : Int) → startC g S N n = tC g S N n A n) := by
    intro S N n A h; show tC _ _ _ _ _ _ = _; rw [h]; rfl
  obtain ⟨gt, HGT⟩ := nameIt g.terms
  obtain ⟨gn, HGN⟩ := nameIt g.nons
  obtain ⟨gs, HGS⟩ := nameIt g.start
  obtain ⟨rl, HRL⟩ := nameIt g.rules.length
  rw [HGT.out, HGN.out, HGS.out, HRL.out] at HW0 X0 HTR HMK
  rw [HRL.out] at HOF HE2
  rw [HGS.out] at HST HSC
  rw [HGT.out, HGN.out, HGS.out, HRL.out]
  obtain ⟨x0, x1, x2, x3⟩ := bx_cells4 X0.out
  clear hb0 hr HP
  go_enter Try.func36, Try.ntmps36
  go_upto_region 1 with fail
  rw [HW0.out]
  go_wp2_with fail
  with_reducible refine HTR.out.mono ?_
  clear x0 x1 x2 x3
  rintro e w1 ⟨hb1, ⟨he, rfl⟩ | ⟨he, N, n', S0, hok, rfl, hn24, hdn, rfl⟩⟩
  · have HF := Lib.hid (HE1.out he w1 hb1)
    clear hb1 HE1 HE2
    obtain ⟨c, HC⟩ := nameIt (errC g n)
    rw [HC.out] at HF he
    rw [HC.out]
    have b1 : (c != 0) = true := by simpa using he
    go_wp2_with fail
    first | exact HF.out | (refine bodyPost_ret (results_tmp3 Try.results36 _ _ _) rfl ?_; exact HF.out)
  · have HB1 := Lib.hid hb1
    have X1 := Lib.hid (bx_keep X0.out hb1)
    obtain ⟨x0, x1, x2, x3⟩ := bx_cells4 X1.out
    have HMK1 := Lib.hid (HMK.out N n' w1 hok hn24 hb1)
    have HOK := Lib.hid hok
    have HN24 := Lib.hid hn24
    have HER := Lib.hid he
    obtain ⟨tv, HTV⟩ := nameIt (totV (rowC g S0 N n' g.start.toNat (n' + 1)) 0)
    rw [HTV.out]
    clear hb1 hok hn24 he hdn HE1 HTR HTV
    go_wp2_with fail
    with_reducible refine HMK1.out.mono ?_
    clear x0 x1 x2 x3
    rintro e w2 ⟨d, S, rfl, hq, hp3, hci, hb2, hlo⟩
    have HDN : Hid (DoneC g n' S) := ⟨hq, hp3⟩
    obtain ⟨x0, x1, x2, x3⟩ := bx_cells4 (bx_keep X1.out hb2)
    have HCS : Hid (CS g (.slice ra rl rcap) N n' d S (MK g.rules S N n') (valK g.rules S (MK g.rules S N n') MaxC (-1) (sizeK N n')) w1 (fun _ _ => -1) w2) := ⟨by rw [← HRL.out]; rw [← HRL.out] at hci; exact hci, fun _ _ _ _ => .inl rfl, hb2, hlo⟩
    obtain ⟨A, hA, hAN⟩ := HST.out N HOK.out
    have HSC1 := Lib.hid (HSC.out S N n' A hA)
    rw [hA] at x2
    clear hq hp3 hci hb2 hlo
    go_wp2_with fail
    with_reducible refine (gramN _ _).mono ?_
    rintro e w3 ⟨rfl, hb3⟩
    have HCS3 := Lib.hid (HCS.out.keep hb3)
    have HOF3 := Lib.hid (HOF.out N n' w1 d S _ A n' w3 HOK.out HN24.out HB1.out hAN (Nat.le_refl _) HCS3.out)
    clear hb3 x0 x1 x2 x3
    go_wp2_with fail
    with_reducible refine HOF3.out.mono ?_
    rintro e w4 ⟨rfl, hf4, hc4⟩
    obtain ⟨HF1, HF2, HF3⟩ := HE2.out N n' S d w1 w4 HER.out HOK.out rfl HN24.out HDN.out HB1.out hc4
    have G1 := Lib.hid HF1
    have G2 := Lib.hid HF2
    have G3 := Lib.hid HF3
    rw [HSC1.out] at G1 G2 G3
    obtain ⟨k, HK⟩ := nameIt (tC g S N n' A n')
    rw [HK.out] at G1 G2 G3
    rw [HK.out]
    clear HF1 HF2 HF3 hf4 hc4 hA hAN
    by_cases h1 : k = -1
    · subst h1
      have HF := Lib.hid (G1.out rfl)
      clear G1 G2 G3
      go_wp2_with fail
      first | exact HF.out | (refine bodyPost_ret (results_tmp3 Try.results36 _ _ _) rfl ?_; exact HF.out)
    · have b1 : (k == -1) = false := by simpa using h1
      by_cases h2 : MaxC ≤ k
      · have b2 : decide ((1000000000 : Int) ≤ k) = true := by simpa [MaxC] using h2
        have HF := Lib.hid (G2.out h1 h2)
        clear G1 G2 G3 h1 h2
        go_wp2_with fail
        first | exact HF.out | (refine bodyPost_ret (results_tmp3 Try.results36 _ _ _) rfl ?_; exact HF.out)
      · have b2 : decide ((1000000000 : Int) ≤ k) = false := by simpa [MaxC] using h2
        have HF := Lib.hid (G3.out h1 (by omega))
        clear G1 G2 G3 h1 h2
        go_wp2_with fail
        first | exact HF.out | (refine bodyPost_ret (results_tmp3 Try.results36 _ _ _) rfl ?_; exact HF.out)
end Cs
end Go.Proofs.Ytbnpemgmdnghgaa
namespace Go.Proofs.Ytbnpemgmdnghgaa
open Go.RowKit

/-- the word of a list of nodes -/
def leavesOf (l : List Tree) : List Int := l.filterMap fun t => if t.rule = -1 then some t.term else none
def rulesOf (l : List Tree) : List Int := l.map Tree.rule
theorem leavesOf_le (l : List Tree) : (leavesOf l).length ≤ l.length := List.length_filterMap_le _ _

/-- numbers that a function gathers in a captured slice -/
def GatherI (f : List Tree → List Int) (w0 : World) (nb : Nat) (s : List Tree) (S : Nat → Prop) (W : World) : Prop :=
  Below w0.heap.size w0 W ∧ w0.heap.size ≤ nb ∧ ∃ v, W.heap[nb]? = some (.cells #[v] 33 (0, 0)) ∧ W.ownsRow w0.heap.size 3 1 v (f s).length (ints (f s)) ∧ v.ownBlock ≠ some nb ∧ ∀ k, S k ↔ (k = nb ∨ v.ownBlock = some k)

theorem gather_own {f : List Tree → List Int} {w0 : World} {nb : Nat} {s : List Tree} {S : Nat → Prop} {W : World} (h : GatherI f w0 nb s S W) : ∀ k, S k → w0.heap.size ≤ k ∧ k < W.heap.size := by
  intro k hk
  obtain ⟨h1, h2, v, h3, h4, h5, h6⟩ := h
  rw [h6] at hk
  rcases hk with rfl | hk
  · exact ⟨h2, (Array.getElem?_eq_some_iff.1 h3).1⟩
  · exact h4.lt k hk
theorem gather_keep {f : List Tree → List Int} {w0 : World} {nb : Nat} {s : List Tree} {S : Nat → Prop} {W W' : World} (h : GatherI f w0 nb s S W) (hb : Below W.heap.size W W') : GatherI f w0 nb s S W' := by
  obtain ⟨h1, h2, v, h3, h4, h5, h6⟩ := h
  exact ⟨h1.trans (hb.mono h1.size), h2, v, bx_keep h3 hb, own_keep h4 hb, h5, h6⟩

/-- the state behind an append of x: W: before, W1: behind the append, then the store into the captured variable -/
theorem gather_step {f : List Tree → List Int} {w0 : World} {nb : Nat} {s s' : List Tree} {S : Nat → Prop} {W W0 W1 : World} {v v' : Value} {x : Int} (hf : f s' = f s ++ [x])
    (h1 : Below w0.heap.size w0 W) (h2 : w0.heap.size ≤ nb) (h3 : W.heap[nb]? = some (.cells #[v] 33 (0, 0))) (h4 : W.ownsRow w0.heap.size 3 1 v (f s).length (ints (f s))) (h5 : v.ownBlock ≠ some nb) (h6 : ∀ k, S k ↔ (k = nb ∨ v.ownBlock = some k))
    (hb : Below W.heap.size W W0) (ho : W1.ownsRow w0.heap.size 3 1 v' ((f s).length + 1) (ints (f s) ++ [.int .i64 x])) (hg : W0.grownBy W1 v.ownBlock) (hat : v'.ownBlock = v.ownBlock ∨ ∃ k, v'.ownBlock = some k ∧ W0.heap.size ≤ k) :
    ∃ S', GatherI f w0 nb s' S' (W1.setCell ⟨nb, 0, none⟩ v') ∧ Keeps S W (W1.setCell ⟨nb, 0, none⟩ v') ∧ ∀ k, S' k → S k ∨ W.heap.size ≤ k := by
  have hnb := (Array.getElem?_eq_some_iff.1 h3).1
  have h3' := bx_keep h3 hb
  have hnb' := (Array.getElem?_eq_some_iff.1 h3').1
  have hne' : v'.ownBlock ≠ some nb := by
    rcases hat with e | ⟨k, e, hk⟩
    · rw [e]; exact h5
    · rw [e]; intro e; cases e; omega
  have h3'' : W1.heap[nb]? = some (.cells #[v] 33 (0, 0)) := by rw [hg.block nb hnb' (fun e => h5 e.symm)]; exact h3'
  have hbel : Below w0.heap.size w0 W1 := (h1.trans (hb.mono h1.size)).grown hg (Nat.le_trans h1.size hb.size) (fun k e => (h4.lt k e).1)
  refine ⟨fun k => k = nb ∨ v'.ownBlock = some k, ⟨hbel.setCell h2 _, h2, v', ?_, ?_, hne', fun _ => Iff.rfl⟩, ?_, ?_⟩
  · rw [bx_set h3'']; rfl
  · rw [hf]
    have e : ints (f s ++ [x]) = ints (f s) ++ [.int .i64 x] := by simp [ints]
    rw [e, List.length_append]
    exact ho.kept (grown_cell W1 ⟨nb, 0, none⟩ v') (.inr (by exact hne'))
  · refine ⟨hg.os.trans hb.os, hg.tape.trans hb.tape, hg.output.trans hb.output, by simp [World.setCell]; exact Nat.le_trans hb.size hg.size, fun k hk hn => ?_⟩
    rw [h6] at hn
    have k1 : k ≠ nb := fun e => hn (.inl e)
    have k2 : v.ownBlock ≠ some k := fun e => hn (.inr e)
    rw [Below.heap_setCell _ _ _ _ k1, hg.block k (Nat.lt_of_lt_of_le hk hb.size) (fun e => k2 e.symm), hb.block k hk]
  · rintro k (rfl | hk)
    · exact .inl ((h6 k).2 (.inl rfl))
    · rcases hat with e | ⟨j, e, hj⟩
      · exact .inl ((h6 k).2 (.inr (by rw [← e]; exact hk)))
      · rw [e] at hk; cases hk; exact .inr (by have := hb.size; omega)

set_option maxHeartbeats 400000 in
theorem wordF (w0 : World) (nb N : Nat) (hN : N * 8 ≤ 140737488355328) : NodeFn 42 #[.pointer (some ⟨nb, 0, none⟩)] w0 (fun _ => true) N (GatherI leavesOf w0 nb) where
  below := fun h => h.1
  own := gather_own
  keep := gather_keep
  call := by
    intro s S W t v h hv hs
    obtain ⟨a, n, cap, rfl⟩ := treeBox hv
    have HI := Lib.hid h
    obtain ⟨h1, h2, u, h3, h4, h5, h6⟩ := h
    have H1 := Lib.hid h1
    have H3 := Lib.hid h3
    have H4 := Lib.hid h4
    have H5 := Lib.hid h5
    have H6 := Lib.hid h6
    have c0 := bx_cells1 h3
    have f0 := bx_free1 h3
    have hlt := (Array.getElem?_eq_some_iff.1 h3).1
    have hlen := leavesOf_le s
    obtain ⟨au, cu, rfl, hu1, hu2⟩ := own_len h4
    unfold maxLen at hu2
    clear h1 h3 h4 h5 h6 hv
    have hb := (Below.refl W.heap.size W).alloc (Nat.le_refl _) (.cells #[.int .i64 t.rule, .int .i64 t.term, .slice a n cap] 42)
    have HB := Lib.hid hb
    clear hb
    obtain ⟨r, HR⟩ := nameIt t.rule
    obtain ⟨tm, HT⟩ := nameIt t.term
    rw [HR.out, HT.out] at HB
    rw [HR.out, HT.out]
    by_cases hr : r = -1
    · subst hr
      have HE : Hid (leavesOf (s ++ [t]) = leavesOf s ++ [tm]) := by show _ = _; simp [leavesOf, HR.out, HT.out]
      go_enter Try.func42, Try.ntmps42
      go_wp2_with (at_builtin; refine wp_app1at elInt rfl _ _ rfl (own_keep H4.out HB.out) rfl rfl (by simp) rfl rfl (by omega) (by unfold maxLen; omega) (by have := H1.out.size; simp; omega) ?_)
      intro v' w' ho hg hat
      obtain ⟨a', c', rfl, -, -⟩ := own_len ho
      have HST := Lib.hid (gather_step HE.out H1.out h2 H3.out H4.out H5.out H6.out HB.out ho hg (by simpa using hat))
      have hnb' : nb < w'.heap.size := by have := hg.size; simp at this; omega
      have h3 : w'.heap[nb]? = some (.cells #[.slice au (leavesOf s).length cu] 33 (0, 0)) := by
        rw [hg.block nb (by simp; omega) (fun e => H5.out e.symm)]; exact bx_keep H3.out HB.out
      have f1 := bx_free1 h3
      have f2 := bx_cells1 h3
      clear ho hg hat h3
      go_wp2
      go_ret
      obtain ⟨S', i1, i2, i3⟩ := HST.out
      exact ⟨S', rfl, i1, i2, i3⟩
    · have hr' : (r == -1) = false := by simpa using hr
      have HE : Hid (leavesOf (s ++ [t]) = leavesOf s) := by show _ = _; simp [leavesOf, HR.out, hr]
      clear hr
      go_enter Try.func42, Try.ntmps42
      go_wp2
      go_ret
      refine ⟨S, rfl, ?_, Below.keeps HB.out, fun k h => .inl h⟩
      have := gather_keep HI.out HB.out
      unfold GatherI at this ⊢
      rw [HE.out]; exact this

def IntsPost (l : List Int) (w : World) (e : Ending) (w' : World) : Prop := ∃ v, e = .returned v ∧ Sl w' v (ints l) ∧ Below w.heap.size w w'

set_option maxHeartbeats 400000 in
theorem wordT (t : Tree) (v : Value) (w : World) (hv : Rd AnyB w (.sl (t.kids.map Tree.d)) [v]) (hN : (nodes t).length * 8 ≤ 140737488355328) :
    Calls Try.prog 20 #[.agg #[.int .i64 t.rule, .int .i64 t.term, v]] w (IntsPost (leavesOf (nodes t)) w) := by
  obtain ⟨a, n, cap, rfl⟩ := treeBox hv
  have hI : GatherI leavesOf w (w.heap.size + 1) [] (fun k => k = w.heap.size + 1 ∨ (Value.slice none 0 0).ownBlock = some k) ((w.alloc (.cells #[.int .i64 t.rule, .int .i64 t.term, .slice a n cap] 42)).alloc (.cells #[.slice none 0 0] 33)) :=
    ⟨((Below.refl _ _).alloc (Nat.le_refl _) _).alloc (by simp) _, by omega, _, bx_new _ _ _ (by simp), World.ownsRow_nil _ _ _ _, by simp [Value.ownBlock], fun _ => Iff.rfl⟩
  have hw := walkE 42 #[.pointer (some ⟨w.heap.size + 1, 0, none⟩)] w (fun _ => true) (nodes t).length _ (fun _ _ => by kernel_rfl) (wordF w (w.heap.size + 1) (nodes t).length hN) (nodes t).length t _ [] _ _ (Nat.le_refl _) hI hv (by simp)
  have HW := Lib.hid hw
  clear hw hI hv hN
  go_enter Try.func20, Try.ntmps20
  go_wp2_with fail
  refine HW.out.mono ?_
  rintro e w1 ⟨S', rfl, ⟨h1, h2, u, h3, h4, h7, h8⟩, h5, h6⟩
  rw [upTo_all (by simp)] at h4
  simp only [List.nil_append] at h4
  have c0 := bx_cells1 h3
  have HB := Lib.hid h1
  have HS := Lib.hid (sl_of_own h4)
  obtain ⟨a', c', rfl, -, -⟩ := own_len h4
  clear h1 h2 h3 h4 h5 h6 h7 h8
  go_wp2
  go_ret
  exact ⟨_, rfl, HS.out, HB.out⟩

end Go.Proofs.Ytbnpemgmdnghgaa
namespace Go.Proofs.Ytbnpemgmdnghgaa
open Go.RowKit
namespace Cs

/-- how many leaves a tree has -/
def wl (t : Tree) : Nat := (leavesOf (nodes t)).length
def wlp (ks : List Tree) (i : Nat) : Nat := (leavesOf (nodesL (ks.take i))).length
theorem leaves_app (a b : List Tree) : leavesOf (a ++ b) = leavesOf a ++ leavesOf b := by unfold leavesOf; rw [List.filterMap_append]
theorem wlp_zero (ks : List Tree) : wlp ks 0 = 0 := rfl
theorem wlp_next {ks : List Tree} {i : Nat} (h : i < ks.length) : wlp ks (i + 1) = wlp ks i + wl ks[i] := by
  unfold wlp wl
  rw [nodesL_take h, leaves_app, List.length_append]
theorem wlp_le (ks : List Tree) (i : Nat) : wlp ks i ≤ wlp ks ks.length := by
  unfold wlp
  rw [List.take_length]
  conv => rhs; rw [← List.take_append_drop i ks]
  rw [nodesL_append, leaves_app, List.length_append]
  omega
theorem wl_node {t : Tree} (h : t.rule ≠ -1) : wl t = wlp t.kids t.kids.length := by
  unfold wl wlp
  rw [nodes_eq, List.take_length]
  unfold kidsOf
  rw [if_neg h]
  have : leavesOf (t :: nodesL t.kids) = leavesOf (nodesL t.kids) := by
    unfold leavesOf
    rw [List.filterMap_cons, if_neg h]
  rw [this]
theorem wl_leaf {t : Tree} (h : t.rule = -1) : wl t = 1 := by
  unfold wl
  rw [nodes_eq]
  unfold kidsOf
  rw [if_pos h]
  simp [nodesL, leavesOf, h]
/-- every node of a tree is valid -/
def OkT (g : Gram) (t : Tree) : Prop := ∀ x ∈ nodes t, nodeOk g x = true
theorem OkT.kid {g : Gram} {t : Tree} (h : OkT g t) (hr : t.rule ≠ -1) {k : Tree} (hk : k ∈ t.kids) : OkT g k := by
  intro x hx
  refine h x ?_
  rw [nodes_eq]
  refine List.mem_cons_of_mem _ ?_
  unfold kidsOf
  rw [if_neg hr]
  obtain ⟨i, hi, rfl⟩ := List.getElem_of_mem hk
  rw [nodesL_split hi]
  exact List.mem_append_right _ (List.mem_append_left _ hx)
theorem OkT.size {t : Tree} (hr : t.rule ≠ -1) {i : Nat} (hi : i < t.kids.length) : (nodes t.kids[i]).length < (nodes t).length := by
  rw [nodes_eq t]
  unfold kidsOf
  rw [if_neg hr, nodesL_split hi]
  simp
  omega
theorem OkT.cases {g : Gram} {t : Tree} (h : OkT g t) : t.rule = -1 ∨ ∃ (j : Nat) (hj : j < g.rules.length), t.rule = (j : Int) ∧ t.kids.length = g.rules[j].right.length := by
  have h0 := h t (by rw [nodes_eq]; exact List.mem_cons_self)
  unfold nodeOk at h0
  by_cases h1 : t.rule = -1
  · exact .inl h1
  · rw [if_neg h1] at h0
    by_cases h2 : t.rule < 0
    · rw [if_pos h2] at h0; cases h0
    · rw [if_neg h2] at h0
      obtain ⟨j, hj⟩ := Int.eq_ofNat_of_zero_le (show 0 ≤ t.rule by omega)
      rw [hj, Int.toNat_natCast] at h0
      cases hg : g.rules[j]? with
      | none => rw [hg] at h0; cases h0
      | some r =>
        rw [hg] at h0
        obtain ⟨hjl, rfl⟩ := List.getElem?_eq_some_iff.1 hg
        simp only [Bool.and_eq_true, kidsOk, decide_eq_true_eq] at h0
        exact .inr ⟨j, hjl, hj, h0.2.1⟩
theorem bx_cells5c {w : World} {b : Nat} {x0 x1 x2 x3 x4 : Value} {T : TypeId} (h : w.heap[b]? = some (.cells #[x0, x1, x2, x3, x4] T (0, 0))) :
    w.cell? ⟨b, 0, none⟩ = some x0 ∧ w.cell? ⟨b, 0 + 1, none⟩ = some x1 ∧ w.cell? ⟨b, 0 + 2, none⟩ = some x2 ∧ w.cell? ⟨b, 0 + 3, none⟩ = some x3 ∧ w.cell? ⟨b, 0 + 4, none⟩ = some x4 := by
  refine ⟨?_, ?_, ?_, ?_, ?_⟩ <;> simp [World.cell?, h]
/-- the counter between calls; blocks of Wb but the counts stay -/
structure NI (g : Gram) (vr : Value) (N n : Nat) (d : Cid) (S : Nat → Nat → Bool) (w1 Wb W : World) : Prop where
  cs : CntR g vr N n d S w1 W
  fr : Fr N d Wb W
section
variable {g : Gram} {vr : Value} {N n : Nat} {d : Cid} {S : Nat → Nat → Bool} {w1 Wb W W' : World}
theorem CntR.keep (h : CntR g vr N n d S w1 W) (hb : Below W.heap.size W W') : CntR g vr N n d S w1 W' := by
  obtain ⟨C, hc⟩ := h
  exact ⟨C, hc.keep hb⟩
theorem CntR.bel (h : CntR g vr N n d S w1 W) : Below w1.heap.size w1 W := by obtain ⟨C, hc⟩ := h; exact hc.bel
theorem CntR.big (h : CntR g vr N n d S w1 W) {b : Nat} (hb : W.heap.size ≤ b) : ∀ a, a < N → d.rc a ≠ b := by obtain ⟨C, hc⟩ := h; exact hc.big hb
theorem CntR.over (h : CntR g vr N n d S w1 W) {b : Nat} (hb : d.cb < b) : ∀ a, a < N → d.rc a ≠ b := by
  obtain ⟨C, hc⟩ := h
  intro a ha e
  have := (hc.rc a ha).2
  omega
theorem CntR.low (h : CntR g vr N n d S w1 W) {b : Nat} (hb : b < w1.heap.size) : ∀ a, a < N → d.rc a ≠ b := by
  obtain ⟨C, hc⟩ := h
  intro a ha e
  have := (hc.rc a ha).1
  omega
theorem NI.start (h : CntR g vr N n d S w1 W) : NI g vr N n d S w1 W W := ⟨h, Fr.refl _ _ _⟩
theorem NI.keep (h : NI g vr N n d S w1 Wb W) (hb : Below W.heap.size W W') : NI g vr N n d S w1 Wb W' := ⟨h.cs.keep hb, h.fr.trans (Fr.of hb)⟩
theorem NI.of (h : NI g vr N n d S w1 Wb W) (hf : Fr N d W W') (hc : CntR g vr N n d S w1 W') : NI g vr N n d S w1 Wb W' := ⟨hc, h.fr.trans hf⟩
end
end Cs
end Go.Proofs.Ytbnpemgmdnghgaa
namespace Go.Proofs.Ytbnpemgmdnghgaa
open Go.RowKit
namespace Cs

/-- one step over the rules before -/
def ruleI (LV : List Sym → Nat → Int) (A : Int) (L : Nat) (x : Int) (q : Rule) : Int := if q.left = A then IntKind.i64.wrap (x + LV q.right L) else x
/-- one step over the shorter first trees -/
def posS (v : Nat → Int) (lv : Nat → Int) (rest : Nat) (x : Int) (p : Nat) : Int := if 0 < lv (rest - p) then IntKind.i64.wrap (x + IntKind.i64.wrap (v p * lv (rest - p))) else x
def posI (v : Nat → Int) (lv : Nat → Int) (rest m : Nat) (x : Int) : Int := (List.range m).foldl (posS v lv rest) x
def kidI (V : Sym → Nat → Int) (LV : List Sym → Nat → Int) (F : Tree → Int) : List Tree → List Sym → Int → Nat → Int
  | k :: ks, s :: ss, x, rest => kidI V LV F ks ss (IntKind.i64.wrap (posI (V s) (LV ss) rest (wl k) x + IntKind.i64.wrap (F k * LV ss (rest - wl k)))) (rest - wl k)
  | [], _, x, _ => x
  | _ :: _, [], x, _ => x
def rightI (rules : List Rule) (t : Tree) : Rule := (rules[t.rule.toNat]?).getD ⟨0, []⟩
def idxF (rules : List Rule) (V : Sym → Nat → Int) (LV : List Sym → Nat → Int) : Nat → Tree → Int
  | 0, _ => 0
  | f + 1, t => if t.rule = -1 then 0 else
      kidI V LV (idxF rules V LV f) t.kids (rightI rules t).right ((rules.take t.rule.toNat).foldl (ruleI LV (rightI rules t).left (wl t)) 0) (wl t)
theorem posI_next {v lv : Nat → Int} {rest m : Nat} {x : Int} : posI v lv rest (m + 1) x = posS v lv rest (posI v lv rest m x) m := by
  unfold posI; rw [List.range_succ, List.foldl_append]; rfl
theorem kidI_at {V : Sym → Nat → Int} {LV : List Sym → Nat → Int} {F : Tree → Int} {ks : List Tree} {ss : List Sym} {i : Nat} (h1 : i < ks.length) (h2 : i < ss.length) (x : Int) (rest : Nat) :
    kidI V LV F (ks.drop i) (ss.drop i) x rest = kidI V LV F (ks.drop (i + 1)) (ss.drop (i + 1)) (IntKind.i64.wrap (posI (V ss[i]) (LV (ss.drop (i + 1))) rest (wl ks[i]) x + IntKind.i64.wrap (F ks[i] * LV (ss.drop (i + 1)) (rest - wl ks[i])))) (rest - wl ks[i]) := by
  rw [List.drop_eq_getElem_cons h1, List.drop_eq_getElem_cons h2, kidI]
theorem wl_cons (t : Tree) (ks : List Tree) : (leavesOf (nodesL (t :: ks))).length = wl t + (leavesOf (nodesL ks)).length := by
  rw [nodesL, leaves_app, List.length_append]; rfl
/-- the leaves of a listed row -/
theorem enL_wl {S : Nat → Nat → Bool} {o : Sym → Nat → List Tree} (ho : ∀ s i t, hasK S s i = true → t ∈ o s i → wl t = i) : ∀ (l : List Sym) (k : Nat) (ks : List Tree), ks ∈ enL S o l k → (leavesOf (nodesL ks)).length = k
  | [], k, ks, h => by
    unfold enL at h
    by_cases h0 : k = 0
    · rw [if_pos h0] at h; simp at h; subst h; subst h0; rfl
    · rw [if_neg h0] at h; cases h
  | s :: l, k, ks, h => by
    obtain ⟨i, t, y, hi, h1, h2, ht, hy, rfl⟩ := enL_mem_cons h
    rw [wl_cons, ho s i t h1 ht, enL_wl ho l _ y hy]; omega
theorem leaf_mem {s : Sym} {t : Tree} {k : Nat} {S : Nat → Nat → Bool} {e : Nat → Nat → List Tree} (ht : s.term = true) (h : t ∈ symE S e s k) : k = 1 ∧ t = .node (-1) s.n [] := by
  unfold symE at h
  by_cases hh : hasK S s k = false
  · rw [if_pos hh] at h; cases h
  · rw [if_neg hh, if_pos ht] at h
    simp at h
    refine ⟨?_, h⟩
    unfold hasK at hh
    rw [if_pos ht] at hh
    simpa using hh
theorem enF_wl {rules : List Rule} {S : Nat → Nat → Bool} : ∀ (f A k : Nat) (t : Tree), t ∈ enF rules S f A k → wl t = k := by
  intro f
  induction f with
  | zero => intro A k t h; unfold enF at h; cases h
  | succ f ih =>
    intro A k t h
    rw [enF] at h
    by_cases hS : S A k = false
    · rw [if_pos hS] at h; cases h
    · rw [if_neg hS] at h
      obtain ⟨r, hr, j', ks, hl, hks, rfl⟩ := enR_mem _ _ h
      have h1 : (Tree.node (j' : Int) 0 ks).rule ≠ -1 := by show (j' : Int) ≠ -1; omega
      rw [wl_node h1]
      show (leavesOf (nodesL (ks.take ks.length))).length = k
      rw [List.take_length]
      refine enL_wl (fun s i t h1 h2 => ?_) _ _ _ hks
      cases ht : s.term with
      | true => obtain ⟨rfl, rfl⟩ := leaf_mem ht h2; exact wl_leaf rfl
      | false =>
        unfold symE at h2
        rw [if_neg (by rw [h1]; decide), if_neg (by rw [ht]; decide)] at h2
        exact ih _ _ _ h2
theorem symE_wl {rules : List Rule} {S : Nat → Nat → Bool} {size : Nat} {s : Sym} {i : Nat} {t : Tree} (h : t ∈ symE S (EN rules S size) s i) : wl t = i := by
  cases ht : s.term with
  | true => obtain ⟨rfl, rfl⟩ := leaf_mem ht h; exact wl_leaf rfl
  | false =>
    unfold symE at h
    by_cases hh : hasK S s i = false
    · rw [if_pos hh] at h; cases h
    · rw [if_neg hh, if_neg (by rw [ht]; decide)] at h
      exact enF_wl _ _ _ _ h
section
variable {rules : List Rule} {S M T : Nat → Nat → Bool} {N n size : Nat} {many : Int}
/-- the block in which a place lies -/
theorem pre_find {S : Nat → Nat → Bool} {o : Sym → Nat → List Tree} {s : Sym} {l : List Sym} {k b : Nat} : ∀ m, b < (pre S o s l k m).length → ∃ j x, j < m ∧ b = (pre S o s l k j).length + x ∧ x < (blk S o s l k j).length := by
  intro m
  induction m with
  | zero => intro h; simp [pre] at h
  | succ m ih =>
    intro h
    by_cases h1 : b < (pre S o s l k m).length
    · obtain ⟨j, x, h2, h3⟩ := ih h1
      exact ⟨j, x, by omega, h3⟩
    · rw [pre_len] at h
      exact ⟨m, b - (pre S o s l k m).length, by omega, by omega, by omega⟩
/-- the shorter first trees: how many lists -/
theorem posI_pre (hE : EndsM rules S M T N n size) {f : Nat} {s : Sym} {L : List Sym} {k : Nat} (hF : Fine S (Gd M T N n size f) (s :: L) k) (hlt : ((enL S (symE S (EN rules S size)) (s :: L) k).length : Int) < MaxC) {x : Int} (h0 : 0 ≤ x) (h1 : x ≤ 1000000000) :
    ∀ m, m ≤ k + 1 → posI (symV S (valK rules S M MaxC many size) s) (listV S MaxC (symV S (valK rules S M MaxC many size)) L) k m x = x + (pre S (symE S (EN rules S size)) s L k m).length := by
  intro m
  induction m with
  | zero => intro _; simp [posI, pre]
  | succ m ih =>
    intro hm
    rw [posI_next, ih (by omega), pre_len]
    have hb := (blk_val (many := many) (cap := MaxC) (by decide) (by decide) hE hF (j := m) (by omega) hlt).1
    have hle := pre_len_le (S := S) (o := symE S (EN rules S size)) (s := s) (l := L) (k := k) (j := m + 1) (by omega)
    rw [pre_len] at hle
    have hM : MaxC = 1000000000 := rfl
    unfold posS
    by_cases hp : 0 < listV S MaxC (symV S (valK rules S M MaxC many size)) L (k - m)
    · rw [if_pos hp] at hb ⊢
      have e1 : IntKind.i64.wrap ((blk S (symE S (EN rules S size)) s L k m).length : Int) = ((blk S (symE S (EN rules S size)) s L k m).length : Int) := IntWalk.i64_in _ (by omega)
      rw [hb, e1, IntWalk.i64_in _ (by push_cast; omega)]
      push_cast; omega
    · rw [if_neg hp] at hb ⊢
      have : (blk S (symE S (EN rules S size)) s L k m).length = 0 := by
        rw [Int.zero_mul] at hb; omega
      omega
set_option maxRecDepth 100000 in
set_option maxHeartbeats 4000000 in
theorem kidI_val (hE : EndsM rules S M T N n size) {F : Tree → Int} (hFT : ∀ (s : Sym) (i a : Nat) (t : Tree), s.term = true → (symE S (EN rules S size) s i)[a]? = some t → F t = a) {Q : Tree → Prop}
    (hFN : ∀ (s : Sym) (i a : Nat) (t : Tree), s.term = false → s.n.toNat < N → i ≤ n → M s.n.toNat i = false → ((symE S (EN rules S size) s i).length : Int) < MaxC → (symE S (EN rules S size) s i)[a]? = some t → Q t → F t = a) {f : Nat} :
    ∀ (l : List Sym) (k b : Nat) (ks : List Tree) (x : Int), (∀ t ∈ ks, Q t) → Fine S (Gd M T N n size f) l k → ((enL S (symE S (EN rules S size)) l k).length : Int) < MaxC → (enL S (symE S (EN rules S size)) l k)[b]? = some ks → 0 ≤ x → x + (enL S (symE S (EN rules S size)) l k).length ≤ 1000000000 →
      kidI (symV S (valK rules S M MaxC many size)) (listV S MaxC (symV S (valK rules S M MaxC many size))) F ks l x k = x + b := by
  intro l
  induction l with
  | nil =>
    intro k b ks x _ _ _ hb _ _
    unfold enL at hb
    by_cases h0 : k = 0
    · rw [if_pos h0] at hb
      cases b with
      | zero => simp at hb; subst hb; simp [kidI]
      | succ b => simp at hb
    · rw [if_neg h0] at hb; simp at hb
  | cons s l ih =>
    intro k b ks x hQ hF hlt hb h0 hx
    have hbl : b < (pre S (symE S (EN rules S size)) s l k (k + 1)).length := by rw [← enL_pre]; exact (List.getElem?_eq_some_iff.1 hb).1
    obtain ⟨j, y, hj, hby, hy⟩ := pre_find (k + 1) hbl
    obtain ⟨t, ys, rfl, ht, hys⟩ := enL_found (by omega) hby hy hb
    obtain ⟨hv1, hv2⟩ := blk_val (many := many) (cap := MaxC) (by decide) (by decide) hE hF (j := j) (by omega) hlt
    obtain ⟨g1, g2, g3, g4, g5, g6, g7⟩ := hv2 (by omega)
    have hwt : wl t = j := symE_wl (List.mem_of_getElem? ht)
    have hM : MaxC = 1000000000 := rfl
    have hxl : 0 ≤ (((enL S (symE S (EN rules S size)) (s :: l) k).length : Nat) : Int) := by omega
    have hFt : F t = ((y / (enL S (symE S (EN rules S size)) l (k - j)).length : Nat) : Int) := by
      cases hst : s.term with
      | true => exact hFT s j _ t hst ht
      | false =>
        have hg := hF.head (by omega) g1 g2 hst
        exact hFN s j _ t hst hg.1 hg.2.1 hg.2.2.1 g6 ht (hQ t List.mem_cons_self)
    rw [kidI, hwt, posI_pre hE hF hlt h0 (by omega) j (by omega), hFt, g3]
    have hle := pre_len_le (S := S) (o := symE S (EN rules S size)) (s := s) (l := l) (k := k) (j := j + 1) (by omega)
    rw [pre_len] at hle
    have hdm := Nat.div_add_mod y (enL S (symE S (EN rules S size)) l (k - j)).length
    have hmod := Nat.mod_lt y g4
    obtain ⟨n0, hn0⟩ : ∃ n0, n0 = (enL S (symE S (EN rules S size)) l (k - j)).length := ⟨_, rfl⟩
    obtain ⟨p0, hp0⟩ : ∃ p0, p0 = (pre S (symE S (EN rules S size)) s l k j).length := ⟨_, rfl⟩
    obtain ⟨T0, hT0⟩ : ∃ T0, T0 = (enL S (symE S (EN rules S size)) (s :: l) k).length := ⟨_, rfl⟩
    obtain ⟨q, hq⟩ : ∃ q, q = y / n0 := ⟨_, rfl⟩
    obtain ⟨m0, hm0⟩ : ∃ m0, m0 = y % n0 := ⟨_, rfl⟩
    rw [← hn0] at hdm hmod g4 g7
    rw [← hT0] at hlt hx hle hxl
    rw [← hp0] at hby hle
    rw [← hq, ← hm0] at hdm
    rw [← hm0] at hmod
    have hqn : ((q * n0 : Nat) : Int) = (q : Int) * (n0 : Int) := by push_cast; rfl
    have hqn2 : n0 * q = q * n0 := Nat.mul_comm _ _
    rw [← hn0, ← hp0, ← hq]
    have hqle : q * n0 ≤ y := by omega
    have hyT : p0 + y < T0 := by omega
    have hw1 : IntKind.i64.wrap ((q : Int) * (n0 : Int)) = ((q * n0 : Nat) : Int) := by rw [← hqn]; exact IntWalk.i64_in _ (by omega)
    rw [hw1]
    have hnT : p0 + q * n0 + n0 ≤ T0 := by
      -- a whole row of the block lies within the table
      have hq1 : (q + 1) * n0 ≤ (blk S (symE S (EN rules S size)) s l k j).length := by
        unfold blk
        rw [if_pos (by rw [g1, g2]; rfl), prodL_len, ← hn0]
        have : q + 1 ≤ (symE S (EN rules S size) s j).length := by
          have := (List.getElem?_eq_some_iff.1 ht).1
          rw [← hn0, ← hq] at this
          omega
        exact Nat.mul_le_mul_right _ this
      rw [Nat.add_mul, Nat.one_mul] at hq1
      omega
    obtain ⟨P, hP⟩ : ∃ P, P = q * n0 := ⟨_, rfl⟩
    rw [← hP] at hnT hqle hqn2
    rw [← hP]
    rw [hqn2] at hdm
    clear hw1 hqn hv1 hv2 hFT hFN
    rw [IntWalk.i64_in _ (by omega), ih (k - j) _ ys _ (fun t ht => hQ t (List.mem_cons_of_mem _ ht)) (hF.tail (by omega) g1) (by rw [← hn0]; exact g7) hys (by omega) (by rw [← hn0]; omega), ← hn0, ← hm0]
    omega
end
end Cs
end Go.Proofs.Ytbnpemgmdnghgaa
namespace Go.Proofs.Ytbnpemgmdnghgaa
open Go.RowKit
namespace Cs

def SE (g : Gram) (S : Nat → Nat → Bool) (N n : Nat) : Sym → Nat → List Tree := symE S (EN g.rules S (sizeK N n))
def GdN (g : Gram) (S : Nat → Nat → Bool) (N n f : Nat) : Nat → Nat → Prop := Gd (MK g.rules S N n) (clK g.rules S N n) N n (sizeK N n) f
def TrPost (g : Gram) (vr : Value) (N n : Nat) (d : Cid) (S : Nat → Nat → Bool) (w1 : World) (t : Tree) (W : World) (e : Ending) (W' : World) : Prop :=
  ∃ v, e = .returned (.agg #[.int .i64 t.rule, .int .i64 t.term, v]) ∧ Rd (fun b => W.heap.size ≤ b) W' (.sl (t.kids.map Tree.d)) [v] ∧ Fr N d W W' ∧ CntR g vr N n d S w1 W'
def TsPost (g : Gram) (vr : Value) (N n : Nat) (d : Cid) (S : Nat → Nat → Bool) (w1 : World) (ks : List Tree) (W : World) (e : Ending) (W' : World) : Prop :=
  ∃ v, e = .returned v ∧ Rd (fun b => W.heap.size ≤ b) W' (.sl (ks.map Tree.d)) [v] ∧ Fr N d W W' ∧ CntR g vr N n d S w1 W'
def nbox (g : Gram) (vr : Value) (d : Cid) : Obj := .cells #[.int .i64 g.terms, .int .i64 g.nons, .int .i64 g.start, vr, .pointer (some ⟨d.cb, 0, none⟩)] 85 (0, 0)
def TreeP (g : Gram) (vr : Value) (N n : Nat) (d : Cid) (S : Nat → Nat → Bool) (w1 : World) (xb f : Nat) : Prop :=
  ∀ (s : Sym), okS N s → ∀ k, k ≤ n → (s.term = false → GdN g S N n f s.n.toNat k) → ∀ (i : Nat) (t : Tree), (SE g S N n s k)[i]? = some t → (SE g S N n s k).length < 1000000000 →
    ∀ W, CntR g vr N n d S w1 W → W.heap[xb]? = some (nbox g vr d) →
      Calls Try.prog 51 #[.pointer (some ⟨xb, 0, none⟩), .agg #[.bool s.term, .int .i64 s.n], .int .i64 (k : Int), .int .i64 (i : Int)] W (TrPost g vr N n d S w1 t W)
def ListP (g : Gram) (vr : Value) (N n : Nat) (d : Cid) (S : Nat → Nat → Bool) (w1 : World) (xb f : Nat) : Prop :=
  ∀ (l : List Sym), (∀ s ∈ l, okS N s) → l.length ≤ 1000 → ∀ k, k ≤ n → Fine S (GdN g S N n f) l k → ∀ (i : Nat) (ks : List Tree), (enL S (SE g S N n) l k)[i]? = some ks → (enL S (SE g S N n) l k).length < 1000000000 →
    ∀ (a : Option Addr) (cap : Nat) W, Rd AnyB w1 (.sl (l.map Sym.d)) [.slice a l.length cap] → CntR g vr N n d S w1 W → W.heap[xb]? = some (nbox g vr d) →
      Calls Try.prog 76 #[.pointer (some ⟨xb, 0, none⟩), .slice a l.length cap, .int .i64 (k : Int), .int .i64 (i : Int)] W (TsPost g vr N n d S w1 ks W)

theorem rd_nilT (S : Nat → Prop) (w : World) : Rd S w (.sl (([] : List Tree).map Tree.d)) [.slice none 0 0] := rd_of_own (World.ownsRow_nil w 0 42 3) (by simp [RdAll]) rfl (fun k e => by simp [Value.ownBlock] at e)
section
variable {g : Gram} {vr : Value} {N n : Nat} {d : Cid} {S : Nat → Nat → Bool} {w1 W W' w0 Wc w' : World}
theorem CntR.cbl' (h : CntR g vr N n d S w1 W) : d.cb < W.heap.size := by
  obtain ⟨C, hc⟩ := h
  exact hc.ci.lt
theorem CntR.keepB {B : Nat} (h : CntR g vr N n d S w1 W) (hb : Below B W W') (hB : d.cb < B) : CntR g vr N n d S w1 W' := by
  obtain ⟨C, hc⟩ := h
  exact ⟨C, hc.keepB hb hB⟩
theorem CntR.rlt (h : CntR g vr N n d S w1 W) {B : Nat} (hB : d.cb < B) : ∀ a, a < N → d.rc a < B := by
  obtain ⟨C, hc⟩ := h
  exact hc.rlt hB
/-- the result box is stored into -/
theorem trFin {t : Tree} {rb : Nat} {v : Value} (x y z : Value) (hb0 : Below W.heap.size W w0) (hc0 : CntR g vr N n d S w1 W) (hrb : W.heap.size ≤ rb) (hrb2 : rb < w0.heap.size) (h1 : Fr N d w0 Wc) (h2 : Rd (fun b => Wc.heap.size ≤ b) w' (.sl (t.kids.map Tree.d)) [v]) (h3 : Fr N d Wc w') (h4 : CntR g vr N n d S w1 w') :
    TrPost g vr N n d S w1 t W (.returned (.agg #[.int .i64 t.rule, .int .i64 t.term, v])) (((w'.setCell ⟨rb, 0, none⟩ x).setCell ⟨rb, 1, none⟩ y).setCell ⟨rb, 2, none⟩ z) := by
  have hs := h1.size
  have hs0 := hb0.size
  have hcb := hc0.cbl'
  refine ⟨v, rfl, (h2.box3 (by show ¬ Wc.heap.size ≤ rb; omega) x y z).mono (fun k hk _ => by show W.heap.size ≤ k; have : Wc.heap.size ≤ k := hk; omega), ?_, ?_⟩
  · have hf : Fr N d W w' := (Fr.of hb0).trans (h1.trans h3)
    have hb := below_box3 (Below.refl w'.heap.size w') (Nat.le_refl _) x y z
    refine ⟨hf.os, hf.tape, hf.output, ?_, fun k hk hn => ?_⟩
    · have := hf.size; simpa [World.setCell] using this
    · have hg := (grown_box3 rb w' x y z).block k (by have := hf.size; omega) (by intro e; cases e; omega)
      exact hg.trans (hf.block k hk hn)
  · exact h4.keepB (B := rb) (below_box3 (Below.refl rb w') (Nat.le_refl _) x y z) (by omega)
end

set_option maxHeartbeats 400000 in
theorem leafN (x : Int) (w : World) : Calls Try.prog 75 #[.int .i64 x] w fun e w' => e = .returned (.agg #[.int .i64 (-1), .int .i64 x, .slice none 0 0]) ∧ Below w.heap.size w w' := by
  obtain ⟨w0, HW0⟩ := nameIt (w.alloc (.cells #[.int .i64 0, .int .i64 0, .slice none 0 0] 42))
  have hb0 : Below w.heap.size w w0 := by rw [← HW0.out]; exact (Below.refl _ _).alloc (Nat.le_refl _) _
  have HB := Lib.hid (below_box3 hb0 (Nat.le_refl _) (.int .i64 (-1)) (.int .i64 x) (.slice none 0 0))
  have X0 : Hid (w0.heap[w.heap.size]? = some (.cells #[.int .i64 0, .int .i64 0, .slice none 0 0] 42 (0, 0))) := by rw [← HW0.out]; exact bx_new _ _ _ rfl
  obtain ⟨y0, y1, y2⟩ := bx_cells3 X0.out
  obtain ⟨f0, f1, f2⟩ := bx_free3 X0.out
  clear hb0
  go_enter Try.func75, Try.ntmps75
  go_upto_region 1 with fail
  rw [HW0.out]
  go_wp2_with fail
  exact bodyPost_ret (v := .agg #[.int .i64 (-1), .int .i64 x, .slice none 0 0]) (by simp [results, Try.results75, go_sem, y0, y1, y2]) rfl ⟨rfl, by simpa using HB.out⟩
end Cs
end Go.Proofs.Ytbnpemgmdnghgaa
