/- For every input the law DrawTrees returns true, and its arguments read afterwards as before. No condition. -/
import Derived.Test.YtbnpemgmdnghgaaJDrawTreesRow14
import Derived.Test.YtbnpemgmdnghgaaJDrawTreesRow2
import Derived.Test.YtbnpemgmdnghgaaJDrawTreesRow7
import Derived.Test.YtbnpemgmdnghgaaJDrawTreesRow3
import Derived.Deep.RegionHeld3
import Derived.Test.YtbnpemgmdnghgaaJDrawTreesRow4
import Derived.Test.YtbnpemgmdnghgaaJDrawTreesRow10
import Derived.Test.YtbnpemgmdnghgaaJDrawTreesRow1
import Derived.Test.YtbnpemgmdnghgaaJDrawTreesRow11
import Derived.Test.YtbnpemgmdnghgaaRows
import Derived.ChangeArms
import Derived.ChangeSame
import Derived.SizedLaws
import Derived.Deep.Slices
import Derived.Lib.SmallJoins
import Derived.OpenShut
import Derived.ChangeOld
import Derived.Carry
import Derived.JoinedCond
namespace Go.Proofs.Ytbnpemgmdnghgaa
open Go.RowKit
namespace Cs

set_option maxHeartbeats 8000000 in
set_option maxRecDepth 100000 in
theorem listedE (g : Gram) (ra : Option Addr) (rcap N n most deep : Nat) (S : Nat → Nat → Bool) (hok : OkC g N) (hck : checkG g = 0) (hn : n ≤ 24) (hS : DoneC g n S) (hm1 : 1 ≤ most) (hm2 : most ≤ 1000) (hd : deep ≤ 1000) (w : World) (hr : Rd AnyB w (.sl (g.rules.map Rule.d)) [.slice ra g.rules.length rcap]) :
    Calls Try.prog 24 #[.agg #[.int .i64 g.terms, .int .i64 g.nons, .int .i64 g.start, .slice ra g.rules.length rcap], .int .i64 (n : Int), .int .i64 (most : Int), .int .i64 (deep : Int)] w (LsPost (lsT S most g.rules deep ⟨false, g.start⟩ n) w) := by
  obtain ⟨w0, HW0⟩ := nameIt (w.alloc (.cells #[.int .i64 g.terms, .int .i64 g.nons, .int .i64 g.start, .slice ra g.rules.length rcap] 24))
  have hb0 : Below w.heap.size w w0 := by rw [← HW0.out]; exact (Below.refl _ _).alloc (Nat.le_refl _) _
  have X0 : Hid (w0.heap[w.heap.size]? = some (.cells #[.int .i64 g.terms, .int .i64 g.nons, .int .i64 g.start, .slice ra g.rules.length rcap] 24 (0, 0))) := by rw [← HW0.out]; exact bx_new _ _ _ rfl
  obtain ⟨PST, HP⟩ := nameIt (LsPost (lsT S most g.rules deep ⟨false, g.start⟩ n) w)
  rw [HP.out]
  have hnN : g.nons.toNat = N := by rw [hok.nons]; rfl
  have HLN : Hid (∀ W, Below w0.heap.size w0 W → Calls Try.prog 45 #[.agg #[.int .i64 g.terms, .int .i64 g.nons, .int .i64 g.start, .slice ra g.rules.length rcap], .int .i64 (n : Int)] W (Ln.LenPost g n W)) :=
    fun W hb => Ln.lengthsE g hck n (by omega) ra rcap W ((hr.below hb0).below hb)
  have HTR : Hid (∀ (w3 : World) (lb bt B : Nat) (rb : Nat → Nat) (C : Nat → Nat → Bool) (w2 : World), Below w0.heap.size w0 w2 → Below w2.heap.size w2 w3 → Grd 51 4 B bt N (n + 1) N rb (fun i j => .bool (C i j)) w2 → (∀ a k, a < N → k ≤ n → (C a k = true ↔ Ln.Has g.rules (a : Int) k)) →
      w3.heap[lb]? = some (.cells #[.int .i64 g.terms, .int .i64 g.nons, .int .i64 g.start, .slice ra g.rules.length rcap, .slice (some ⟨bt, 0, none⟩) N N, .int .i64 (most : Int)] 93 (0, 0)) →
      Calls Try.prog 46 #[.pointer (some ⟨lb, 0, none⟩), .agg #[.bool false, .int .i64 g.start], .int .i64 (n : Int), .int .i64 (deep : Int)] w3 (LsPost (lsT S most g.rules deep ⟨false, g.start⟩ n) w3)) := by
    intro w3 lb bt B rb C w2 hb2 hb23 ht hC hx
    have hle : LE g ra rcap N n lb most bt rb S w3 := by
      refine ⟨hx, ?_, ((hr.below hb0).below hb2).below hb23⟩
      refine Ln.Grd.base (B := B) ?_ (Nat.zero_le _)
      refine (ht.keep hb23).eq fun a k ha _ hk => ?_
      have h1 := hC a k ha (by omega)
      have h2 := done_has hok hS (a := a) (k := k) (by omega)
      cases hc : C a k with
      | true => rw [h2.2 (h1.1 hc)]
      | false =>
        cases hs : S a k with
        | false => rfl
        | true => rw [h1.2 (h2.1 hs)] at hc; cases hc
    exact treesAll hle (by omega) hm1 hm2 hok.r (okC_len4 hck) deep hd ⟨false, g.start⟩ (fun _ => ⟨hok.s0, by have := hok.s1; have := hok.s0; simp; omega⟩) n (Nat.le_refl _) w3 (Below.refl _ _)
  have HFIN : Hid (∀ w3 e w', Below w0.heap.size w0 w3 → LsPost (lsT S most g.rules deep ⟨false, g.start⟩ n) w3 e w' → ∃ a m c b, e = .returned (.tuple #[.slice a m c, .bool b]) ∧ PST e w') := by
    rintro w3 e w' hb ⟨a, m, c, rfl, h1, h2⟩
    refine ⟨a, m, c, _, rfl, ?_⟩
    rw [← HP.out]
    have hb3 := hb0.trans (hb.mono hb0.size)
    exact ⟨a, m, c, rfl, hb3.trans (h1.mono hb3.size), fun L hL => (h2 L hL).mono fun b hb _ => by have : w3.heap.size ≤ b := hb; have := hb3.size; omega⟩
  rw [hnN.symm] at HTR
  rw [hok.nons] at X0 HW0 HLN HTR ⊢
  rw [Int.toNat_natCast] at HTR
  obtain ⟨SP, HSP⟩ := nameIt (LsPost (lsT S most g.rules deep ⟨false, g.start⟩ n))
  simp only [HSP.out] at HTR HFIN
  have HLP : Hid (∀ W e w', Ln.LenPost g n W e w' → ∃ (bt : Nat) (rb : Nat → Nat) (C : Nat → Nat → Bool), e = .returned (.slice (some ⟨bt, 0, none⟩) N N) ∧ Grd 51 4 W.heap.size bt N (n + 1) N rb (fun i j => .bool (C i j)) w' ∧ (∀ a k, a < N → k ≤ n → (C a k = true ↔ Ln.Has g.rules (a : Int) k)) ∧ Below W.heap.size W w') := by
    intro W e w' h
    unfold Ln.LenPost at h
    rw [hnN] at h
    exact h
  replace HLN : Hid (∀ W, Below w0.heap.size w0 W → Calls Try.prog 45 #[.agg #[.int .i64 g.terms, .int .i64 (N : Int), .int .i64 g.start, .slice ra g.rules.length rcap], .int .i64 (n : Int)] W (fun e w' => ∃ (bt : Nat) (rb : Nat → Nat) (C : Nat → Nat → Bool), e = .returned (.slice (some ⟨bt, 0, none⟩) N N) ∧ Grd 51 4 W.heap.size bt N (n + 1) N rb (fun i j => .bool (C i j)) w' ∧ (∀ a k, a < N → k ≤ n → (C a k = true ↔ Ln.Has g.rules (a : Int) k)) ∧ Below W.heap.size W w')) :=
    fun W hb => (HLN.out W hb).mono fun e w' h => HLP.out W e w' h
  obtain ⟨gt, HGT⟩ := nameIt g.terms
  obtain ⟨gs, HGS⟩ := nameIt g.start
  obtain ⟨rl, HRL⟩ := nameIt g.rules.length
  rw [HGT.out, HGS.out, HRL.out] at HW0 X0 HLN
  simp only [HGT.out, HGS.out, HRL.out] at HTR
  rw [HGT.out, HGS.out, HRL.out]
  obtain ⟨gb, HGBN⟩ := nameIt w.heap.size
  rw [HGBN.out] at X0
  have HGB : Hid (∀ W', Below w0.heap.size w0 W' → W'.cell? ⟨gb, 0, none⟩ = some (.int .i64 gt) ∧ W'.cell? ⟨gb, 0 + 1, none⟩ = some (.int .i64 (N : Int)) ∧ W'.cell? ⟨gb, 0 + 2, none⟩ = some (.int .i64 gs) ∧ W'.cell? ⟨gb, 0 + 3, none⟩ = some (.slice ra rl rcap)) := fun W' h => bx_cells4 (bx_keep X0.out h)
  clear hr hb0 HP X0 hok hck hS hnN hm1 hm2 hd HLP
  go_enter Try.func24, Try.ntmps24
  go_upto_region 1 with fail
  rw [HW0.out, HGBN.out]
  have HS : Hid (∀ W', Below w0.heap.size w0 W' → (fun w' => w'.cell? ⟨gb, 0, none⟩ = some (.int .i64 gt) ∧ w'.cell? ⟨gb, 0 + 1, none⟩ = some (.int .i64 (N : Int)) ∧ w'.cell? ⟨gb, 0 + 2, none⟩ = some (.int .i64 gs) ∧ w'.cell? ⟨gb, 0 + 3, none⟩ = some (.slice ra rl rcap)) W') := HGB
  have HBD : Hid (Below w0.heap.size w0 w0.drew) := (Below.refl _ _).drew
  have HLND := Lib.hid (HLN.out _ HBD.out)
  obtain ⟨wd, HWD⟩ := nameIt w0.drew
  rw [HWD.out] at HBD HLND
  refine wp_region_U (S := (fun w' => w'.cell? ⟨gb, 0, none⟩ = some (.int .i64 gt) ∧ w'.cell? ⟨gb, 0 + 1, none⟩ = some (.int .i64 (N : Int)) ∧ w'.cell? ⟨gb, 0 + 2, none⟩ = some (.int .i64 gs) ∧ w'.cell? ⟨gb, 0 + 3, none⟩ = some (.slice ra rl rcap))) 7 (by kernel_rfl) (fun inv => ?_)
  rw [HWD.out]
  refine wpU_take (i := 0) (v := .agg #[.int .i64 gt, .int .i64 (N : Int), .int .i64 gs, .slice ra rl rcap]) rfl inv (by kernel_rfl) (by kernel_rfl) (by decide) (by decide) (by kernel_rfl) (by kernel_rfl) (by kernel_rfl) (fun _ _ _ h => h) (Or.inl ⟨by rfl, fun w' hw' => ?_⟩) (HS.out _ HBD.out) (fun inv => ?_)
  · obtain ⟨h0, h1, h2, h3⟩ := hw'
    go_simp
  try simp only [Act.put, List.setIfInBounds_toArray, List.set_cons_zero, List.set_cons_succ]
  refine wpU_take (i := 1) (v := .agg #[.int .i64 gt, .int .i64 (N : Int), .int .i64 gs, .slice ra rl rcap]) rfl inv (by kernel_rfl) (by kernel_rfl) (by decide) (by decide) (by kernel_rfl) (by kernel_rfl) (by kernel_rfl) (fun _ _ _ h => h) (Or.inl ⟨by rfl, fun w' hw' => ?_⟩) (HS.out _ HBD.out) (fun inv => ?_)
  · obtain ⟨h0, h1, h2, h3⟩ := hw'
    go_simp
  try simp only [Act.put, List.setIfInBounds_toArray, List.set_cons_zero, List.set_cons_succ]
  refine wpU_take (i := 2) (v := .int .i64 (n : Int)) rfl inv (by kernel_rfl) (by kernel_rfl) (by decide) (by decide) (by kernel_rfl) (by kernel_rfl) (by kernel_rfl) (fun _ _ _ h => h) (Or.inl ⟨by rfl, fun w' hw' => ?_⟩) (HS.out _ HBD.out) (fun inv => ?_)
  · obtain ⟨h0, h1, h2, h3⟩ := hw'
    go_simp
  try simp only [Act.put, List.setIfInBounds_toArray, List.set_cons_zero, List.set_cons_succ]
  refine wpU_take (i := 4) (v := .int .i64 (most : Int)) rfl inv (by kernel_rfl) (by kernel_rfl) (by decide) (by decide) (by kernel_rfl) (by kernel_rfl) (by kernel_rfl) (fun _ _ _ h => h) (Or.inl ⟨by rfl, fun w' hw' => ?_⟩) (HS.out _ HBD.out) (fun inv => ?_)
  · obtain ⟨h0, h1, h2, h3⟩ := hw'
    go_simp
  try simp only [Act.put, List.setIfInBounds_toArray, List.set_cons_zero, List.set_cons_succ]
  refine wpU_one (i := 3) (by kernel_rfl) rfl (fun K hK => ?_)
  replace inv := inv_setc (i := 3) inv (by kernel_rfl) (by decide)
  go_simp
  with_reducible refine HLND.out.mono ?_
  rintro e w2 ⟨bt, rb, C, rfl, htab, hC, hb2⟩
  have HTAB := Lib.hid htab
  have HCC := Lib.hid hC
  have HB2 := Lib.hid (HBD.out.trans (hb2.mono HBD.out.size))
  clear htab hC hb2
  refine hK.out _ _ (fun _ => HS.out _ HB2.out) ?_
  clear hK K
  try simp only [Act.put, List.setIfInBounds_toArray, List.set_cons_zero, List.set_cons_succ]
  refine wpU_one (i := 5) (by kernel_rfl) rfl (fun K hK => ?_)
  replace inv := inv_setc (i := 5) inv (by kernel_rfl) (by decide)
  go_simp
  refine hK.out _ _ (fun _ => HS.out _ HB2.out) ?_
  clear hK K
  try simp only [Act.put, List.setIfInBounds_toArray, List.set_cons_zero, List.set_cons_succ]
  refine wpU_one (i := 6) (by kernel_rfl) rfl (fun K hK => ?_)
  replace inv := inv_setc (i := 6) inv (by kernel_rfl) (by decide)
  go_simp
  obtain ⟨w3, HW3⟩ := nameIt (w2.alloc (.cells #[.int .i64 gt, .int .i64 (N : Int), .int .i64 gs, .slice ra rl rcap, .slice (some ⟨bt, 0, none⟩) N N, .int .i64 (most : Int)] 93))
  rw [HW3.out]
  have HB23 : Hid (Below w2.heap.size w2 w3) := by rw [← HW3.out]; exact (Below.refl _ _).alloc (Nat.le_refl _) _
  have X3 : Hid (w3.heap[w2.heap.size]? = some (.cells #[.int .i64 gt, .int .i64 (N : Int), .int .i64 gs, .slice ra rl rcap, .slice (some ⟨bt, 0, none⟩) N N, .int .i64 (most : Int)] 93 (0, 0))) := by rw [← HW3.out]; exact bx_new _ _ _ rfl
  have HB3 := Lib.hid (HB2.out.trans (HB23.out.mono HB2.out.size))
  clear HW3
  refine hK.out _ _ (fun _ => HS.out _ HB3.out) ?_
  clear hK K
  try simp only [Act.put, List.setIfInBounds_toArray, List.set_cons_zero, List.set_cons_succ]
  refine wpU_one (i := 7) (by kernel_rfl) rfl (fun K hK => ?_)
  go_simp
  refine hK.out _ _ (fun h => absurd (show true = false from h) (by decide)) ?_
  clear hK K
  try simp only [Act.put, List.setIfInBounds_toArray, List.set_cons_zero, List.set_cons_succ]
  refine wpU_done (by kernel_rfl) ?_ _
  have HTRW := Lib.hid (HTR.out w3 w2.heap.size bt _ rb C w2 HB2.out HB23.out HTAB.out HCC.out X3.out)
  obtain ⟨x0, x1, x2, x3⟩ := HGB.out w3 HB3.out
  go_wp2_with fail
  with_reducible refine HTRW.out.mono ?_
  intro e w4 hpo
  obtain ⟨a4, m4, c4, b4, rfl, hpst⟩ := HFIN.out w3 _ _ HB3.out hpo
  have HE := Lib.hid hpst
  clear hpo hpst x0 x1 x2 x3
  go_wp2_with fail
  first | exact HE.out | (refine bodyPost_ret (results_tmp2 Try.results24 _ _ _) rfl ?_; exact HE.out)
end Cs
end Go.Proofs.Ytbnpemgmdnghgaa
namespace Go.Proofs.Ytbnpemgmdnghgaa
open Go.RowKit
namespace Cs

theorem enL_mem_cons {S : Nat → Nat → Bool} {o : Sym → Nat → List Tree} {s : Sym} {l : List Sym} {k : Nat} {ks : List Tree} (h : ks ∈ enL S o (s :: l) k) : ∃ (i : Nat) (t : Tree) (y : List Tree), i ≤ k ∧ hasK S s i = true ∧ canK S l (k - i) = true ∧ t ∈ o s i ∧ y ∈ enL S o l (k - i) ∧ ks = t :: y := by
  rw [enL] at h
  obtain ⟨i, hi, h⟩ := List.mem_flatMap.1 h
  by_cases c : (hasK S s i && canK S l (k - i)) = true
  · rw [if_pos c] at h
    rw [Bool.and_eq_true] at c
    obtain ⟨t, ht, h⟩ := List.mem_flatMap.1 h
    obtain ⟨y, hy, rfl⟩ := List.mem_map.1 h
    exact ⟨i, t, y, by have := List.mem_range.1 hi; omega, c.1, c.2, ht, hy, rfl⟩
  · rw [if_neg c] at h; cases h
theorem enR_mem {S : Nat → Nat → Bool} {o : Sym → Nat → List Tree} {A : Int} {k : Nat} {t : Tree} : ∀ (rs : List Rule) (j : Nat), t ∈ enR S o A k rs j → ∃ r ∈ rs, ∃ (j' : Nat) (ks : List Tree), r.left = A ∧ ks ∈ enL S o r.right k ∧ t = .node (j' : Int) 0 ks
  | [], j, h => by unfold enR at h; cases h
  | r :: rs, j, h => by
    rw [enR] at h
    rcases List.mem_append.1 h with h | h
    · by_cases hl : r.left = A
      · rw [if_pos hl] at h
        obtain ⟨ks, hk, rfl⟩ := List.mem_map.1 h
        exact ⟨r, List.mem_cons_self, j, ks, hl, hk, rfl⟩
      · rw [if_neg hl] at h; cases h
    · obtain ⟨r', h1, j', ks, h2⟩ := enR_mem rs (j + 1) h
      exact ⟨r', List.mem_cons_of_mem _ h1, j', ks, h2⟩
/-- the nodes of a list of trees -/
def nsum (ks : List Tree) : Nat := (nodesL ks).length
theorem nsum_cons (t : Tree) (ks : List Tree) : nsum (t :: ks) = (nodes t).length + nsum ks := by unfold nsum; rw [nodesL, List.length_append]
theorem nodes_node (j : Nat) (ks : List Tree) : (nodes (.node (j : Int) 0 ks)).length = 1 + nsum ks := by
  rw [nodes]
  have : ¬ ((j : Int) = -1) := by omega
  rw [if_neg this, List.length_cons]
  unfold nsum; omega
def DD : Nat := 195312502
def ZZ : Nat := 48828125
/-- the nodes of a list: what is empty counts ZZ at most -/
theorem nsum_le {S : Nat → Nat → Bool} {o : Sym → Nat → List Tree} (K r : Nat) : ∀ (l : List Sym) (k : Nat) (ks : List Tree), k ≤ K →
    (∀ (p : Nat) (s : Sym) (i a : Nat) (t : Tree), l[p]? = some s → hasK S s i = true → a + i ≤ k → canK S (l.take p) a = true → canK S (l.drop (p + 1)) (k - a - i) = true → t ∈ o s i → (i = 0 → (nodes t).length ≤ ZZ) ∧ (0 < i → (nodes t).length + 11 * DD ≤ DD * (22 * i)) ∧ (0 < i → i = K → (nodes t).length + 22 * DD ≤ DD * (22 * K + r) + 1)) →
    ks ∈ enL S o l k → (k = 0 → nsum ks ≤ l.length * ZZ) ∧ (0 < k → nsum ks + 11 * DD ≤ l.length * ZZ + DD * (22 * k)) ∧ (0 < k → k = K → nsum ks + 22 * DD ≤ l.length * ZZ + DD * (22 * K + r) + 1)
  | [], k, ks, hk, _, h => by
    unfold enL at h
    by_cases h0 : k = 0
    · rw [if_pos h0] at h
      simp at h
      subst h
      exact ⟨fun _ => by simp [nsum, nodesL], fun h => by omega, fun h => by omega⟩
    · rw [if_neg h0] at h; cases h
  | s :: l, k, ks, hk, hb, h => by
    obtain ⟨i, t, y, hi, h1, h2, ht, hy, rfl⟩ := enL_mem_cons h
    obtain ⟨b1, b2, b3⟩ := hb 0 s i 0 t rfl h1 (by omega) rfl (by simpa using h2) ht
    obtain ⟨c1, c2, c3⟩ := nsum_le K r l (k - i) y (by omega) (fun p s' j a t' hp hh ha h3 h4 ht' => hb (p + 1) s' j (i + a) t' hp hh (by omega) (by rw [List.take_succ_cons, canK_cons]; exact ⟨i, by omega, h1, by rw [Nat.add_sub_cancel_left]; exact h3⟩) (by rw [List.drop_succ_cons, show k - (i + a) - j = k - i - a - j by omega]; exact h4) ht') hy
    rw [nsum_cons, List.length_cons]
    unfold ZZ DD at *
    refine ⟨fun h0 => ?_, fun h0 => ?_, fun h0 h0' => ?_⟩
    · have := b1 (by omega); have := c1 (by omega); omega
    · by_cases e0 : i = 0
      · have := b1 e0; have := c2 (by omega); subst e0; simp at *; omega
      · by_cases e1 : i = k
        · have := b2 (by omega); have := c1 (by omega); omega
        · have := b2 (by omega); have := c2 (by omega); omega
    · by_cases e0 : i = 0
      · have := b1 e0; have := c3 (by omega) (by omega); omega
      · by_cases e1 : i = k
        · have := b3 (by omega) (by omega); have := c1 (by omega); omega
        · have := b2 (by omega); have := c2 (by omega); omega
/-- which nodes of the same length are led to -/
def same (T : Nat → Nat → Bool) (N n A k : Nat) : Nat := ((List.range N).filter fun B => T (A * (n + 1) + k) (B * (n + 1) + k)).length
theorem same_le (T : Nat → Nat → Bool) (N n A k : Nat) : same T N n A k ≤ N := by
  unfold same
  refine Nat.le_trans (List.length_filter_le _ _) ?_
  rw [List.length_range]; exact Nat.le_refl _
theorem filter_lt {P Q : Nat → Bool} {v : Nat} (hPQ : ∀ w, P w = true → Q w = true) (hv : Q v = true) (hv' : P v = false) (N : Nat) (h : v < N) : ((List.range N).filter P).length < ((List.range N).filter Q).length := by
  have key : ∀ n, ((List.range n).filter P).length + (if v < n then 1 else 0) ≤ ((List.range n).filter Q).length := by
    intro n
    induction n with
    | zero => simp
    | succ n ih =>
      rw [List.range_succ, List.filter_append, List.filter_append, List.length_append, List.length_append]
      by_cases e : v = n
      · subst e
        rw [if_neg (by omega)] at ih
        rw [if_pos (by omega)]
        simp [hv, hv'] at ih ⊢
        exact ih
      · have e2 : (if v < n + 1 then 1 else 0) = (if v < n then 1 else 0) := by
          by_cases h : v < n
          · rw [if_pos h, if_pos (by omega)]
          · rw [if_neg h, if_neg (by omega)]
        rw [e2]
        cases h : P n with
        | false => simp [h]; omega
        | true =>
          have := hPQ n h
          simp [h, this]; omega
  have := key N
  rw [if_pos h] at this
  omega
section
variable {rules : List Rule} {S : Nat → Nat → Bool} {N n : Nat}
/-- an edge between nodes of one length -/
theorem same_lt {A B k : Nat} (hT : clK rules S N n (A * (n + 1) + k) (B * (n + 1) + k) = true) (hB : B < N) (hvv : clK rules S N n (B * (n + 1) + k) (B * (n + 1) + k) = false) : same (clK rules S N n) N n B k < same (clK rules S N n) N n A k :=
  filter_lt (P := fun C => clK rules S N n (B * (n + 1) + k) (C * (n + 1) + k)) (Q := fun C => clK rules S N n (A * (n + 1) + k) (C * (n + 1) + k)) (fun w h => clo_trans _ _ _ hT h) hT hvv N hB
/-- the nodes of a tree of a good symbol -/
theorem nodes_le (hN : N ≤ 10) (hok : ∀ r ∈ rules, ∀ s ∈ r.right, s.term = false → 0 ≤ s.n ∧ s.n.toNat < N) (h4 : ∀ r ∈ rules, r.right.length ≤ 4) : ∀ (f A k : Nat), A < N → k ≤ n → MK rules S N n A k = false → ∀ t ∈ enF rules S f A k,
    (k = 0 → (nodes t).length ≤ 5 ^ (same (clK rules S N n) N n A k + 1)) ∧ (0 < k → (nodes t).length + 21 * DD ≤ DD * (22 * k + same (clK rules S N n) N n A k)) := by
  intro f
  induction f with
  | zero => intro A k hA hk hM t ht; unfold enF at ht; cases ht
  | succ f ih =>
    intro A k hA hk hM t ht
    rw [enF] at ht
    by_cases hS : S A k = false
    · rw [if_pos hS] at ht; cases ht
    · rw [if_neg hS] at ht
      obtain ⟨r, hr, j', ks, hl, hks, rfl⟩ := enR_mem _ _ ht
      have hpow : ∀ B, 5 ^ (same (clK rules S N n) N n B 0 + 1) ≤ 48828125 := by
        intro B
        have := same_le (clK rules S N n) N n B 0
        exact Nat.le_trans (Nat.pow_le_pow_right (by omega) (show _ ≤ 11 by omega)) (by decide)
      have hedge : ∀ (p : Nat) (s : Sym) (i a : Nat), r.right[p]? = some s → s.term = false → hasK S s i = true → a + i ≤ k → canK S (r.right.take p) a = true → canK S (r.right.drop (p + 1)) (k - a - i) = true →
          s.n.toNat < N ∧ i ≤ n ∧ MK rules S N n s.n.toNat i = false ∧ clK rules S N n (A * (n + 1) + k) (s.n.toNat * (n + 1) + i) = true ∧ clK rules S N n (s.n.toNat * (n + 1) + i) (s.n.toNat * (n + 1) + i) = false := by
        intro p s i a hp hterm hh ha h1 h2
        have hs := hok r hr s (List.mem_of_getElem? hp) hterm
        have hS' : S s.n.toNat i = true := by unfold hasK at hh; rw [hterm] at hh; simpa using hh
        have hin : i ≤ n := by omega
        have hg := ends_MM (rules := rules) (S := S) (N := N) (n := n) hok A k r hA hk hM hr hl p s i a hp hterm hS' ha h1 h2
        have hu := node_lt (N := N) hA hk
        have hv := node_lt (N := N) hs.2 hin
        have hsp : splitK S (r.right.take p) (r.right.drop (p + 1)) (k - i) = true := splitK_iff.2 ⟨a, by omega, h1, by rw [show k - i - a = k - a - i by omega]; exact h2⟩
        have hed := e5_hit (n := n) hr hk hp hterm (show i ≤ k by omega) hS' hsp
        rw [hl, Int.toNat_natCast] at hed
        have hT : clK rules S N n (A * (n + 1) + k) (s.n.toNat * (n + 1) + i) = true := clo_edge hu hv hed
        exact ⟨hs.2, hin, hg.2.2.1, hT, manyK_not hM hv (.inr hT)⟩
      rw [nodes_node]
      have hlen := h4 r hr
      by_cases hk0 : k = 0
      · subst hk0
        refine ⟨fun _ => ?_, fun h => by omega⟩
        -- all kids are empty, and of fewer nodes
        have key : ∀ (l : List Sym) (y : List Tree), (∀ (p : Nat) (s : Sym) (t : Tree), l[p]? = some s → hasK S s 0 = true → canK S (l.take p) 0 = true → canK S (l.drop (p + 1)) 0 = true → t ∈ symE S (enF rules S f) s 0 → (nodes t).length ≤ 5 ^ (same (clK rules S N n) N n A 0)) → y ∈ enL S (symE S (enF rules S f)) l 0 → nsum y ≤ l.length * 5 ^ (same (clK rules S N n) N n A 0) := by
          intro l
          induction l with
          | nil => intro y _ hy; simp [enL] at hy; subst hy; simp [nsum, nodesL]
          | cons s l ihl =>
            intro y hb hy
            obtain ⟨i, t, z, hi, h1, h2, ht, hz, rfl⟩ := enL_mem_cons hy
            obtain rfl : i = 0 := by omega
            have := hb 0 s t rfl h1 rfl (by simpa using h2) ht
            have := ihl z (fun p s' t' hp hh h3 h4 ht' => hb (p + 1) s' t' hp hh (by rw [List.take_succ_cons, canK_cons]; exact ⟨0, by omega, h1, h3⟩) (by rw [List.drop_succ_cons]; exact h4) ht') hz
            rw [nsum_cons, List.length_cons, Nat.add_mul]
            omega
        have h5 := key r.right ks (fun p s t hp hh h1 h2 ht' => by
          unfold symE at ht'
          rw [if_neg (by rw [hh]; decide)] at ht'
          cases hterm : s.term with
          | true => unfold hasK at hh; rw [hterm] at hh; simp at hh
          | false =>
            rw [hterm] at ht'
            simp only [Bool.false_eq_true, if_false] at ht'
            obtain ⟨e1, e2, e3, e4, e5⟩ := hedge p s 0 0 hp hterm hh (by omega) h1 (by simpa using h2)
            have h6 := (ih s.n.toNat 0 e1 e2 e3 t ht').1 rfl
            have h7 := same_lt e4 e1 e5
            exact Nat.le_trans h6 (Nat.pow_le_pow_right (by omega) (by omega))) hks
        have h8 : 0 < 5 ^ (same (clK rules S N n) N n A 0) := Nat.pos_of_ne_zero (by simp)
        rw [Nat.pow_succ]
        have h9 : r.right.length * 5 ^ (same (clK rules S N n) N n A 0) ≤ 4 * 5 ^ (same (clK rules S N n) N n A 0) := Nat.mul_le_mul_right _ hlen
        omega
      · refine ⟨fun h => absurd h hk0, fun _ => ?_⟩
        have h5 := (nsum_le (S := S) (o := symE S (enF rules S f)) k (same (clK rules S N n) N n A k) r.right k ks (Nat.le_refl _) (fun p s i a t hp hh ha h1 h2 ht' => by
          unfold symE at ht'
          rw [if_neg (by rw [hh]; decide)] at ht'
          cases hterm : s.term with
          | true =>
            rw [hterm] at ht'
            simp at ht'
            subst ht'
            have hi1 : i = 1 := by unfold hasK at hh; rw [hterm] at hh; simpa using hh
            have hn1 : (nodes (Tree.node (-1) s.n [])).length = 1 := by rw [nodes]; simp
            rw [hn1]
            unfold ZZ DD
            subst hi1
            refine ⟨fun h => by omega, fun h => by omega, fun h h' => by omega⟩
          | false =>
            rw [hterm] at ht'
            simp only [Bool.false_eq_true, if_false] at ht'
            obtain ⟨e1, e2, e3, e4, e5⟩ := hedge p s i a hp hterm hh ha h1 h2
            obtain ⟨g1, g2⟩ := ih s.n.toNat i e1 e2 e3 t ht'
            have hsl := same_le (clK rules S N n) N n s.n.toNat i
            refine ⟨fun h => ?_, fun h => ?_, fun h h' => ?_⟩
            · subst h
              exact Nat.le_trans (g1 rfl) (hpow _)
            · have := g2 h
              unfold DD at *
              omega
            · subst h'
              have := g2 h
              have h7 := same_lt e4 e1 e5
              unfold DD at *
              omega) hks).2.2 (Nat.pos_of_ne_zero hk0) rfl
        have h9 : r.right.length * ZZ ≤ 4 * ZZ := Nat.mul_le_mul_right _ hlen
        unfold ZZ DD at *
        omega
theorem nodes_bound (hN : N ≤ 10) (hok : ∀ r ∈ rules, ∀ s ∈ r.right, s.term = false → 0 ≤ s.n ∧ s.n.toNat < N) (h4 : ∀ r ∈ rules, r.right.length ≤ 4) (hn : n ≤ 24) {f A k : Nat} (hA : A < N) (hk : k ≤ n) (hM : MK rules S N n A k = false) {t : Tree} (ht : t ∈ enF rules S f A k) : (nodes t).length ≤ 1099511627776 := by
  obtain ⟨g1, g2⟩ := nodes_le hN hok h4 f A k hA hk hM t ht
  have hsl := same_le (clK rules S N n) N n A k
  by_cases h0 : k = 0
  · have := g1 h0
    have h2 : 5 ^ (same (clK rules S N n) N n A k + 1) ≤ 5 ^ 11 := Nat.pow_le_pow_right (by omega) (by omega)
    have h3 : 5 ^ 11 ≤ 1099511627776 := by decide
    omega
  · have := g2 (by omega)
    unfold DD at this
    omega
end
end Cs
end Go.Proofs.Ytbnpemgmdnghgaa
namespace Go.Proofs.Ytbnpemgmdnghgaa
open Go.RowKit

def NoB : Nat → Prop := fun _ => False

end Go.Proofs.Ytbnpemgmdnghgaa
namespace Go.Proofs.Ytbnpemgmdnghgaa
open Go.RowKit

mutual
theorem nodes_size : ∀ t : Tree, (nodes t).length ≤ t.size
  | .node r tm ks => by
    have := nodesL_size ks
    rw [nodes, Tree.size]
    by_cases h : r = -1 <;> simp [h] <;> omega
theorem nodesL_size : ∀ ks : List Tree, (nodesL ks).length ≤ sizeL ks
  | [] => by simp [nodesL, sizeL]
  | k :: ks => by
    have := nodes_size k
    have := nodesL_size ks
    simp [nodesL, sizeL]; omega
end

def twoT : Tree := .node 0 0 [.node 1 0 [.node (-1) 0 []], .node (-1) 0 []]
def ReadPost (t : Tree) (w : World) (e : Ending) (w' : World) : Prop := ∃ v, e = .returned (.agg #[.int .i64 t.rule, .int .i64 t.term, v]) ∧ Rd AnyB w' (.sl (t.kids.map Tree.d)) [v] ∧ Below w.heap.size w w'

end Go.Proofs.Ytbnpemgmdnghgaa
namespace Go.Proofs.Ytbnpemgmdnghgaa
open Go.RowKit

theorem sizeL_put : ∀ (ks : List Tree) (j : Nat) (i : Int) (f : Tree → Tree) (c : Nat), (∀ k ∈ ks, (f k).size ≤ k.size + c) → sizeL (ks.mapIdx fun m k => if ((m + j : Nat) : Int) = i then f k else k) ≤ sizeL ks + (if (j : Int) ≤ i then c else 0)
  | [], j, i, f, c, h => by simp [sizeL]
  | k :: ks, j, i, f, c, h => by
    have h1 := sizeL_put ks (j + 1) i f c (fun x hx => h x (List.mem_cons_of_mem _ hx))
    have h2 := h k List.mem_cons_self
    have e : (k :: ks).mapIdx (fun m k => if ((m + j : Nat) : Int) = i then f k else k) = (if (j : Int) = i then f k else k) :: ks.mapIdx (fun m k => if ((m + (j + 1) : Nat) : Int) = i then f k else k) := by
      rw [List.mapIdx_cons]
      congr 1
      · simp
      · congr 1; funext m k; rw [show m + 1 + j = m + (j + 1) by omega]
    rw [e, sizeL, sizeL]
    by_cases hj : (j : Int) = i
    · rw [if_pos hj, if_pos (by omega)]
      rw [if_neg (by omega)] at h1
      omega
    · rw [if_neg hj]
      by_cases hlt : (j : Int) ≤ i
      · rw [if_pos hlt]
        rw [if_pos (by omega)] at h1
        omega
      · rw [if_neg hlt]
        rw [if_neg (by omega)] at h1
        omega
theorem putT_size : ∀ (p : List Int) (t s : Tree), (putT t p s).size ≤ t.size + s.size
  | [], t, s => by rw [putT]; omega
  | i :: p, t, s => by
    have h := sizeL_put t.kids 0 i (fun k => putT k p s) s.size (fun k _ => putT_size p k s)
    rw [putT, Tree.size, Tree.size_eq]
    simp only [Nat.add_zero] at h
    split at h <;> omega

def PutPost (x : Option Tree) (w : World) (e : Ending) (w' : World) : Prop := DescPost x foundE w e w'

end Go.Proofs.Ytbnpemgmdnghgaa
namespace Go.Proofs.Ytbnpemgmdnghgaa
open Go.RowKit

structure GathRel (f : List Tree → List Int) (w w1 : World) (l : List Tree) (i : Nat) (v : Value) (wr : World) : Prop where
  own : wr.ownsRow w.heap.size 3 1 v (f (l.take i)).length (ints (f (l.take i)))
  bel : Below w.heap.size w wr
  belo : Below w1.heap.size w1 wr
  apart : ∀ k, v.ownBlock = some k → w1.heap.size ≤ k

theorem leavesOf_take {l : List Tree} {i : Nat} (h : i < l.length) : leavesOf (l.take (i + 1)) = leavesOf (l.take i) ++ if l[i].rule = -1 then [l[i].term] else [] := by
  rw [List.take_succ_eq_append_getElem h, leavesOf, List.filterMap_append]
  by_cases e : l[i].rule = -1 <;> simp [leavesOf, e]
theorem rulesOf_take {l : List Tree} {i : Nat} (h : i < l.length) : rulesOf (l.take (i + 1)) = rulesOf (l.take i) ++ [l[i].rule] := by
  rw [List.take_succ_eq_append_getElem h, rulesOf, List.map_append]; rfl
theorem leavesOf_take_le (l : List Tree) (i : Nat) : (leavesOf (l.take i)).length ≤ l.length := by
  have := leavesOf_le (l.take i); simp at this; omega
theorem rulesOf_take_le (l : List Tree) (i : Nat) : (rulesOf (l.take i)).length ≤ l.length := by
  simp [rulesOf]; omega

theorem gath_step {f : List Tree → List Int} {w w1 : World} {l : List Tree} {i : Nat} {v v' : Value} {wr w0 w' : World} {x : Int} (h : GathRel f w w1 l i v wr) (hf : f (l.take (i + 1)) = f (l.take i) ++ [x]) (hb : Below wr.heap.size wr w0)
    (ho : w'.ownsRow w.heap.size 3 1 v' ((f (l.take i)).length + 1) (ints (f (l.take i)) ++ [.int .i64 x])) (hg : w0.grownBy w' v.ownBlock) (hat : v'.ownBlock = v.ownBlock ∨ ∃ k, v'.ownBlock = some k ∧ w0.heap.size ≤ k) : GathRel f w w1 l (i + 1) v' w' := by
  have hs := hb.size
  have hs1 := h.belo.size
  have hs2 := h.bel.size
  refine ⟨?_, (h.bel.trans (hb.mono h.bel.size)).grown hg (by omega) (fun k e => (h.own.lt k e).1), (h.belo.trans (hb.mono h.belo.size)).grown hg (by omega) h.apart, ?_⟩
  · rw [hf]
    have e : ints (f (l.take i) ++ [x]) = ints (f (l.take i)) ++ [.int .i64 x] := by simp [ints]
    rw [e, List.length_append]
    exact ho
  · intro k e
    rcases hat with h2 | ⟨j, h2, hj⟩
    · exact h.apart k (by rw [← h2]; exact e)
    · rw [h2] at e; cases e; omega

end Go.Proofs.Ytbnpemgmdnghgaa
namespace Go.Proofs.Ytbnpemgmdnghgaa
open Go.RowKit

set_option maxHeartbeats 400000 in
theorem rulesF (w0 : World) (nb N : Nat) (hN : N * 8 ≤ 140737488355328) : NodeFn 73 #[.pointer (some ⟨nb, 0, none⟩)] w0 (fun _ => true) N (GatherI rulesOf w0 nb) where
  below := fun h => h.1
  own := gather_own
  keep := gather_keep
  call := by
    intro s S W t v h hv hs
    obtain ⟨a, n, cap, rfl⟩ := treeBox hv
    have HI := Lib.hid h
    obtain ⟨h1, h2, u, h3, h4, h5, h6⟩ := h
    have H1 := Lib.hid h1
    have H3 := Lib.hid h3
    have H4 := Lib.hid h4
    have H5 := Lib.hid h5
    have H6 := Lib.hid h6
    have c0 := bx_cells1 h3
    have f0 := bx_free1 h3
    have hlt := (Array.getElem?_eq_some_iff.1 h3).1
    have hlen : (rulesOf s).length ≤ s.length := by simp [rulesOf]
    obtain ⟨au, cu, rfl, hu1, hu2⟩ := own_len h4
    unfold maxLen at hu2
    clear h1 h3 h4 h5 h6 hv
    have hb := (Below.refl W.heap.size W).alloc (Nat.le_refl _) (.cells #[.int .i64 t.rule, .int .i64 t.term, .slice a n cap] 42)
    have HB := Lib.hid hb
    clear hb
    obtain ⟨r, HR⟩ := nameIt t.rule
    obtain ⟨tm, HT⟩ := nameIt t.term
    rw [HR.out, HT.out] at HB
    rw [HR.out, HT.out]
    have HE : Hid (rulesOf (s ++ [t]) = rulesOf s ++ [r]) := by show _ = _; simp [rulesOf, HR.out]
    go_enter Try.func73, Try.ntmps73
    go_wp2_with (at_builtin; refine wp_app1at elInt rfl _ _ rfl (own_keep H4.out HB.out) rfl rfl (by simp) rfl rfl (by omega) (by unfold maxLen; omega) (by have := H1.out.size; simp; omega) ?_)
    intro v' w' ho hg hat
    obtain ⟨a', c', rfl, -, -⟩ := own_len ho
    have HST := Lib.hid (gather_step HE.out H1.out h2 H3.out H4.out H5.out H6.out HB.out ho hg (by simpa using hat))
    have hnb' : nb < w'.heap.size := by have := hg.size; simp at this; omega
    have h3 : w'.heap[nb]? = some (.cells #[.slice au (rulesOf s).length cu] 33 (0, 0)) := by
      rw [hg.block nb (by simp; omega) (fun e => H5.out e.symm)]; exact bx_keep H3.out HB.out
    have f1 := bx_free1 h3
    have f2 := bx_cells1 h3
    clear ho hg hat h3
    go_wp2
    go_ret
    obtain ⟨S', i1, i2, i3⟩ := HST.out
    exact ⟨S', rfl, i1, i2, i3⟩

set_option maxHeartbeats 400000 in
theorem rulesT (t : Tree) (v : Value) (w : World) (hv : Rd AnyB w (.sl (t.kids.map Tree.d)) [v]) (hN : (nodes t).length * 8 ≤ 140737488355328) :
    Calls Try.prog 47 #[.agg #[.int .i64 t.rule, .int .i64 t.term, v]] w (IntsPost (rulesOf (nodes t)) w) := by
  obtain ⟨a, n, cap, rfl⟩ := treeBox hv
  have hI : GatherI rulesOf w (w.heap.size + 1) [] (fun k => k = w.heap.size + 1 ∨ (Value.slice none 0 0).ownBlock = some k) ((w.alloc (.cells #[.int .i64 t.rule, .int .i64 t.term, .slice a n cap] 42)).alloc (.cells #[.slice none 0 0] 33)) :=
    ⟨((Below.refl _ _).alloc (Nat.le_refl _) _).alloc (by simp) _, by omega, _, bx_new _ _ _ (by simp), World.ownsRow_nil _ _ _ _, by simp [Value.ownBlock], fun _ => Iff.rfl⟩
  have hw := walkE 73 #[.pointer (some ⟨w.heap.size + 1, 0, none⟩)] w (fun _ => true) (nodes t).length _ (fun _ _ => by kernel_rfl) (rulesF w (w.heap.size + 1) (nodes t).length hN) (nodes t).length t _ [] _ _ (Nat.le_refl _) hI hv (by simp)
  have HW := Lib.hid hw
  clear hw hI hv hN
  go_enter Try.func47, Try.ntmps47
  go_wp2_with fail
  refine HW.out.mono ?_
  rintro e w1 ⟨S', rfl, ⟨h1, h2, u, h3, h4, h7, h8⟩, h5, h6⟩
  rw [upTo_all (by simp)] at h4
  simp only [List.nil_append] at h4
  have c0 := bx_cells1 h3
  have HB := Lib.hid h1
  have HS := Lib.hid (sl_of_own h4)
  obtain ⟨a', c', rfl, -, -⟩ := own_len h4
  clear h1 h2 h3 h4 h5 h6 h7 h8
  go_wp2
  go_ret
  exact ⟨_, rfl, HS.out, HB.out⟩
end Go.Proofs.Ytbnpemgmdnghgaa
namespace Go.Proofs.Ytbnpemgmdnghgaa
open Go.RowKit

end Go.Proofs.Ytbnpemgmdnghgaa
namespace Go.Proofs.Ytbnpemgmdnghgaa
open Go.RowKit
namespace TreeOrder

def treeCmp (a b : Tree) : Int := orL [cmp3 (rulesOf (nodes a)).length (rulesOf (nodes b)).length, cmpL (rulesOf (nodes a)) (rulesOf (nodes b)), cmpL (leavesOf (nodes a)) (leavesOf (nodes b))]

theorem cells6 {W w' : World} (hb : Below W.heap.size W w') {b1 b2 : Nat} {T : TypeId} {a0 a1 a2 c0 c1 c2 : Value} (h1 : W.heap[b1]? = some (.cells #[a0, a1, a2] T (0, 0))) (h2 : W.heap[b2]? = some (.cells #[c0, c1, c2] T (0, 0))) :
    w'.cell? ⟨b1, 0, none⟩ = some a0 ∧ w'.cell? ⟨b1, 0 + 1, none⟩ = some a1 ∧ w'.cell? ⟨b1, 0 + 2, none⟩ = some a2 ∧ w'.cell? ⟨b2, 0, none⟩ = some c0 ∧ w'.cell? ⟨b2, 0 + 1, none⟩ = some c1 ∧ w'.cell? ⟨b2, 0 + 2, none⟩ = some c2 := by
  obtain ⟨x1, x2, x3⟩ := bx_cells3 (bx_keep h1 hb)
  obtain ⟨x4, x5, x6⟩ := bx_cells3 (bx_keep h2 hb)
  exact ⟨x1, x2, x3, x4, x5, x6⟩

def RulesMid (w0 : World) (a b : Tree) (x y : Value) (wx : World) : Prop :=
  Sl wx x (ints (rulesOf (nodes a))) ∧ Sl wx y (ints (rulesOf (nodes b))) ∧ Below w0.heap.size w0 wx

set_option maxHeartbeats 2000000 in
set_option maxRecDepth 100000 in
theorem compareT (t : Tree) (v : Value) (s : Tree) (u : Value) (w : World) (hv : Rd AnyB w (.sl (t.kids.map Tree.d)) [v]) (hu : Rd AnyB w (.sl (s.kids.map Tree.d)) [u]) (hN : (nodes t).length ≤ 1099511627776) (hM : (nodes s).length ≤ 1099511627776) :
    Calls Try.prog 25 #[.agg #[.int .i64 t.rule, .int .i64 t.term, v], .agg #[.int .i64 s.rule, .int .i64 s.term, u]] w fun e w' => e = .returned (.int .i64 (treeCmp t s)) ∧ Below w.heap.size w w' := by
  obtain ⟨a, n, cap, rfl⟩ := treeBox hv
  obtain ⟨au, nu, capu, rfl⟩ := treeBox hu
  obtain ⟨w0, HW0⟩ := nameIt ((w.alloc (.cells #[.int .i64 t.rule, .int .i64 t.term, .slice a n cap] 42)).alloc (.cells #[.int .i64 s.rule, .int .i64 s.term, .slice au nu capu] 42))
  have HB : Hid (Below w.heap.size w w0) := by rw [← HW0.out]; exact ((Below.refl _ _).alloc (Nat.le_refl _) _).alloc (by simp) _
  have X1 : Hid (w0.heap[w.heap.size]? = some (.cells #[.int .i64 t.rule, .int .i64 t.term, .slice a n cap] 42 (0, 0))) := by
    rw [← HW0.out]; exact bx_keep (bx_new _ _ _ rfl) ((Below.refl _ _).alloc (Nat.le_refl _) _)
  have X2 : Hid (w0.heap[w.heap.size + 1]? = some (.cells #[.int .i64 s.rule, .int .i64 s.term, .slice au nu capu] 42 (0, 0))) := by
    rw [← HW0.out]; exact bx_new _ _ _ (by simp)
  have R1 := Lib.hid (fun W (hb : Below w0.heap.size w0 W) => rulesT t _ W ((hv.below HB.out).below hb) (by omega))
  have R2 := Lib.hid (fun W (hb : Below w0.heap.size w0 W) => rulesT s _ W ((hu.below HB.out).below hb) (by omega))
  have T1 := Lib.hid (fun W (hb : Below w0.heap.size w0 W) => wordT t _ W ((hv.below HB.out).below hb) (by omega))
  have T2 := Lib.hid (fun W (hb : Below w0.heap.size w0 W) => wordT s _ W ((hu.below HB.out).below hb) (by omega))
  obtain ⟨x0, x1, x2⟩ := bx_cells3 X1.out
  obtain ⟨y0, y1, y2⟩ := bx_cells3 X2.out
  clear hv hu
  go_enter Try.func25, Try.ntmps25
  go_wp2_with fail
  rw [HW0.out]
  go_upto_region 1 with fail
  go_cut [5, 6] (fun x y wx => Hid (RulesMid w0 t s x y wx))
  case first =>
    go_region_held3 (fun w' => w'.cell? ⟨w.heap.size, 0, none⟩ = some (.int .i64 t.rule) ∧ w'.cell? ⟨w.heap.size, 0 + 1, none⟩ = some (.int .i64 t.term) ∧ w'.cell? ⟨w.heap.size, 0 + 2, none⟩ = some (.slice a n cap) ∧ w'.cell? ⟨w.heap.size + 1, 0, none⟩ = some (.int .i64 s.rule) ∧ w'.cell? ⟨w.heap.size + 1, 0 + 1, none⟩ = some (.int .i64 s.term) ∧ w'.cell? ⟨w.heap.size + 1, 0 + 2, none⟩ = some (.slice au nu capu))
      (first | exact cells6 (Below.refl _ _).drew X1.out X2.out | exact cells6 HB2.out X1.out X2.out | exact cells6 HB1.out X1.out X2.out | fail)
      (first
        | (go_at_call 47; (with_reducible refine (R1.out _ (Below.refl _ _).drew).mono ?_); rintro e w1 ⟨v1, rfl, hr1, hb1⟩; have HR1 := Lib.hid hr1; have HB1 : Hid (Below w0.heap.size w0 w1) := (Below.refl _ _).drew.trans hb1; clear hr1 hb1)
        | (go_at_call 47; (with_reducible refine (R2.out _ HB1.out).mono ?_); rintro e w2 ⟨v2, rfl, hr2, hb2⟩; have HR2 := Lib.hid hr2; have HB2 : Hid (Below w0.heap.size w0 w2) := HB1.out.trans (hb2.mono HB1.out.size); have HR1' := Lib.hid (HR1.out.keep hb2); clear hr2 hb2)
        | fail)
    go_wp2_with fail
    go_meet
    exact ⟨HR1'.out, HR2.out, HB2.out⟩
  case rest =>
    clear x0 x1 x2 y0 y1 y2 R1 R2
    obtain ⟨hr1, hr2, hb2⟩ := hcut.out
    obtain ⟨a1, c1, rfl⟩ := hr1.form
    obtain ⟨a2, c2, rfl⟩ := hr2.form
    rw [ints_len, ints_len]
    rw [ints_len] at hr1 hr2
    obtain ⟨L1, HL1⟩ := nameIt (rulesOf (nodes t))
    obtain ⟨L2, HL2⟩ := nameIt (rulesOf (nodes s))
    obtain ⟨M1, HM1⟩ := nameIt (leavesOf (nodes t))
    obtain ⟨M2, HM2⟩ := nameIt (leavesOf (nodes s))
    rw [HL1.out] at hr1
    rw [HL2.out] at hr2
    rw [HM1.out] at T1
    rw [HM2.out] at T2
    rw [HL1.out, HL2.out]
    have hl1 := hr1.len.2
    have hl2 := hr2.len.2
    have HR1 := Lib.hid hr1
    have HR2 := Lib.hid hr2
    have HB2 := Lib.hid hb2
    obtain ⟨x0, x1, x2⟩ := bx_cells3 (bx_keep X1.out hb2)
    obtain ⟨y0, y1, y2⟩ := bx_cells3 (bx_keep X2.out hb2)
    unfold maxLen at hl1 hl2
    clear hr1 hr2 hb2 hcut
    obtain ⟨q1, HQ1⟩ := nameIt (cmp3 L1.length L2.length)
    obtain ⟨q2, HQ2⟩ := nameIt (cmpL L1 L2)
    obtain ⟨q3, HQ3⟩ := nameIt (cmpL M1 M2)
    have C1 := Lib.hid (fun W => compareInt L1.length L2.length W)
    have C2 := Lib.hid (fun W (hb : Below wc.heap.size wc W) => compareInts _ _ L1 L2 W (HR1.out.keep hb) (HR2.out.keep hb))
    rw [HQ1.out] at C1
    rw [HQ2.out] at C2
    go_upto_region 2 with fail
    go_region_held3 (fun w' => w'.cell? ⟨w.heap.size, 0, none⟩ = some (.int .i64 t.rule) ∧ w'.cell? ⟨w.heap.size, 0 + 1, none⟩ = some (.int .i64 t.term) ∧ w'.cell? ⟨w.heap.size, 0 + 2, none⟩ = some (.slice a n cap) ∧ w'.cell? ⟨w.heap.size + 1, 0, none⟩ = some (.int .i64 s.rule) ∧ w'.cell? ⟨w.heap.size + 1, 0 + 1, none⟩ = some (.int .i64 s.term) ∧ w'.cell? ⟨w.heap.size + 1, 0 + 2, none⟩ = some (.slice au nu capu))
      (first | exact cells6 HB2.out.drew X1.out X2.out | exact cells6 (HB4.out.alloc HB4.out.size _) X1.out X2.out | exact cells6 HB4.out X1.out X2.out | exact cells6 HB3.out X1.out X2.out | fail)
      (first
        | (go_at_call 49; (with_reducible refine (C1.out _).mono ?_); rintro e w' ⟨rfl, rfl⟩)
        | (go_at_call 50; (with_reducible refine (C2.out _ (Below.refl _ _).drew).mono ?_); rintro e w' ⟨rfl, rfl⟩)
        | (go_at_call 20; (with_reducible refine (T1.out _ HB2.out.drew).mono ?_); rintro e w3 ⟨v3, rfl, hs3, hb3⟩; have HB3 : Hid (Below w0.heap.size w0 w3) := HB2.out.drew.trans (hb3.mono HB2.out.size); have HS3 := Lib.hid hs3; clear hs3 hb3)
        | (go_at_call 20; (with_reducible refine (T2.out _ HB3.out).mono ?_); rintro e w4 ⟨v4, rfl, hs4, hb4⟩; have HB4 : Hid (Below w0.heap.size w0 w4) := HB3.out.trans (hb4.mono HB3.out.size); have HS4 := Lib.hid hs4; have HS3' := Lib.hid (HS3.out.keep hb4); clear hs4 hb4)
        | (go_at_call 50; (with_reducible refine (compareInts _ _ M1 M2 _ HS3'.out HS4.out).mono ?_); rintro e w' ⟨rfl, rfl⟩; rw [HQ3.out])
        | (go_at_call 48; (with_reducible refine (orInt _ [q1, q2, q3] _ (sl_lit (v := #[.int .i64 q1, .int .i64 q2, .int .i64 q3]) rfl (of_decide_eq_true rfl))).mono ?_); rintro e w' ⟨rfl, rfl⟩)
        | fail)
    go_wp2_with fail
    go_ret
    have hq : treeCmp t s = orL [q1, q2, q3] := by unfold treeCmp; rw [HL1.out, HL2.out, HM1.out, HM2.out, HQ1.out, HQ2.out, HQ3.out]
    have hB4 := HB.out.trans (HB4.out.mono HB.out.size)
    exact ⟨by rw [hq]; rfl, hB4.alloc hB4.size _⟩

theorem cmp_ne {t s : Tree} (h : (rulesOf (nodes t)).length ≠ (rulesOf (nodes s)).length) : treeCmp t s = cmp3 (((rulesOf (nodes t)).length : Int) - (rulesOf (nodes s)).length) 0 := by
  unfold treeCmp orL cmp3
  split <;> split <;> (try split) <;> (try split) <;> omega
theorem cmp_eq {t s : Tree} (h : (rulesOf (nodes t)).length = (rulesOf (nodes s)).length) : treeCmp t s = if cmpL (rulesOf (nodes t)) (rulesOf (nodes s)) = 0 then cmpL (leavesOf (nodes t)) (leavesOf (nodes s)) else cmpL (rulesOf (nodes t)) (rulesOf (nodes s)) := by
  unfold treeCmp
  rw [h, cmp3_self]
  simp only [orL]
  by_cases h1 : cmpL (rulesOf (nodes t)) (rulesOf (nodes s)) = 0
  · by_cases h2 : cmpL (leavesOf (nodes t)) (leavesOf (nodes s)) = 0 <;> simp [h1, h2]
  · simp [h1]

def leafT : Tree := .node (-1) 0 []
theorem two_leaf : treeCmp twoT leafT = 1 := by decide

end TreeOrder
end Go.Proofs.Ytbnpemgmdnghgaa
namespace Go.Proofs.Ytbnpemgmdnghgaa
open Go.RowKit
namespace Cs

/-- what is listed is all there is -/
theorem listed_SE {g : Gram} {N n : Nat} {S : Nat → Nat → Bool} (hok : OkC g N) (hM : MK g.rules S N n g.start.toNat n = false) (hS : hasK S ⟨false, g.start⟩ n = true) {most deep : Nat} {L : List Tree} (h : lsT S most g.rules deep ⟨false, g.start⟩ n = some L) : L = SE g S N n ⟨false, g.start⟩ n := by
  have h1 := lsT_le (Nat.le_max_left deep (sizeK N n + 2)) h
  have h2 := lsT_en (fun r hr s hs ht => (hok.r r hr s hs ht).1) _ _ _ _ (fun _ => hok.s0) hS h1
  have hA : g.start.toNat < N := by have := hok.s0; have := hok.s1; omega
  have h3 := EN_all (ends_MM (rules := g.rules) (S := S) (N := N) (n := n) hok.r) hA (Nat.le_refl n) hM (max deep (sizeK N n + 2)) (Nat.le_max_right _ _)
  have he : ∀ e : Nat → Nat → List Tree, symE S e ⟨false, g.start⟩ n = e g.start.toNat n := by
    intro e
    unfold symE
    rw [if_neg (by rw [hS]; decide)]
    rfl
  rw [h2]
  unfold SE
  rw [he, he]
  exact h3
theorem start_has {g : Gram} {N n : Nat} {S : Nat → Nat → Bool} (h : 0 < (SE g S N n ⟨false, g.start⟩ n).length) : hasK S ⟨false, g.start⟩ n = true := by
  cases hh : hasK S ⟨false, g.start⟩ n with
  | true => rfl
  | false =>
    unfold SE symE at h
    rw [if_pos hh] at h
    simp at h
theorem okC_l4 {g : Gram} (h : checkG g = 0) : ∀ r ∈ g.rules, r.right.length ≤ 4 := by
  unfold checkG at h
  by_cases hb : badHead g = true
  · rw [if_pos hb] at h; cases h
  · rw [if_neg hb] at h
    by_cases hl : 32 < g.rules.length
    · rw [if_pos hl] at h; cases h
    · rw [if_neg hl] at h
      intro r hr
      exact (faultsFrom_zero h r hr).2.2.1
theorem se_nodes {g : Gram} {N n : Nat} {S : Nat → Nat → Bool} (hok : OkC g N) (hck : checkG g = 0) (hn : n ≤ 24) (hM : MK g.rules S N n g.start.toNat n = false) {t : Tree} (ht : t ∈ SE g S N n ⟨false, g.start⟩ n) : (nodes t).length ≤ 1099511627776 := by
  unfold SE symE at ht
  by_cases hh : hasK S ⟨false, g.start⟩ n = false
  · rw [if_pos hh] at ht; cases ht
  · rw [if_neg hh] at ht
    simp only [Bool.false_eq_true, if_false] at ht
    exact nodes_bound hok.n2 hok.r (okC_l4 hck) hn (by have := hok.s0; have := hok.s1; omega) (Nat.le_refl n) hM ht
theorem cmpL_refl : ∀ l : List Int, cmpL l l = 0
  | [] => by simp [cmpL]
  | x :: l => by simp [cmpL, cmp3_self, cmpL_refl l]
theorem treeCmp_refl (t : Tree) : TreeOrder.treeCmp t t = 0 := by rw [TreeOrder.cmp_eq rfl, cmpL_refl, if_pos rfl, cmpL_refl]
theorem plain_err1 : errC plG 1 = 0 := by decide +kernel
theorem plain_fix1 : (p3 1 plG.rules (itP 1 plG.rules 1 (fun _ _ => false))).2 = false := by decide +kernel
theorem plain_start1 : startC plG (itP 1 plG.rules 1 (fun _ _ => false)) 1 1 = 1 := by decide +kernel
theorem plain_tree1 : SE plG (itP 1 plG.rules 1 (fun _ _ => false)) 1 1 ⟨false, 0⟩ 1 = [.node 0 0 [.node (-1) 0 []]] := by
  rfl
end Cs
end Go.Proofs.Ytbnpemgmdnghgaa
namespace Go.Proofs.Ytbnpemgmdnghgaa
open Go.RowKit
namespace Cs

/-- what draw.Tree and rank.Count answer, side by side -/
def DJ (g : Gram) (nn : Int) (l : List Bool) (r tm : Int) (v : Value) (k c x y : Int) (w : World) : Prop :=
  (y ≠ 0 ∧ c = y ∧ k = 0) ∨ (y = 0 ∧ x = 0 ∧ c = 10 ∧ k = 0) ∨
  (y = 0 ∧ 0 < x ∧ x < 1000000000 ∧ ∃ (N n : Nat) (S : Nat → Nat → Bool), errC g nn = 0 ∧ OkC g N ∧ nn = (n : Int) ∧ n ≤ 24 ∧ DoneC g n S ∧ startC g S N n = x ∧
    ((Draw.num x.toNat l = none ∧ c = 5 ∧ k = 0) ∨ ∃ (x' u : Nat) (t : Tree), Draw.num x.toNat l = some (x', u) ∧ c = 0 ∧ k = (u : Int) ∧ (SE g S N n ⟨false, g.start⟩ n)[x']? = some t ∧ r = t.rule ∧ tm = t.term ∧ Rd AnyB w (.sl (t.kids.map Tree.d)) [v]))
theorem dj_of {g : Gram} {nn : Int} {l : List Bool} {r tm : Int} {v : Value} {k c : Int} {w3 w w' : World} {e : Ending} (h1 : DtV g nn l r tm v k c w3) (h2 : CountPost g nn w e w') (hb : Below w3.heap.size w3 w') : ∃ x y : Int, e = .returned (.tuple #[.int .i64 x, .int .i64 y]) ∧ DJ g nn l r tm v k c x y w' := by
  obtain ⟨-, ⟨he, rfl⟩ | ⟨he, N, n, S, hok, hnn, h24, hd, hc⟩⟩ := h2
  · rcases h1 with ⟨_, h, h'⟩ | ⟨h, _⟩
    · exact ⟨_, _, rfl, .inl ⟨he, h, h'⟩⟩
    · exact absurd h he
  · rcases h1 with ⟨h, _⟩ | ⟨_, N', n', S', hok', hnn', _, hd', hv⟩
    · exact absurd he h
    · obtain rfl : n = n' := by omega
      obtain rfl := okC_one hok hok'
      obtain rfl := doneC_one hok hd hd'
      rcases hc with ⟨h6, rfl⟩ | ⟨h6, h7, rfl⟩ | ⟨h6, h7, rfl⟩
      · rcases hv with ⟨_, h, h'⟩ | ⟨h, _⟩ | ⟨h, _⟩
        · exact ⟨_, _, rfl, .inl ⟨by decide, h, h'⟩⟩
        · exact absurd h6 h
        · exact absurd h6 h
      · rcases hv with ⟨h, _⟩ | ⟨_, _, h, h'⟩ | ⟨_, h, _⟩
        · exact absurd h h6
        · exact ⟨_, _, rfl, .inl ⟨by decide, h, h'⟩⟩
        · omega
      · refine ⟨_, _, rfl, ?_⟩
        rcases hv with ⟨h, _⟩ | ⟨_, h, _⟩ | ⟨_, _, ⟨h, h', h''⟩ | ⟨hp, h⟩⟩
        · exact absurd h h6
        · omega
        · exact .inr (.inl ⟨rfl, h, h', h''⟩)
        · refine .inr (.inr ⟨rfl, hp, h7, N, n, S, he, hok, hnn, h24, hd, rfl, ?_⟩)
          rcases h with h | ⟨x, u, t, e1, e2, e3, e4, e5, e6, e7⟩
          · exact .inl h
          · exact .inr ⟨x, u, t, e1, e2, e3, e4, e5, e6, e7.below hb⟩
/-- the first lines of the law -/
theorem plainDraw (ra : Option Addr) (rcap : Nat) (w : World) (hr : Rd AnyB w (.sl (plG.rules.map Rule.d)) [.slice ra plG.rules.length rcap]) :
    Calls Try.prog 21 #[.agg #[.int .i64 2, .int .i64 1, .int .i64 0, .slice ra 2 rcap], .int .i64 1, .slice none 0 0] w (fun e w' => ∃ a c, e = .returned (.tuple #[.agg #[.int .i64 0, .int .i64 0, .slice a 1 c], .int .i64 0, .int .i64 0]) ∧ Rd AnyB w' (.sl ([Tree.node (-1) 0 []].map Tree.d)) [.slice a 1 c] ∧ Below w.heap.size w w') := by
  refine (drawTreeE plG ra rcap 1 (.slice none 0 0) [] w hr (by exact ⟨none, 0, rfl, by simp [bools], by simp [maxLen], fun _ => rfl, fun i h => by simp [bools] at h⟩) (by simp)).mono ?_
  rintro e w' ⟨hb, r, tm, a, m, c2, k, c, rfl, hv⟩
  rcases hv with ⟨h, _⟩ | ⟨_, N, n, S, hok, hnn, _, hd, hv⟩
  · exact absurd plain_err1 h
  · obtain rfl : n = 1 := by omega
    obtain rfl : N = 1 := by have := hok.nons; simp [plG] at this; omega
    have hS : S = itP 1 plG.rules 1 (fun _ _ => false) := doneC_one hok hd ⟨⟨1, rfl⟩, plain_fix1⟩
    subst hS
    rw [plain_start1] at hv
    have hnum : Draw.num (1 : Int).toNat [] = some (0, 0) := num_one []
    rcases hv with ⟨h, _⟩ | ⟨_, h, _⟩ | ⟨_, _, ⟨h, _⟩ | ⟨_, ⟨h, _⟩ | ⟨x, u, t, e1, rfl, rfl, e4, rfl, rfl, e7⟩⟩⟩
    · cases h
    · exact absurd h (by decide)
    · cases h
    · rw [hnum] at h; cases h
    · rw [hnum] at e1
      cases e1
      have hst : plG.start = 0 := rfl
      rw [hst, plain_tree1] at e4
      simp at e4
      subst e4
      have hm := e7.bounds.1
      simp [Tree.kids] at hm
      subst hm
      exact ⟨a, c2, rfl, e7, hb⟩

set_option maxHeartbeats 8000000 in
set_option maxRecDepth 100000 in
theorem lawDT (g : Gram) (vr : Value) (nn : Int) (vl : Value) (l : List Bool) (w : World) (hr : Rd AnyB w (.sl (g.rules.map Rule.d)) [vr]) (hv : Sl w vl (bools l)) (hL : l.length ≤ 140737488355328) :
    Calls Try.prog 5 #[.agg #[.int .i64 g.terms, .int .i64 g.nons, .int .i64 g.start, vr], .int .i64 nn, vl] w fun e w' => e = .returned (.bool true) ∧ Below w.heap.size w w' := by
  obtain ⟨ra, rcap, rfl, hrc1, hrc2⟩ := hr.form
  rw [List.length_map] at hr hrc1
  rw [List.length_map]
  unfold maxLen at hrc2
  obtain ⟨w0, HW0⟩ := nameIt (w.alloc (.cells #[.int .i64 g.terms, .int .i64 g.nons, .int .i64 g.start, .slice ra g.rules.length rcap] 24))
  have hb0 : Below w.heap.size w w0 := by rw [← HW0.out]; exact (Below.refl _ _).alloc (Nat.le_refl _) _
  have X0 : Hid (w0.heap[w.heap.size]? = some (.cells #[.int .i64 g.terms, .int .i64 g.nons, .int .i64 g.start, .slice ra g.rules.length rcap] 24 (0, 0))) := by rw [← HW0.out]; exact bx_new _ _ _ rfl
  have HR := Lib.hid (hr.below hb0)
  have HDT : Hid (∀ W, Below w0.heap.size w0 W → Calls Try.prog 21 #[.agg #[.int .i64 g.terms, .int .i64 g.nons, .int .i64 g.start, .slice ra g.rules.length rcap], .int .i64 nn, vl] W (DtPost g nn l W)) :=
    fun W hb => drawTreeE g ra rcap nn vl l W (HR.out.below hb) ((hv.keep hb0).keep hb) hL
  have HCN : Hid (∀ W, Below w0.heap.size w0 W → Calls Try.prog 17 #[.agg #[.int .i64 g.terms, .int .i64 g.nons, .int .i64 g.start, .slice ra g.rules.length rcap], .int .i64 nn] W (CountPost g nn W)) :=
    fun W hb => rankCountE g ra rcap nn W (HR.out.below hb)
  have HCO : Hid (∀ (x : Int) W, Below w0.heap.size w0 W → 1 ≤ x → x ≤ 1000000000 → Calls Try.prog 23 #[.int .i64 x, vl] W fun e w' => e = .returned (coinRes (Draw.num x.toNat l)) ∧ W = w') :=
    fun x W hb h1 h2 => coins x vl l W ((hv.keep hb0).keep hb) hL h1 h2
  have HLI : Hid (∀ (N n : Nat) (S : Nat → Nat → Bool) W, Below w0.heap.size w0 W → errC g nn = 0 → OkC g N → nn = (n : Int) → n ≤ 24 → DoneC g n S → Calls Try.prog 24 #[.agg #[.int .i64 g.terms, .int .i64 g.nons, .int .i64 g.start, .slice ra g.rules.length rcap], .int .i64 nn, .int .i64 200, .int .i64 60] W (LsPost (lsT S 200 g.rules 60 ⟨false, g.start⟩ n) W)) := by
    intro N n S W hb he hok hnn h24 hd
    subst hnn
    exact listedE g ra rcap N n 200 60 S hok (errC_check he) h24 hd (by decide) (by decide) (by decide) W (HR.out.below hb)
  have HLS : Hid (∀ (N n x' : Nat) (S : Nat → Nat → Bool) (t : Tree) (x : Int), errC g nn = 0 → OkC g N → n ≤ 24 → startC g S N n = x → 0 < x → x < 1000000000 → (SE g S N n ⟨false, g.start⟩ n)[x']? = some t → (nodes t).length ≤ 1099511627776 ∧ ∀ L, lsT S 200 g.rules 60 ⟨false, g.start⟩ n = some L → x' < L.length ∧ L[x']? = some t) := by
    intro N n x' S t x he hok h24 hst hx0 hx9 ht
    subst hst
    obtain ⟨e1, e2, e3⟩ := start_val (S := S) (n := n) hok (by omega) (by unfold MaxC; omega)
    have hM := e3 (by omega)
    have hS := start_has (g := g) (S := S) (N := N) (n := n) (by omega)
    refine ⟨se_nodes hok (errC_check he) h24 hM (List.mem_of_getElem? ht), fun L hL => ?_⟩
    rw [listed_SE hok hM hS hL]
    exact ⟨(List.getElem?_eq_some_iff.1 ht).1, ht⟩
  have HPL := Lib.hid (fun W => plE W)
  obtain ⟨PST, HP⟩ := nameIt (fun (e : Ending) (w' : World) => e = .returned (.bool true) ∧ Below w.heap.size w w')
  rw [HP.out]
  have HFIN : Hid (∀ w', Below w0.heap.size w0 w' → PST (.returned (.bool true)) w') := by
    intro w' h
    rw [← HP.out]
    exact ⟨rfl, hb0.trans (h.mono hb0.size)⟩
  obtain ⟨vll, hvll, hvl1, hvl2⟩ : ∃ a c, vl = .slice a (bools l).length c ∧ True := by obtain ⟨a, c, e, _⟩ := hv; exact ⟨a, c, e, trivial⟩
  subst hvl1
  obtain ⟨gt, HGT⟩ := nameIt g.terms
  obtain ⟨gn, HGN⟩ := nameIt g.nons
  obtain ⟨gs, HGS⟩ := nameIt g.start
  obtain ⟨rl, HRL⟩ := nameIt g.rules.length
  obtain ⟨bl, HBLL⟩ := nameIt (bools l).length
  rw [HGT.out, HGN.out, HGS.out, HRL.out] at HW0 X0 HCN
  simp only [HGT.out, HGN.out, HGS.out, HRL.out, HBLL.out] at HDT HCO HLI
  rw [HGT.out, HGN.out, HGS.out, HRL.out, HBLL.out]
  have HGB : Hid (∀ W', Below w0.heap.size w0 W' → W'.cell? ⟨w.heap.size, 0, none⟩ = some (.int .i64 gt) ∧ W'.cell? ⟨w.heap.size, 0 + 1, none⟩ = some (.int .i64 gn) ∧ W'.cell? ⟨w.heap.size, 0 + 2, none⟩ = some (.int .i64 gs) ∧ W'.cell? ⟨w.heap.size, 0 + 3, none⟩ = some (.slice ra rl rcap)) := fun W' h => bx_cells4 (bx_keep X0.out h)
  obtain ⟨gb, HGBN⟩ := nameIt w.heap.size
  rw [HGBN.out] at HGB
  clear hr hb0 HP X0 hv hL hvl2
  go_enter Try.func5, Try.ntmps5
  go_upto_region 1 with fail
  rw [HW0.out, HGBN.out]
  go_wp2_with fail
  refine (HPL.out _).mono ?_
  rintro e w1 ⟨v1, rfl, hr1, hb1⟩
  obtain ⟨a1, c1, rfl, -, -⟩ := hr1.form
  have HPD := Lib.hid (plainDraw a1 c1 w1 hr1)
  have HB1 := Lib.hid hb1
  rw [show plG.terms = 2 from rfl, show plG.nons = 1 from rfl, show plG.start = 0 from rfl, show (plG.rules.map Rule.d).length = 2 from rfl]
  clear hr1 hb1
  go_wp2_with fail
  refine HPD.out.mono ?_
  rintro e w2 ⟨a2, c2, rfl, hr2, hb2⟩
  have HR2 := Lib.hid hr2
  have HB2 := Lib.hid (HB1.out.trans (hb2.mono HB1.out.size))
  clear hr2 hb2
  obtain ⟨w3, HW3⟩ := nameIt (w2.alloc (.cells #[.int .i64 0, .int .i64 0, .slice a2 1 c2] 42))
  have HB23 : Hid (Below w2.heap.size w2 w3) := by rw [← HW3.out]; exact (Below.refl _ _).alloc (Nat.le_refl _) _
  have X3 : Hid (w3.heap[w2.heap.size]? = some (.cells #[.int .i64 0, .int .i64 0, .slice a2 1 c2] 42 (0, 0))) := by rw [← HW3.out]; exact bx_new _ _ _ rfl
  have HB3 := Lib.hid (HB2.out.trans (HB23.out.mono HB2.out.size))
  have HSZ : Hid (Calls Try.prog 22 #[.agg #[.int .i64 0, .int .i64 0, .slice a2 1 c2]] w3 fun e w' => e = .returned (.int .i64 2) ∧ Below w3.heap.size w3 w') := by
    have h := sizeE (.node 0 0 [.node (-1) 0 []]) (.slice a2 1 c2) w3 (HR2.out.below HB23.out) (by simp [nodes, nodesL])
    have hn : (nodes (.node 0 0 [.node (-1) 0 []])).length = 2 := by simp [nodes, nodesL]
    rw [hn] at h
    exact h
  obtain ⟨tb, HTB⟩ := nameIt w2.heap.size
  rw [HTB.out] at X3
  go_upto_region 2 with fail
  rw [HW3.out, HTB.out]
  obtain ⟨z0, z1, z2⟩ := bx_cells3 X3.out
  go_wp2_with fail
  refine HSZ.out.mono ?_
  rintro e w4 ⟨rfl, hb4⟩
  have HB4 := Lib.hid (HB3.out.trans (hb4.mono HB3.out.size))
  clear z0 z1 z2 hb4 HSZ HPD HPL
  obtain ⟨x0, x1, x2, x3⟩ := HGB.out w4 HB4.out
  go_wp2_with fail
  refine (HDT.out w4 HB4.out).mono ?_
  rintro e w5 ⟨hb5, r, tm, a5, m5, c5, k, c, rfl, hv5⟩
  have HB5 := Lib.hid (HB4.out.trans (hb5.mono HB4.out.size))
  have HV5 := Lib.hid hv5
  clear hv5 hb5 x0 x1 x2 x3
  obtain ⟨w6, HW6⟩ := nameIt (w5.alloc (.cells #[.int .i64 r, .int .i64 tm, .slice a5 m5 c5] 42))
  have HB56 : Hid (Below w5.heap.size w5 w6) := by rw [← HW6.out]; exact (Below.refl _ _).alloc (Nat.le_refl _) _
  have X6 : Hid (w6.heap[w5.heap.size]? = some (.cells #[.int .i64 r, .int .i64 tm, .slice a5 m5 c5] 42 (0, 0))) := by rw [← HW6.out]; exact bx_new _ _ _ rfl
  have HB6 := Lib.hid (HB5.out.trans (HB56.out.mono HB5.out.size))
  obtain ⟨ub, HUB⟩ := nameIt w5.heap.size
  rw [HUB.out] at X6
  go_upto_region 5 with fail
  rw [HW6.out, HUB.out]
  obtain ⟨x0, x1, x2, x3⟩ := HGB.out w6 HB6.out
  go_wp2_with fail
  refine (HCN.out w6 HB6.out).mono ?_
  intro e w7 hcp
  have hb7 : Below w6.heap.size w6 w7 := hcp.1
  have HB7 := Lib.hid (HB6.out.trans (hb7.mono HB6.out.size))
  obtain ⟨x, y, rfl, hj⟩ := dj_of HV5.out hcp (HB56.out.trans (hb7.mono HB56.out.size))
  have HJ := Lib.hid hj
  have X7 := Lib.hid (bx_keep X6.out hb7)
  clear hcp hb7 hj x0 x1 x2 x3 HV5
  rcases HJ.out with ⟨hy, rfl, rfl⟩ | ⟨rfl, rfl, rfl, rfl⟩ | ⟨rfl, hx0, hx9, N, n, S, he, hok, hnn, h24, hd, hst, hh⟩
  · have hy1 : (c == 0) = false := by simpa using hy
    have hy2 : (c != 0) = true := by simpa using hy
    have HF := Lib.hid (HFIN.out w7 HB7.out)
    clear hy HJ
    go_wp2_with fail
    first | exact HF.out | (refine bodyPost_ret (v := .bool true) (by simp [results, Try.results5, go_sem]) rfl ?_; exact HF.out)
  · have HF := Lib.hid (HFIN.out w7 HB7.out)
    clear HJ
    go_wp2_with fail
    first | exact HF.out | (refine bodyPost_ret (v := .bool true) (by simp [results, Try.results5, go_sem]) rfl ?_; exact HF.out)
  · have hx1 : (x == 0) = false := by simp; omega
    have HCX := Lib.hid (HCO.out x w7 HB7.out (by omega) (by omega))
    rcases hh with ⟨hnum, rfl, rfl⟩ | ⟨x', u, t, hnum, rfl, rfl, ht, rfl, rfl, hrd⟩
    · rw [hnum] at HCX
      simp only [coinRes] at HCX
      have HF := Lib.hid (HFIN.out w7 HB7.out)
      clear HJ hx0 hx9 he hok hd hst hnum hnn HLS HLI
      go_wp2_with fail
      refine HCX.out.mono ?_
      rintro e w' ⟨rfl, rfl⟩
      go_wp2_with fail
      first | exact HF.out | (refine bodyPost_ret (v := .bool true) (by simp [results, Try.results5, go_sem]) rfl ?_; exact HF.out)
    · rw [hnum] at HCX
      simp only [coinRes] at HCX
      obtain ⟨hnd, hls⟩ := HLS.out N n x' S t x he hok h24 hst hx0 hx9 ht
      have HLX := Lib.hid (HLI.out N n S w7 HB7.out he hok hnn h24 hd)
      have HRD := Lib.hid hrd
      rw [HGS.out] at hls
      have HLT := Lib.hid hls
      obtain ⟨spec, HSP⟩ := nameIt (lsT S 200 g.rules 60 ⟨false, gs⟩ n)
      rw [HSP.out] at HLX HLT
      obtain ⟨x0, x1, x2, x3⟩ := HGB.out w7 HB7.out
      clear HJ hx0 he hok hd hst hnum hnn HLS HLI ht hrd hls
      go_wp2_with fail
      refine HCX.out.mono ?_
      rintro e w' ⟨rfl, rfl⟩
      go_wp2_with fail
      with_reducible refine HLX.out.mono ?_
      rintro e w8 ⟨a8, n8, c8, rfl, hb8, hrd8⟩
      have HB8 := Lib.hid (HB7.out.trans (hb8.mono HB7.out.size))
      have X8 := Lib.hid (bx_keep X7.out hb8)
      have HRD8 := Lib.hid (HRD.out.below hb8)
      clear x0 x1 x2 x3 hb8
      cases spec with
      | none =>
        go_upto_region 14 with fail
        go_quiet (fail)
        have HF := Lib.hid (HFIN.out _ (HB8.out.trans ((below_drewN w8 nq).mono HB8.out.size)))
        go_wp2_with fail
        first | exact HF.out | (refine bodyPost_ret (v := .bool true) (by simp [results, Try.results5, go_sem]) rfl ?_; exact HF.out)
      | some L =>
        have hr8 := hrd8 L rfl
        obtain ⟨hxl, hxt⟩ := HLT.out L rfl
        have hbb := hr8.bounds
        rw [List.length_map] at hbb
        obtain ⟨rfl, hcb1, hcb2⟩ := hbb
        unfold maxLen at hcb2
        obtain ⟨kb, ko, kv, rfl, -, -, q0, q1, q2, hkk⟩ := hr8.kid hxl
        have hLx : L[x'] = t := by
          rw [List.getElem?_eq_getElem hxl] at hxt
          exact Option.some.inj hxt
        rw [hLx] at q0 q1 hkk
        obtain ⟨kka, kkc, rfl, -, -⟩ := hkk.form
        have HCM : Hid (∀ W, Below w8.heap.size w8 W → Calls Try.prog 25 #[.agg #[.int .i64 t.rule, .int .i64 t.term, .slice a5 m5 c5], .agg #[.int .i64 t.rule, .int .i64 t.term, .slice kka (t.kids.map Tree.d).length kkc]] W fun e w' => e = .returned (.int .i64 0) ∧ Below W.heap.size W w') := by
          intro W hb
          have h := TreeOrder.compareT t _ t _ W (HRD8.out.below hb) (hkk.any.below hb) hnd hnd
          rw [treeCmp_refl] at h
          exact h
        obtain ⟨kn, HKN⟩ := nameIt (t.kids.map Tree.d).length
        obtain ⟨tr, HTR⟩ := nameIt t.rule
        obtain ⟨tt, HTT⟩ := nameIt t.term
        obtain ⟨ll, HLL⟩ := nameIt L.length
        rw [HTR.out] at q0 X8
        rw [HTT.out] at q1 X8
        rw [HKN.out] at q2
        rw [HTR.out, HTT.out, HKN.out] at HCM
        rw [HLL.out] at hcb1 hxl
        rw [HTR.out, HTT.out, HLL.out]
        obtain ⟨z0, z1, z2⟩ := bx_cells3 X8.out
        have hxl1 : (x' : Int) < (ll : Int) := by omega
        have hxl0 : (0 : Int) ≤ (x' : Int) := by omega
        have k0 := aft_cell z0
        have k1 := aft_cell z1
        have k2 := aft_cell z2
        have k3 := aft_cell q0
        have k4 := aft_cell q1
        have k5 := aft_cell q2
        clear hr8 hrd8 hkk hLx hxt z0 z1 z2 q0 q1 q2
        go_upto_region 14 with fail
        refine wp_region_after (by kernel_rfl) (by kernel_rfl) ?_
        repeat (go_big_quiet_step (with_reducible exact Calls.after (HCM.out _ (Aft.bel _))))
        refine wpQuiet_nil ?_
        rintro w9 ⟨⟨_, hb9⟩, rfl⟩
        have HF := Lib.hid (HFIN.out _ (HB8.out.trans (hb9.mono HB8.out.size)))
        clear hb9 k0 k1 k2 k3 k4 k5
        go_wp2_with fail
        first | exact HF.out | (refine bodyPost_ret (v := .bool true) (by simp [results, Try.results5, go_sem]) rfl ?_; exact HF.out)
end Cs
end Go.Proofs.Ytbnpemgmdnghgaa
namespace Go.Proofs.Ytbnpemgmdnghgaa
open Go.RowKit Go.ChangeShapes Go.WideShapes Go.Deep

/-- data of a type read as plain data, as far as the fuel N goes: sz: at most its bulk; ok: what its numbers keep; lim: what the reach gives -/
def OpensF {α : Type} (P : Program) (t : TypeId) (e : α → D) (sz : α → Nat) (ok lim : α → Prop) (N : Nat) : Prop :=
  ∀ (H : Type) (enc : TypeId × Value → H) (w : World) (n : Nat) (cs : List Value) (x : DataW H × List MemPlace), n ≤ N → DataW.trod enc P w 0 (fun _ => true) true n t cs = some x →
    ∃ a : α, Rd AnyB w (e a) cs ∧ sz a ≤ Rows.uptoBulk x.1 ∧ ok a ∧ ((∀ y ∈ DataW.weights P t x.1, y ≤ reachBytes) → lim a)
def Opens {α : Type} (P : Program) (t : TypeId) (e : α → D) (sz : α → Nat) (ok lim : α → Prop) : Prop := ∀ N, OpensF P t e sz ok lim N

def i64 (n : Int) : Prop := -9223372036854775808 ≤ n ∧ n ≤ 9223372036854775807
def one {α : Type} (_ : α) : Nat := 1
def any {α : Type} (_ : α) : Prop := True

theorem opens_int {P : Program} {t : TypeId} (ht : P.underlying t = some (.int .i64)) : Opens P t D.int one i64 any := by
  intro N H enc w n cs x _ h
  obtain ⟨z, h1, h2, h3⟩ := DataW.trod_int ht h
  subst h1 h2
  refine ⟨z, rfl, by simp [Rows.uptoBulk, one], ?_, fun _ => trivial⟩
  simpa [Lit.wf, IntKind.min, IntKind.max, IntKind.signed, IntKind.bits, i64] using h3
theorem opens_bool {P : Program} {t : TypeId} (ht : P.underlying t = some .bool) : Opens P t D.bool one any any := by
  intro N H enc w n cs x _ h
  obtain ⟨z, h1, h2⟩ := DataW.trod_bool ht h
  subst h1 h2
  exact ⟨z, rfl, by simp [Rows.uptoBulk, one], trivial, fun _ => trivial⟩

theorem bulkAll_append {H : Type} (l r : List (DataW H)) : Rows.uptoBulkAll (l ++ r) = Rows.uptoBulkAll l + Rows.uptoBulkAll r := by
  induction l with
  | nil => simp [Rows.uptoBulkAll]
  | cons x l ih => simp only [List.cons_append, Rows.uptoBulkAll, ih]; omega
theorem weightsAll_append {H : Type} (P : Program) (e : TypeId) (l r : List (DataW H)) : DataW.weightsAll P e (l ++ r) = DataW.weightsAll P e l ++ DataW.weightsAll P e r := by
  induction l with
  | nil => simp [DataW.weightsAll]
  | cons x l ih => simp [DataW.weightsAll, ih]

def slD {α : Type} (e : α → D) (l : List α) : D := .sl (l.map e)
def slSz {α : Type} (sz : α → Nat) (l : List α) : Nat := (l.map sz).sum + 1
def slOk {α : Type} (ok : α → Prop) (l : List α) : Prop := ∀ a ∈ l, ok a
def slLim {α : Type} (b : Nat) (lim : α → Prop) (l : List α) : Prop := l.length * b ≤ reachBytes ∧ ∀ a ∈ l, lim a

theorem opens_slice {α : Type} {P : Program} {t el : TypeId} {e : α → D} {sz : α → Nat} {ok lim : α → Prop} {N b : Nat} (ht : P.underlying t = some (.slice el)) (hby : P.bytesOf el = b) (ho : OpensF P el e sz ok lim N) :
    OpensF P t (slD e) (slSz sz) (slOk ok) (slLim b lim) N := by
  intro H enc w n cs x hn h
  rcases DataW.trod_slice ht h with ⟨rfl, rfl⟩ | ⟨a, len, cap, elems, rest, n', hf, rfl, rfl, hb, hl, hm, hlen, hel, _, _⟩
  · exact ⟨[], ⟨none, 0, [], rfl, by simp, by simp [maxLen], fun _ => rfl, fun i hi => by simp at hi, rfl⟩, by simp [Rows.uptoBulk, slSz], by simp [slOk], fun _ => ⟨by simp, by simp⟩⟩
  · have key : ∀ k, k ≤ len → ∃ (l : List α) (L : List Value), l.length = k ∧ RdAll AnyB w (l.map e) L ∧ L.length = k * P.cellsOf el ∧ (∀ j (hj : j < L.length), w.cell? (a.add j) = some L[j]) ∧
        (l.map sz).sum ≤ Rows.uptoBulkAll ((elems.take k).map (·.1)) ∧ slOk ok l ∧ ((∀ y ∈ DataW.weightsAll P el ((elems.take k).map (·.1)), y ≤ reachBytes) → ∀ a ∈ l, lim a) := by
      intro k
      induction k with
      | zero => intro _; exact ⟨[], [], rfl, by simp [RdAll], by simp, fun j hj => by simp at hj, by simp, by simp [slOk], fun _ => by simp⟩
      | succ k ih =>
        intro hk
        obtain ⟨l, L, h1, h2, h3, h4, h5, h6, h7⟩ := ih (by omega)
        have hk' : k < elems.length := by omega
        have he := hel k (by omega)
        rw [List.getElem?_eq_getElem hk'] at he
        obtain ⟨cs', hc1, hc2⟩ := Option.bind_eq_some_iff.1 he
        obtain ⟨a', r1, r2, r3, r4⟩ := ho H enc w n' cs' elems[k] (by omega) hc2
        obtain ⟨_, hcl, hcc⟩ := World.cells?_some hc1
        refine ⟨l ++ [a'], L ++ cs', by simp [h1], by rw [List.map_append]; exact RdAll.append h2 (RdAll.one r1), by simp [h3, hcl, Nat.add_mul], ?_, ?_, ?_, ?_⟩
        · intro j hj
          by_cases hjl : j < L.length
          · rw [List.getElem_append_left hjl]; exact h4 j hjl
          · simp at hj
            rw [List.getElem_append_right (by omega)]
            have := hcc (j - L.length) (by omega)
            rw [Deep.add_add, ← h3, show L.length + (j - L.length) = j by omega] at this
            rw [this, List.getElem?_eq_getElem (by omega)]
        · rw [List.take_succ_eq_append_getElem hk', List.map_append, List.map_append, bulkAll_append]
          simp [Rows.uptoBulkAll]
          simp at h5
          omega
        · intro y hy
          rcases List.mem_append.1 hy with h | h
          · exact h6 y h
          · simp at h; subst h; exact r3
        · intro hw y hy
          rw [List.take_succ_eq_append_getElem hk', List.map_append, weightsAll_append] at hw
          rcases List.mem_append.1 hy with h | h
          · exact h7 (fun z hz => hw z (List.mem_append_left _ hz)) y h
          · simp at h; subst h
            exact r4 (fun z hz => hw z (List.mem_append_right _ (by simpa [DataW.weightsAll] using hz)))
    obtain ⟨l, L, h1, h2, h3, h4, h5, h6, h7⟩ := key len (Nat.le_refl _)
    rw [List.take_of_length_le (by omega)] at h5 h7
    refine ⟨l, ⟨some a, cap, L, by simp [h1], by simpa [h1] using hl, hm, (fun h => by cases h), fun i hi => ⟨a, rfl, trivial, h4 i hi⟩, h2⟩, ?_, h6, ?_⟩
    · simp only [Rows.uptoBulk, slSz]; omega
    · intro hw
      simp only [DataW.weights, ht] at hw
      refine ⟨?_, h7 fun y hy => hw y (by simp [hy])⟩
      have := hw ((elems.map (·.1)).length + (rest.map (·.1)).length |>.mul (P.bytesOf el)) (by left)
      rw [h1, ← hlen, ← hby]
      have h8 : elems.length * P.bytesOf el ≤ ((elems.map (·.1)).length + (rest.map (·.1)).length) * P.bytesOf el := Nat.mul_le_mul_right _ (by simp)
      exact Nat.le_trans h8 this

theorem split2 {cs : List Value} {c0 c1 : Nat} (h : cs.length = c0 + c1) : cs = (cs.drop 0).take c0 ++ (cs.drop c0).take c1 := by
  rw [List.drop_zero, List.take_of_length_le (l := cs.drop c0) (by simp; omega), List.take_append_drop]
theorem split3 {cs : List Value} {c0 c1 c2 : Nat} (h : cs.length = c0 + c1 + c2) : cs = (cs.drop 0).take c0 ++ ((cs.drop c0).take c1 ++ (cs.drop (c0 + c1)).take c2) := by
  rw [← List.drop_drop, ← split2' (cs := cs.drop c0) (by simp; omega)]
  simp
where
  split2' {cs : List Value} {c1 c2 : Nat} (h : cs.length = c1 + c2) : cs = cs.take c1 ++ (cs.drop c1).take c2 := by
    have := split2 h
    simpa using this
theorem split4 {cs : List Value} {c0 c1 c2 c3 : Nat} (h : cs.length = c0 + c1 + c2 + c3) : cs = (cs.drop 0).take c0 ++ ((cs.drop c0).take c1 ++ ((cs.drop (c0 + c1)).take c2 ++ (cs.drop (c0 + c1 + c2)).take c3)) := by
  have h3 := split3 (cs := cs.drop c0) (c0 := c1) (c1 := c2) (c2 := c3) (by simp; omega)
  simp only [List.drop_drop, List.drop_zero] at h3 ⊢
  rw [← Nat.add_assoc, Nat.add_zero] at h3
  rw [← h3, List.take_append_drop]

theorem opens_struct2 {α β δ : Type} {P : Program} {t : TypeId} {f0 f1 : Field} {e0 : α → D} {e1 : β → D} {s0 : α → Nat} {s1 : β → Nat} {k0 l0 : α → Prop} {k1 l1 : β → Prop} {N c0 c1 : Nat} (mk : α → β → δ) {e : δ → D} {sz : δ → Nat} {ok lim : δ → Prop}
    (ht : P.underlying t = some (.struct #[f0, f1])) (ho : f0.offset = 0 ∧ f1.offset = c0 ∧ P.cellsOf f0.type = c0 ∧ P.cellsOf f1.type = c1 ∧ P.cellsOf t = c0 + c1)
    (h0 : OpensF P f0.type e0 s0 k0 l0 N) (h1 : OpensF P f1.type e1 s1 k1 l1 N)
    (he : ∀ a b, e (mk a b) = .agg [e0 a, e1 b]) (hs : ∀ a b, sz (mk a b) ≤ s0 a + s1 b + 1) (hk : ∀ a b, k0 a → k1 b → ok (mk a b)) (hl : ∀ a b, l0 a → l1 b → lim (mk a b)) : OpensF P t e sz ok lim (N + 1) := by
  intro H enc w n cs x hn h
  obtain ⟨xs, n', hf, rfl, hcl, hlen, hfs⟩ := DataW.trod_struct ht h
  obtain ⟨o0, o1, p0, p1, p2⟩ := ho
  match xs, hlen with
  | [y0, y1], _ =>
    have g0 : DataW.trod enc P w 0 (fun _ => true) true n' f0.type ((cs.drop f0.offset).take (P.cellsOf f0.type)) = some y0 := by simpa using hfs 0 f0 rfl
    have g1 : DataW.trod enc P w 0 (fun _ => true) true n' f1.type ((cs.drop f1.offset).take (P.cellsOf f1.type)) = some y1 := by simpa using hfs 1 f1 rfl
    obtain ⟨a, r1, r2, r3, r4⟩ := h0 H enc w n' _ _ (by omega) g0
    obtain ⟨b, q1, q2, q3, q4⟩ := h1 H enc w n' _ _ (by omega) g1
    rw [o0, p0] at r1
    rw [o1, p1] at q1
    refine ⟨mk a b, ?_, ?_, hk a b r3 q3, fun hw => ?_⟩
    · rw [he, split2 (hcl.trans p2)]
      exact ⟨_, _, rfl, r1, RdAll.one q1⟩
    · have := hs a b
      simp [Rows.uptoBulk, Rows.uptoBulkAll]; omega
    · simp [DataW.weights, ht, DataW.weightsEach] at hw
      exact hl a b (r4 fun y hy => hw y (by simp [hy])) (q4 fun y hy => hw y (by simp [hy]))

theorem opens_struct3 {α β γ δ : Type} {P : Program} {t : TypeId} {f0 f1 f2 : Field} {e0 : α → D} {e1 : β → D} {e2 : γ → D} {s0 : α → Nat} {s1 : β → Nat} {s2 : γ → Nat} {k0 l0 : α → Prop} {k1 l1 : β → Prop} {k2 l2 : γ → Prop} {N c0 c1 c2 : Nat} (mk : α → β → γ → δ) {e : δ → D} {sz : δ → Nat} {ok lim : δ → Prop}
    (ht : P.underlying t = some (.struct #[f0, f1, f2])) (ho : f0.offset = 0 ∧ f1.offset = c0 ∧ f2.offset = c0 + c1 ∧ P.cellsOf f0.type = c0 ∧ P.cellsOf f1.type = c1 ∧ P.cellsOf f2.type = c2 ∧ P.cellsOf t = c0 + c1 + c2)
    (h0 : OpensF P f0.type e0 s0 k0 l0 N) (h1 : OpensF P f1.type e1 s1 k1 l1 N) (h2 : OpensF P f2.type e2 s2 k2 l2 N)
    (he : ∀ a b c, e (mk a b c) = .agg [e0 a, e1 b, e2 c]) (hs : ∀ a b c, sz (mk a b c) ≤ s0 a + s1 b + s2 c + 1) (hk : ∀ a b c, k0 a → k1 b → k2 c → ok (mk a b c)) (hl : ∀ a b c, l0 a → l1 b → l2 c → lim (mk a b c)) : OpensF P t e sz ok lim (N + 1) := by
  intro H enc w n cs x hn h
  obtain ⟨xs, n', hf, rfl, hcl, hlen, hfs⟩ := DataW.trod_struct ht h
  obtain ⟨o0, o1, o2, p0, p1, p2, p3⟩ := ho
  match xs, hlen with
  | [y0, y1, y2], _ =>
    have g0 : DataW.trod enc P w 0 (fun _ => true) true n' f0.type ((cs.drop f0.offset).take (P.cellsOf f0.type)) = some y0 := by simpa using hfs 0 f0 rfl
    have g1 : DataW.trod enc P w 0 (fun _ => true) true n' f1.type ((cs.drop f1.offset).take (P.cellsOf f1.type)) = some y1 := by simpa using hfs 1 f1 rfl
    have g2 : DataW.trod enc P w 0 (fun _ => true) true n' f2.type ((cs.drop f2.offset).take (P.cellsOf f2.type)) = some y2 := by simpa using hfs 2 f2 rfl
    obtain ⟨a, r1, r2, r3, r4⟩ := h0 H enc w n' _ _ (by omega) g0
    obtain ⟨b, q1, q2, q3, q4⟩ := h1 H enc w n' _ _ (by omega) g1
    obtain ⟨c, u1, u2, u3, u4⟩ := h2 H enc w n' _ _ (by omega) g2
    rw [o0, p0] at r1
    rw [o1, p1] at q1
    rw [o2, p2] at u1
    refine ⟨mk a b c, ?_, ?_, hk a b c r3 q3 u3, fun hw => ?_⟩
    · rw [he, split3 (hcl.trans p3)]
      exact ⟨_, _, rfl, r1, _, _, rfl, q1, RdAll.one u1⟩
    · have := hs a b c
      simp [Rows.uptoBulk, Rows.uptoBulkAll]; omega
    · simp [DataW.weights, ht, DataW.weightsEach] at hw
      exact hl a b c (r4 fun y hy => hw y (by simp [hy])) (q4 fun y hy => hw y (by simp [hy])) (u4 fun y hy => hw y (by simp [hy]))

theorem opens_struct4 {α β γ ε δ : Type} {P : Program} {t : TypeId} {f0 f1 f2 f3 : Field} {e0 : α → D} {e1 : β → D} {e2 : γ → D} {e3 : ε → D} {s0 : α → Nat} {s1 : β → Nat} {s2 : γ → Nat} {s3 : ε → Nat} {k0 l0 : α → Prop} {k1 l1 : β → Prop} {k2 l2 : γ → Prop} {k3 l3 : ε → Prop} {N c0 c1 c2 c3 : Nat} (mk : α → β → γ → ε → δ) {e : δ → D} {sz : δ → Nat} {ok lim : δ → Prop}
    (ht : P.underlying t = some (.struct #[f0, f1, f2, f3])) (ho : f0.offset = 0 ∧ f1.offset = c0 ∧ f2.offset = c0 + c1 ∧ f3.offset = c0 + c1 + c2 ∧ P.cellsOf f0.type = c0 ∧ P.cellsOf f1.type = c1 ∧ P.cellsOf f2.type = c2 ∧ P.cellsOf f3.type = c3 ∧ P.cellsOf t = c0 + c1 + c2 + c3)
    (h0 : OpensF P f0.type e0 s0 k0 l0 N) (h1 : OpensF P f1.type e1 s1 k1 l1 N) (h2 : OpensF P f2.type e2 s2 k2 l2 N) (h3 : OpensF P f3.type e3 s3 k3 l3 N)
    (he : ∀ a b c d, e (mk a b c d) = .agg [e0 a, e1 b, e2 c, e3 d]) (hs : ∀ a b c d, sz (mk a b c d) ≤ s0 a + s1 b + s2 c + s3 d + 1) (hk : ∀ a b c d, k0 a → k1 b → k2 c → k3 d → ok (mk a b c d)) (hl : ∀ a b c d, l0 a → l1 b → l2 c → l3 d → lim (mk a b c d)) : OpensF P t e sz ok lim (N + 1) := by
  intro H enc w n cs x hn h
  obtain ⟨xs, n', hf, rfl, hcl, hlen, hfs⟩ := DataW.trod_struct ht h
  obtain ⟨o0, o1, o2, o3, p0, p1, p2, p3, p4⟩ := ho
  match xs, hlen with
  | [y0, y1, y2, y3], _ =>
    have g0 : DataW.trod enc P w 0 (fun _ => true) true n' f0.type ((cs.drop f0.offset).take (P.cellsOf f0.type)) = some y0 := by simpa using hfs 0 f0 rfl
    have g1 : DataW.trod enc P w 0 (fun _ => true) true n' f1.type ((cs.drop f1.offset).take (P.cellsOf f1.type)) = some y1 := by simpa using hfs 1 f1 rfl
    have g2 : DataW.trod enc P w 0 (fun _ => true) true n' f2.type ((cs.drop f2.offset).take (P.cellsOf f2.type)) = some y2 := by simpa using hfs 2 f2 rfl
    have g3 : DataW.trod enc P w 0 (fun _ => true) true n' f3.type ((cs.drop f3.offset).take (P.cellsOf f3.type)) = some y3 := by simpa using hfs 3 f3 rfl
    obtain ⟨a, r1, r2, r3, r4⟩ := h0 H enc w n' _ _ (by omega) g0
    obtain ⟨b, q1, q2, q3, q4⟩ := h1 H enc w n' _ _ (by omega) g1
    obtain ⟨c, u1, u2, u3, u4⟩ := h2 H enc w n' _ _ (by omega) g2
    obtain ⟨d, v1, v2, v3, v4⟩ := h3 H enc w n' _ _ (by omega) g3
    rw [o0, p0] at r1
    rw [o1, p1] at q1
    rw [o2, p2] at u1
    rw [o3, p3] at v1
    refine ⟨mk a b c d, ?_, ?_, hk a b c d r3 q3 u3 v3, fun hw => ?_⟩
    · rw [he, split4 (hcl.trans p4)]
      exact ⟨_, _, rfl, r1, _, _, rfl, q1, _, _, rfl, u1, RdAll.one v1⟩
    · have := hs a b c d
      simp [Rows.uptoBulk, Rows.uptoBulkAll]; omega
    · simp [DataW.weights, ht, DataW.weightsEach] at hw
      exact hl a b c d (r4 fun y hy => hw y (by simp [hy])) (q4 fun y hy => hw y (by simp [hy])) (u4 fun y hy => hw y (by simp [hy])) (v4 fun y hy => hw y (by simp [hy]))

/-- the argument j -/
theorem open_arg {α : Type} {P : Program} {t : TypeId} {e : α → D} {sz : α → Nat} {ok lim : α → Prop} (ho : Opens P t e sz ok lim) {H : Type} {enc : TypeId × Value → H} {W : World} {v : Value} {d : DataW H} {p : List MemPlace} (h : DataW.Trod enc P W 0 (fun _ => true) true t v d p) :
    ∃ a : α, Rd AnyB W (e a) v.cells.toList ∧ sz a ≤ Rows.uptoBulk d ∧ ok a ∧ ((∀ y ∈ DataW.weights P t d, y ≤ reachBytes) → lim a) := by
  obtain ⟨n, hn⟩ := h
  exact ho n H enc W n _ _ (Nat.le_refl _) hn
end Go.Proofs.Ytbnpemgmdnghgaa
namespace Go.Proofs.Ytbnpemgmdnghgaa
open Go.RowKit Go.ChangeShapes Go.WideShapes Go.Deep Go.Joins

def okSym (s : Sym) : Prop := i64 s.n
def okRule (r : Rule) : Prop := i64 r.left ∧ ∀ s ∈ r.right, okSym s
def okGram (g : Gram) : Prop := i64 g.terms ∧ i64 g.nons ∧ i64 g.start ∧ ∀ r ∈ g.rules, okRule r
def szSym (_ : Sym) : Nat := 1
def szRule (r : Rule) : Nat := slSz szSym r.right
def szGram (g : Gram) : Nat := slSz szRule g.rules

set_option maxRecDepth 100000 in
theorem opens_symF (N : Nat) : OpensF Try.prog 65 Sym.d szSym okSym any (N + 1) :=
  opens_struct2 (c0 := 1) (c1 := 1) (fun a b => Sym.mk a b) Try.underlying65 ⟨rfl, rfl, by kernel_rfl, by kernel_rfl, by kernel_rfl⟩ (opens_bool Try.underlying4 N) (opens_int Try.underlying3 N)
    (fun _ _ => rfl) (fun _ _ => by simp [szSym]) (fun _ _ _ h => h) (fun _ _ _ _ => trivial)
set_option maxRecDepth 100000 in
theorem opens_ruleF (N : Nat) : OpensF Try.prog 48 Rule.d szRule okRule any (N + 1 + 1) :=
  opens_struct2 (c0 := 1) (c1 := 1) (fun a b => Rule.mk a b) Try.underlying48 ⟨rfl, rfl, by kernel_rfl, by kernel_rfl, by kernel_rfl⟩ (opens_int Try.underlying3 (N + 1)) (opens_slice Try.underlying46 (b := 16) (by kernel_rfl) (opens_symF N))
    (fun _ _ => rfl) (fun _ _ => by simp [szRule]; omega) (fun _ _ h k => ⟨h, k⟩) (fun _ _ _ _ => trivial)
set_option maxRecDepth 100000 in
theorem opens_gramF (N : Nat) : OpensF Try.prog 24 Gram.d szGram okGram any (N + 1 + 1 + 1) :=
  opens_struct4 (c0 := 1) (c1 := 1) (c2 := 1) (c3 := 1) (fun a b c d => Gram.mk a b c d) Try.underlying24 ⟨rfl, rfl, rfl, rfl, by kernel_rfl, by kernel_rfl, by kernel_rfl, by kernel_rfl, by kernel_rfl⟩ (opens_int Try.underlying3 (N + 1 + 1)) (opens_int Try.underlying3 (N + 1 + 1)) (opens_int Try.underlying3 (N + 1 + 1)) (opens_slice Try.underlying22 (b := 32) (by kernel_rfl) (opens_ruleF N))
    (fun _ _ _ _ => rfl) (fun _ _ _ _ => by simp [szGram]; omega) (fun _ _ _ _ h1 h2 h3 h4 => ⟨h1, h2, h3, h4⟩) (fun _ _ _ _ _ _ _ _ => trivial)
theorem opens_gram : Opens Try.prog 24 Gram.d szGram okGram any := by
  intro N H enc w n cs x hn h
  exact opens_gramF N H enc w n cs x (by omega) h

set_option maxRecDepth 100000 in
theorem open_gramV {W : World} {base : Nat} {v : Value} {g : Gram} (hv : Value.okWide Try.prog W .any base 24 v) (h : Rd AnyB W g.d v.cells.toList) : ∃ u, v = .agg #[.int .i64 g.terms, .int .i64 g.nons, .int .i64 g.start, u] ∧ Rd AnyB W (.sl (g.rules.map Rule.d)) [u] := by
  obtain ⟨cs, rfl, hsz⟩ := okWide_struct Try.underlying24 hv
  obtain ⟨c1, r1, e1, h1, h2⟩ := h
  obtain ⟨c2, r2, rfl, h2, h3⟩ := h2
  obtain ⟨c3, r3, rfl, h3, h4⟩ := h3
  rw [RdAll.one_iff] at h4
  simp [Rd] at h1 h2 h3
  subst h1 h2 h3
  have h5 := h4
  obtain ⟨a, cap, L, e, _⟩ := h4
  subst e
  refine ⟨_, ?_, h5⟩
  congr 1
  exact Array.toList_inj.1 e1
end Go.Proofs.Ytbnpemgmdnghgaa
namespace Go.Proofs.Ytbnpemgmdnghgaa
open Go.RowKit Go.ChangeShapes Go.WideShapes Go.Deep

theorem opens_bools : Opens Try.prog 51 (slD D.bool) (slSz one) (slOk any) (slLim 1 any) := fun N => opens_slice Try.underlying51 (by kernel_rfl) (opens_bool Try.underlying4 N)
theorem rdAll_bools {S : Nat → Prop} {w : World} : ∀ (l : List Bool) (L : List Value), RdAll S w (l.map D.bool) L → L = bools l
  | [], L, h => by simpa [RdAll, bools] using h
  | b :: l, L, h => by
    obtain ⟨c1, c2, rfl, h1, h2⟩ := h
    have := rdAll_bools l c2 h2
    subst this
    simp [Rd] at h1
    subst h1
    simp [bools]
theorem sl_bools {w : World} {v : Value} {l : List Bool} (h : Rd AnyB w (slD D.bool l) [v]) : Sl w v (bools l) := by
  obtain ⟨a, cap, L, e, h1, h2, h3, h4, h5⟩ := h
  have := rdAll_bools l L h5
  subst this
  simp at e h1
  subst e
  refine ⟨a, cap, by simp [bools], by simpa [bools] using h1, h2, h3, fun i hi => ?_⟩
  obtain ⟨x, e, _, h5⟩ := h4 i hi
  exact ⟨x, e, h5⟩
end Go.Proofs.Ytbnpemgmdnghgaa
namespace Go.Proofs.Ytbnpemgmdnghgaa.RowDrawTrees
open Go.ChangeShapes Go.WideShapes Go.ChangeAt Go.RowKit
theorem own : ownKnob Try.prog.godebug = none := by kernel_rfl
theorem laidOut : laidOutB Try.prog = true := by kernel_rfl

set_option maxRecDepth 100000 in
theorem contract (H : Type) (enc : TypeId × Value → H) (W : World) (base : Nat) (args : Array Value) (ds gs : List (DataW H)) (before : List MemPlace)
    (hval0 : ∀ (j : Nat) t v, Try.f5.params[j]? = some t → args[j]? = some v → Value.okWide Try.prog W .any base t v)
    (hW : DataW.Whole enc Try.prog Try.f5.params.toList Rows.drawTreesSpec.vars false W args.toList ds gs before)
    (hsz0 : (DataW.weightsEach Try.prog (Try.f5.params.toList ++ Rows.drawTreesSpec.plain.varTypes Try.prog) (ds ++ gs)).all (· ≤ reachBytes) = true) :
    Calls Try.prog 5 args W fun e W' => ∃ v, e = .returned v ∧ Rows.drawTreesSpec.post enc Try.prog Try.f5 false true false false W args v W' := by
  have hval : ∀ (j : Nat) t v, Try.f5.params[j]? = some t → args[j]? = some v → Value.okWide Try.prog W .any base t v := hval0
  have hW' := hW
  obtain ⟨p, q, hA0, hV, rfl, hfz, hnd⟩ := hW
  have hA : DataW.TrodAll enc Try.prog W 0 (fun _ => true) true Try.f5.params.toList args.toList ds p := hA0
  have hsz : (DataW.weightsEach Try.prog (Try.f5.params.toList ++ Rows.drawTreesSpec.plain.varTypes Try.prog) (ds ++ gs)).all (· ≤ reachBytes) = true := hsz0
  rw [Try.params5] at hA hval hsz
  obtain ⟨v0, vs0, d0, ds0, p0, q0, hargs, rfl, rfl, h0, r0'⟩ := trodAll_cons hA
  obtain ⟨v1, vs1, d1, ds1, p1, q1, rfl, rfl, rfl, h1, r1'⟩ := trodAll_cons r0'
  obtain ⟨v2, vs2, d2, ds2, p2, q2, rfl, rfl, rfl, h2, r2'⟩ := trodAll_cons r1'
  obtain ⟨rfl, rfl, rfl⟩ := trodAll_nil r2'
  obtain rfl : args = #[v0, v1, v2] := by cases args; simp_all
  obtain ⟨rfl, rfl⟩ := trodVars_none hV
  have lt0 : ∀ x ∈ p0, x.block < W.heap.size := by obtain ⟨m, hm⟩ := h0; exact DataW.trod_lt m _ _ _ hm
  have tr0 := h0
  have lt1 : ∀ x ∈ p1, x.block < W.heap.size := by obtain ⟨m, hm⟩ := h1; exact DataW.trod_lt m _ _ _ hm
  have tr1 := h1
  have lt2 : ∀ x ∈ p2, x.block < W.heap.size := by obtain ⟨m, hm⟩ := h2; exact DataW.trod_lt m _ _ _ hm
  have tr2 := h2
  have weightsAt : ∀ (j : Nat) {t : TypeId} {d : DataW H}, (Try.f5.params.toList ++ Rows.drawTreesSpec.plain.varTypes Try.prog)[j]? = some t → ([d0, d1, d2] ++ [])[j]? = some d → ∀ y ∈ DataW.weights Try.prog t d, y ≤ reachBytes := fun j t d ht hd y hy => of_decide_eq_true (List.all_eq_true.1 hsz0 y (DataW.weights_mem_each ht hd y hy))
  obtain ⟨a0, rd0, sz0, k0, li0⟩ := open_arg opens_gram h0
  have lim0 := li0 (weightsAt 0 rfl rfl)
  obtain ⟨u0, rfl, r0⟩ := open_gramV (hval 0 24 v0 rfl rfl) rd0
  obtain ⟨x1, rfl, rfl, rfl, wf1⟩ := open_int Try.underlying3 (hval 1 3 v1 rfl rfl) h1
  have k1 : i64 x1 := by simpa [Lit.wf, IntKind.min, IntKind.max, IntKind.signed, IntKind.bits, i64] using wf1
  obtain ⟨a2, rd2, sz2, k2, li2⟩ := open_arg opens_bools h2
  have lim2 := li2 (weightsAt 2 rfl rfl)
  obtain ⟨ad2, len2, cap2, hv2⟩ := okWide_slice Try.underlying51 (hval 2 51 v2 rfl rfl)
  have s2 : Sl W v2 (bools a2) := sl_bools (by rw [hv2] at rd2 ⊢; exact rd2)
  clear hA0 hval0
  refine (Cs.lawDT a0 u0 x1 v2 a2 W r0 s2 (by have h9 := lim2.1; unfold reachBytes at h9; omega)).mono fun e W' ⟨he, bel⟩ => ?_
  subst he
  exact ⟨_, rfl, _, _, _, [], _, [], hW', trodAll_mk1 (shut_bool Try.underlying4 _), (trodAll_cons_mk (Below.trod laidOut (by kernel_rfl) (of_decide_eq_true (by kernel_rfl)) tr0 bel lt0) (trodAll_cons_mk (Below.trod laidOut (by kernel_rfl) (of_decide_eq_true (by kernel_rfl)) tr1 bel lt1) (trodAll_cons_mk (Below.trod laidOut (by kernel_rfl) (of_decide_eq_true (by kernel_rfl)) tr2 bel lt2) trodAll_mk0))), rfl, bel.frame _, fun h => by cases h⟩

set_option maxRecDepth 100000 in
theorem lifted (os : Os) (started : os.Started) (H : Type) (enc : TypeId × Value → H) :
    ReturnsInHanded {} Try.checked os 5 .any (Rows.drawTreesSpec.pre6 enc Try.prog Try.f5 Rows.drawTreesRow.domain false) (Rows.drawTreesSpec.post enc Try.prog Try.f5 false true false false) := by
  refine returnsInHanded_of_change_sized (C := Try.checked) own started (by kernel_rfl) Try.func5
    (ChangeSpec.witness6 (enc := enc) (C := Try.checked) false ⟨#[], #[.agg #[.int .i64 0, .int .i64 0, .int .i64 0, .slice none 0 0], .int .i64 0, .slice none 0 0], []⟩ 8 (by kernel_rfl) (by kernel_rfl) (by kernel_rfl) (by kernel_rfl)) ?_
  intro W base args ds gs before hval0 hW hcnd hsz0 _
  exact contract H enc W base args ds gs before hval0 hW hsz0

theorem over : Rows.drawTreesRow.holds Try.pinned (OpenSpec.ofChange Rows.drawTreesSpec) :=
  OpenClaim.holds_of_wide 5 Try.f5 rfl rfl rfl rfl rfl rfl rfl ⟨rfl, rfl, rfl, rfl, rfl⟩ rfl rfl rfl rfl rfl (by kernel_rfl) Try.func5 (by kernel_rfl)
    (of_decide_eq_true (by kernel_rfl)) (by unfold Func.isWrapper; first | (rw [if_pos (by decide +kernel)]; kernel_rfl) | (rw [if_neg (by decide +kernel)]; exact ⟨rfl, rfl⟩))
    (fun os started H enc _ => lifted os started H enc)
end Go.Proofs.Ytbnpemgmdnghgaa.RowDrawTrees
namespace Go.Proofs.Ytbnpemgmdnghgaa
theorem drawTrees_holds : Rows.DrawTreesSaid := RowDrawTrees.over
#print axioms drawTrees_holds
end Go.Proofs.Ytbnpemgmdnghgaa
