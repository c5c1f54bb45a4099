/- Plain: the numbers of a census are those by levels. parlref5.Census: plain, and what its loops keep. -/
import Derived.Test.YtbnpemgmdnghgaaJRankTellsRow16
import Derived.Test.YtbnpemgmdnghgaaJRankTellsRow6
import Derived.Test.YtbnpemgmdnghgaaJRankTellsRow10
namespace Go.Proofs.Ytbnpemgmdnghgaa
open Go.RowKit
namespace Cs

section
variable {g : Gram} {N n : Nat} {S : Nat → Nat → Bool}
theorem ed_lt (hok : OkC g N) {A k B j : Nat} (h : Ed g.rules S A k B j) : B < N := by
  obtain ⟨r, hr, _, p, s, a, hp, ht, hB, _⟩ := h
  rw [← hB]
  exact (hok.r r hr s (List.mem_of_getElem? hp) ht).2
theorem e5_ed (hok : OkC g N) {A k v : Nat} (hk : k ≤ n) (h : e5 S n g.rules (A * (n + 1) + k) v = true) : ∃ B j, j ≤ n ∧ v = B * (n + 1) + j ∧ Ed g.rules S A k B j := by
  obtain ⟨A', k', B, j, hk', hj, e, hv, hd⟩ := e5_inv (fun r hr => (hok.l r hr).1) h
  obtain ⟨rfl, rfl⟩ := pair_eq hk hk' e
  exact ⟨B, j, hj, hv, hd⟩
/-- a path: more levels at its start than at its end -/
theorem pth_grow (hok : OkC g N) (hd : DoneC g n S) {x y : Nat} (hp : Pth (edg (sizeK N n) (e5 S n g.rules)) x y) : ∀ (A k : Nat), x = A * (n + 1) + k → k ≤ n → ∀ h, (∀ B j, y = B * (n + 1) + j → j ≤ n → Ex g.rules h B j) → ∃ h', h + 1 ≤ h' ∧ Ex g.rules h' A k := by
  induction hp with
  | one he =>
    intro A k hx hk h hy
    subst hx
    obtain ⟨_, _, he⟩ := edg_mem.1 he
    obtain ⟨B, j, hj, hv, hed⟩ := e5_ed hok hk he
    exact ex_up (g := sizeK N n) hk (fun A k hk hS => S_cnt' hok hd A k hk hS) hed (hy B j hv hj)
  | cons he _ ih =>
    intro A k hx hk h hy
    subst hx
    obtain ⟨_, _, he⟩ := edg_mem.1 he
    obtain ⟨B, j, hj, hv, hed⟩ := e5_ed hok hk he
    obtain ⟨h', h1, h2⟩ := ih B j hv hj h hy
    obtain ⟨h'', h3, h4⟩ := ex_up (g := sizeK N n) hk (fun A k hk hS => S_cnt' hok hd A k hk hS) hed h2
    exact ⟨h'', by omega, h4⟩
theorem pth_first {E : List (Nat × Nat)} {x y : Nat} (h : Pth E x y) : ∃ z, (x, z) ∈ E := by
  cases h with
  | one h => exact ⟨_, h⟩
  | cons h _ => exact ⟨_, h⟩
/-- trees of more and more levels -/
theorem many_high (hok : OkC g N) (hd : DoneC g n S) {A k : Nat} (hA : A < N) (hk : k ≤ n) (hM : MK g.rules S N n A k = true) (m : Nat) : ∃ h, m ≤ h ∧ Ex g.rules h A k := by
  unfold MK manyK at hM
  rw [List.any_eq_true] at hM
  obtain ⟨j, _, hj⟩ := hM
  rw [Bool.and_eq_true, Bool.or_eq_true, beq_iff_eq] at hj
  obtain ⟨h1, h2⟩ := hj
  have hpj : Pth (edg (sizeK N n) (e5 S n g.rules)) j j := (fw_iff edg_lt).1 h2
  obtain ⟨z, hz⟩ := pth_first hpj
  obtain ⟨_, _, hz⟩ := edg_mem.1 hz
  obtain ⟨B, i, C, l, hi, hl, hjB, _, hed⟩ := e5_inv (fun r hr => (hok.l r hr).1) hz
  have hS := (ed_S (done_clo hd) hi hed).1
  have hBi := S_cnt' hok hd B i hi hS
  obtain ⟨h0, _, _, hx0⟩ := ex_between (rules := g.rules) (sizeK N n) 0 (Nat.zero_le _) (show cnt g.rules 0 B i < cnt g.rules (sizeK N n) B i from hBi)
  have hall : ∀ m, ∃ h, m ≤ h ∧ Ex g.rules h B i := by
    intro m
    induction m with
    | zero => exact ⟨h0, Nat.zero_le _, hx0⟩
    | succ m ih =>
      obtain ⟨h, hh, hx⟩ := ih
      obtain ⟨h', e1, e2⟩ := pth_grow hok hd hpj B i hjB hi h (fun B' j' e hj' => by
        rw [hjB] at e
        obtain ⟨rfl, rfl⟩ := pair_eq hi hj' e
        exact hx)
      exact ⟨h', by omega, e2⟩
  rcases h1 with h1 | h1
  · rw [hjB] at h1
    obtain ⟨rfl, rfl⟩ := pair_eq hk hi h1
    exact hall m
  · obtain ⟨h, hh, hx⟩ := hall m
    obtain ⟨h', e1, e2⟩ := pth_grow hok hd ((fw_iff edg_lt).1 h1) A k rfl hk h (fun B' j' e hj' => by
      rw [hjB] at e
      obtain ⟨rfl, rfl⟩ := pair_eq hi hj' e
      exact hx)
    exact ⟨h', by omega, e2⟩
/-- a way down, so many levels -/
theorem chain (hok : OkC g N) (hd : DoneC g n S) {A k m : Nat} (hA : A < N) (hk : k ≤ n) (hx : Ex g.rules m A k) : ∀ t, t + 1 ≤ m → ∃ f : Nat → Nat × Nat, f 0 = (A, k) ∧ (∀ i, i ≤ t → (f i).1 < N ∧ (f i).2 ≤ n ∧ Ex g.rules (m - i) (f i).1 (f i).2) ∧ ∀ i, i < t → Ed g.rules S (f i).1 (f i).2 (f (i + 1)).1 (f (i + 1)).2
  | 0, _ => ⟨fun _ => (A, k), rfl, fun i hi => by obtain rfl : i = 0 := by omega
                                                  exact ⟨hA, hk, hx⟩, fun i hi => by omega⟩
  | t + 1, ht => by
    obtain ⟨f, h0, h1, h2⟩ := chain hok hd hA hk hx t (by omega)
    obtain ⟨e1, e2, e3⟩ := h1 t (Nat.le_refl _)
    obtain ⟨h', hh'⟩ : ∃ h', m - t = h' + 1 := ⟨m - t - 1, by omega⟩
    rw [hh'] at e3
    obtain ⟨B, j, hj, hed, hex⟩ := ex_fwd (done_clo hd) e2 (by omega) e3
    refine ⟨fun i => if i ≤ t then f i else (B, j), by simp [h0], fun i hi => ?_, fun i hi => ?_⟩
    · by_cases e : i ≤ t
      · simp only [e, if_true]; exact h1 i e
      · obtain rfl : i = t + 1 := by omega
        simp only [e, if_false]
        exact ⟨ed_lt hok hed, hj, by rw [show m - (t + 1) = h' by omega]; exact hex⟩
    · by_cases e : i < t
      · simp only [show i ≤ t by omega, show i + 1 ≤ t by omega, if_true]; exact h2 i e
      · obtain rfl : i = t := by omega
        simp only [Nat.le_refl, show ¬ i + 1 ≤ i by omega, if_true, if_false]
        exact hed
/-- not too many levels -/
theorem ex_cut (hok : OkC g N) (hd : DoneC g n S) {A k : Nat} (hA : A < N) (hk : k ≤ n) : ∀ m, sizeK N n + 1 ≤ m → Ex g.rules m A k → ∃ m', sizeK N n + 1 ≤ m' ∧ m' ≤ 2 * sizeK N n + 2 ∧ Ex g.rules m' A k := by
  intro m
  induction m using Nat.strongRecOn with
  | ind m ih =>
    intro hm hx
    by_cases hle : m ≤ 2 * sizeK N n + 2
    · exact ⟨m, hm, hle, hx⟩
    · obtain ⟨f, h0, h1, h2⟩ := chain hok hd hA hk hx (sizeK N n) (by omega)
      obtain ⟨a, b, hab, hb, he⟩ := pigeon (size := sizeK N n) (f := fun i => (f i).1 * (n + 1) + (f i).2) (fun i hi => node_lt (h1 i hi).1 (h1 i hi).2.1)
      obtain ⟨e1, e2⟩ := pair_eq (h1 a (by omega)).2.1 (h1 b hb).2.1 he
      have hback : ∀ i, i ≤ a → Ex g.rules (m - b + i) (f (a - i)).1 (f (a - i)).2 := by
        intro i
        induction i with
        | zero => intro _; rw [Nat.sub_zero, Nat.add_zero, e1, e2]; exact (h1 b hb).2.2
        | succ i ihi =>
          intro hi
          have h3 := ihi (by omega)
          have h4 := h2 (a - (i + 1)) (by omega)
          rw [show a - (i + 1) + 1 = a - i by omega] at h4
          exact ex_up1 (g := sizeK N n) (h := m - b + i) (h1 (a - (i + 1)) (by omega)).2.1 (fun A k hk hS => S_cnt' hok hd A k hk hS) (by omega) h4 h3
      have h5 := hback a (Nat.le_refl _)
      rw [Nat.sub_self, h0] at h5
      exact ih (m - b + a) (by omega) (by omega) h5
/-- from what leads to no circle trees have no more levels than there are nodes -/
theorem few_low (hok : OkC g N) (hd : DoneC g n S) : ∀ (h A k : Nat), A < N → k ≤ n → MK g.rules S N n A k = false → Ex g.rules h A k → h ≤ reachN (clK g.rules S N n) (sizeK N n) (A * (n + 1) + k) + 1
  | 0, _, _, _, _, _, _ => by omega
  | 1, _, _, _, _, _, _ => by omega
  | h + 2, A, k, hA, hk, hM, hx => by
    obtain ⟨B, j, hj, hed, hex⟩ := ex_fwd (done_clo hd) hk (by omega) hx
    obtain ⟨r, hr, hl, p, s, a, hp, ht, hB, ha, hS, h1, h2⟩ := hed
    have hg := ends_MM (rules := g.rules) (S := S) (N := N) (n := n) hok.r A k r hA hk hM hr hl p s j a hp ht (by rw [hB]; exact hS) ha h1 h2
    rw [hB] at hg
    have := few_low hok hd (h + 1) B j hg.1 hg.2.1 hg.2.2.1 hex
    have := hg.2.2.2
    omega
theorem reach_size {A k : Nat} (hA : A < N) (hk : k ≤ n) (hM : MK g.rules S N n A k = false) : reachN (clK g.rules S N n) (sizeK N n) (A * (n + 1) + k) < sizeK N n := by
  have hu := node_lt (N := N) hA hk
  have huu := manyK_not hM hu (.inl rfl)
  have := filter_lt (P := fun v => clK g.rules S N n (A * (n + 1) + k) v) (Q := fun _ => true) (v := A * (n + 1) + k) (fun _ _ => rfl) rfl huu (sizeK N n) hu
  have h2 : ((List.range (sizeK N n)).filter fun _ => true).length = sizeK N n := by rw [List.filter_eq_self.2 (fun _ _ => rfl), List.length_range]
  rw [h2] at this
  exact this
/-- endless: a tree of so many levels -/
def Endl (g : Gram) (N n A k : Nat) : Prop := ∃ h, sizeK N n + 1 ≤ h ∧ h ≤ 2 * sizeK N n + 2 ∧ Ex g.rules h A k
theorem tC_levels (hok : OkC g N) (hd : DoneC g n S) {A k : Nat} (hA : A < N) (hk : k ≤ n) :
    (Endl g N n A k → tC g S N n A k = -1) ∧ (¬ Endl g N n A k → tC g S N n A k = min ((cnt g.rules (sizeK N n + 1) A k : Nat) : Int) MaxC) := by
  have hh : hasK S ⟨false, (A : Int)⟩ k = S A k := rfl
  by_cases hS : S A k = false
  · have hz : ∀ h, cnt g.rules h A k = 0 := fun h => by
      rcases Nat.eq_zero_or_pos (cnt g.rules h A k) with h0 | h0
      · exact h0
      · rw [cnt_S (done_clo hd) hk h0] at hS; cases hS
    refine ⟨?_, fun _ => ?_⟩
    · rintro ⟨h, _, _, _, hx⟩
      rw [hz, hz] at hx; exact absurd hx (Nat.lt_irrefl _)
    · unfold tC symV
      rw [if_pos (hh.trans hS), hz]; rfl
  · have hv : tC g S N n A k = valK g.rules S (MK g.rules S N n) MaxC (-1) (sizeK N n) A k := by
      unfold tC symV
      rw [if_neg (by rw [hh]; exact hS)]
      simp only [Bool.false_eq_true, if_false, Int.toNat_natCast]
    rw [hv]
    by_cases hM : MK g.rules S N n A k = true
    · have he : valK g.rules S (MK g.rules S N n) MaxC (-1) (sizeK N n) A k = -1 := by rw [valK_eq (T := clK g.rules S N n) (ends_MK hok.r) hA hk, if_neg hS, if_pos hM]
      refine ⟨fun _ => he, fun hn => ?_⟩
      obtain ⟨h, h1, h2⟩ := many_high hok hd hA hk hM (sizeK N n + 1)
      exact absurd (ex_cut hok hd hA hk h h1 h2) hn
    · have hM' : MK g.rules S N n A k = false := by simpa using hM
      have hr := reach_size (g := g) (S := S) hA hk hM'
      refine ⟨?_, fun _ => ?_⟩
      · rintro ⟨h, h1, _, hx⟩
        have := few_low hok hd h A k hA hk hM' hx
        omega
      · rw [valK_len (cap := MaxC) (many := -1) (by decide) (by decide) (ends_MM hok.r) hA hk hM']
        unfold EN
        rw [enF_stable (ends_MM hok.r) (sizeK N n + 1) A k ⟨hA, hk, hM', by omega⟩ (sizeK N n + 2) (by omega), (enF_cnt (done_clo hd) (sizeK N n + 1) A k hk).1]
end
end Cs
end Go.Proofs.Ytbnpemgmdnghgaa
namespace Go.Proofs.Ytbnpemgmdnghgaa
open Go.RowKit
namespace Cs

def c0 : Nat → Nat → Nat := fun _ _ => 0
/-- the number that the first loop reckons for a right side -/
def kf (n : Nat) (l : List Sym) : Nat := l.foldl (fun k s => (if s.term then k else n + 1) + 1) 0
section
variable {n k : Nat} {l : List Sym} {s : Sym}
theorem kf_snoc : kf n (l ++ [s]) = (if s.term then kf n l else n + 1) + 1 := by unfold kf; rw [List.foldl_append]; rfl
theorem kf_le (n : Nat) (l : List Sym) : ∀ q, kf n (l.take q) ≤ n + 1 + q
  | 0 => by rw [List.take_zero]; exact Nat.zero_le _
  | q + 1 => by
    by_cases h : q < l.length
    · rw [List.take_succ_eq_append_getElem h, kf_snoc]
      have := kf_le n l q
      split <;> omega
    · have e : l.take (q + 1) = l.take q := by rw [List.take_of_length_le (by omega), List.take_of_length_le (by omega)]
      rw [e]
      have := kf_le n l q
      omega
theorem sumN_nil {f : Nat → Nat} : ∀ n, (∀ i, i < n → f i = 0) → sumN f n = 0
  | 0, _ => rfl
  | n + 1, h => by
    show sumN f n + f n = 0
    rw [sumN_nil n fun i hi => h i (by omega), h n (by omega)]
theorem kf_cN (n : Nat) (l : List Sym) : ∀ q, q ≤ l.length → ∀ k, k ≤ n → cN (oN c0) (l.take q) k = if kf n (l.take q) = k then 1 else 0
  | 0, _, k, _ => by
    rw [List.take_zero]
    show (if k = 0 then 1 else 0) = if 0 = k then 1 else 0
    by_cases e : k = 0
    · rw [if_pos e, if_pos e.symm]
    · rw [if_neg e, if_neg (fun h => e h.symm)]
  | q + 1, hq, k, hk => by
    rw [List.take_succ_eq_append_getElem (by omega), kf_snoc, cN_snoc]
    have ih := kf_cN n l q (by omega)
    cases ht : (l[q]'(by omega)).term with
    | false =>
      rw [sumN_nil _ fun i _ => by unfold oN; rw [ht]; simp [c0], if_neg (by simp; omega)]
    | true =>
      have ho : ∀ i, oN c0 (l[q]'(by omega)) i = if i = 1 then 1 else 0 := fun i => by unfold oN; rw [ht]; rfl
      rw [if_pos rfl]
      match k, hk with
      | 0, _ =>
        rw [sumN_nil _ fun i hi => by rw [ho, if_neg (by omega)]; rfl, if_neg (by omega)]
      | j + 1, hk =>
        show sumN _ j + cN (oN c0) (l.take q) j * oN c0 _ (j + 1 - j) + cN (oN c0) (l.take q) (j + 1) * oN c0 _ (j + 1 - (j + 1)) = _
        rw [sumN_nil _ fun i hi => by rw [ho, if_neg (by omega)]; rfl, ho, ho, if_pos (by omega), if_neg (by omega), ih j (by omega)]
        by_cases e : kf n (l.take q) = j
        · rw [if_pos e, if_pos (by omega)]; simp
        · rw [if_neg e, if_neg (by omega)]; simp
theorem kf_all (hk : k ≤ n) : cN (oN c0) l k = if kf n l = k then 1 else 0 := by
  have := kf_cN n l l.length (Nat.le_refl _) k hk
  rwa [List.take_length] at this
theorem cR0_le {A : Int} (hk : k ≤ n) : ∀ rs : List Rule, cR (oN c0) A k rs ≤ rs.length
  | [] => Nat.le_refl _
  | r :: rs => by
    rw [cR]
    have := cR0_le (A := A) hk rs
    have h2 := kf_all (l := r.right) hk
    rw [List.length_cons]
    split
    · rw [h2]; split <;> omega
    · omega
/-- a rule more -/
theorem cR0_snoc {l : List Rule} {r : Rule} {A a : Nat} (hl : r.left = (a : Int)) (hk : k ≤ n) : cR (oN c0) (A : Int) k (l ++ [r]) = if A = a ∧ k = kf n r.right then cR (oN c0) (A : Int) k l + 1 else cR (oN c0) (A : Int) k l := by
  rw [cR_snoc, kf_all hk, hl]
  by_cases e : A = a
  · subst e
    rw [if_pos rfl]
    by_cases e2 : kf n r.right = k
    · rw [if_pos e2, if_pos ⟨rfl, e2.symm⟩]
    · rw [if_neg e2, if_neg (fun h => e2 h.2.symm)]; rfl
  · rw [if_neg (by omega), if_neg (fun h => e h.1)]; rfl
theorem cap9_small {x : Nat} (h : x ≤ 1000000000) : cap9 x = (x : Int) := by unfold cap9; omega
end
/-- the tables of the first level -/
def M0 (l : List Rule) (a k : Nat) : Int := cap9 (cR (oN c0) (a : Int) k l)
def A0 (l : List Rule) (a k : Nat) : Bool := decide (0 < cR (oN c0) (a : Int) k l)
section
variable {n a : Nat} {l : List Rule} {r : Rule}
theorem M0_nil {a k : Nat} : M0 [] a k = 0 := by show cap9 0 = 0; unfold cap9; omega
theorem A0_nil {a k : Nat} : A0 [] a k = false := by simp [A0, cR]
theorem M0_here (hl : r.left = (a : Int)) (hk : kf n r.right ≤ n) (hlen : l.length ≤ 32) : M0 (l ++ [r]) a (kf n r.right) = M0 l a (kf n r.right) + 1 ∧ 0 ≤ M0 l a (kf n r.right) ∧ M0 l a (kf n r.right) ≤ 32 := by
  unfold M0
  have h1 := cR0_le (A := (a : Int)) hk l
  rw [cR0_snoc hl hk, if_pos ⟨rfl, rfl⟩, cap9_small (by omega), cap9_small (by omega)]
  omega
theorem A0_here (hl : r.left = (a : Int)) (hk : kf n r.right ≤ n) : A0 (l ++ [r]) a (kf n r.right) = true := by
  unfold A0
  rw [cR0_snoc hl hk, if_pos ⟨rfl, rfl⟩]
  simp
theorem cR0_other (hl : r.left = (a : Int)) {b j : Nat} (hj : j ≤ n) (h : ¬ (b = a ∧ j = kf n r.right)) : cR (oN c0) (b : Int) j (l ++ [r]) = cR (oN c0) (b : Int) j l := by
  rw [cR0_snoc hl hj, if_neg h]
theorem M0_other (hl : r.left = (a : Int)) {b j : Nat} (hj : j ≤ n) (h : ¬ (b = a ∧ j = kf n r.right)) : M0 (l ++ [r]) b j = M0 l b j := by unfold M0; rw [cR0_other hl hj h]
theorem A0_other (hl : r.left = (a : Int)) {b j : Nat} (hj : j ≤ n) (h : ¬ (b = a ∧ j = kf n r.right)) : A0 (l ++ [r]) b j = A0 l b j := by unfold A0; rw [cR0_other hl hj h]
end
/-- while the first level is made -/
structure CJ (W0 : World) (u : Ut) (hb : Nat) (HX : Array Value) (N m : Nat) (M : Nat → Nat → Int) (A J : Nat → Nat → Bool) (wr : World) : Prop where
  ut : UT u N m M A J wr
  box : wr.heap[hb]? = some (.cells HX 76 (0, 0))
  bel : Below W0.heap.size W0 wr
  lo : W0.heap.size ≤ u.b1 ∧ u.b4 ≤ hb
section
variable {W0 : World} {u : Ut} {hb : Nat} {HX : Array Value} {N m : Nat} {M M' : Nat → Nat → Int} {A J A' J' : Nat → Nat → Bool} {wr w' : World}
theorem CJ.keep (h : CJ W0 u hb HX N m M A J wr) (hb' : Below wr.heap.size wr w') : CJ W0 u hb HX N m M A J w' := ⟨h.ut.keep hb', bx_keep h.box hb', h.bel.trans (hb'.mono h.bel.size), h.lo⟩
theorem CJ.eq (h : CJ W0 u hb HX N m M A J wr) (e1 : ∀ a k, a < N → k < m → M a k = M' a k) (e2 : ∀ a k, a < N → k < m → A a k = A' a k) (e3 : ∀ a k, a < N → k < m → J a k = J' a k) : CJ W0 u hb HX N m M' A' J' wr := ⟨h.ut.eq e1 e2 e3, h.box, h.bel, h.lo⟩
theorem CJ.set1 (h : CJ W0 u hb HX N m M A J wr) {a k : Nat} (ha : a < N) (hk : k < m) {x : Int} (he : ∀ b l, b < N → l < m → M' b l = if b = a ∧ l = k then x else M b l) : CJ W0 u hb HX N m M' A J (wr.setCell ⟨u.r1 a, k, none⟩ (.int .i64 x)) := by
  have hs := h.ut.bs
  have hr := (h.ut.h1.ne a ha).2
  have hlo := h.lo
  exact ⟨h.ut.set1 ha hk he, bx_other h.box (by omega) _ _, h.bel.setCell (p := ⟨u.r1 a, k, none⟩) (by show W0.heap.size ≤ u.r1 a; omega) _, h.lo⟩
theorem CJ.set2 (h : CJ W0 u hb HX N m M A J wr) {a k : Nat} (ha : a < N) (hk : k < m) {x : Bool} (he : ∀ b l, b < N → l < m → A' b l = if b = a ∧ l = k then x else A b l) : CJ W0 u hb HX N m M A' J (wr.setCell ⟨u.r2 a, k, none⟩ (.bool x)) := by
  have hs := h.ut.bs
  have hr := (h.ut.h2.ne a ha).2
  have hlo := h.lo
  exact ⟨h.ut.set2 ha hk he, bx_other h.box (by omega) _ _, h.bel.setCell (p := ⟨u.r2 a, k, none⟩) (by show W0.heap.size ≤ u.r2 a; omega) _, h.lo⟩
theorem CJ.set3 (h : CJ W0 u hb HX N m M A J wr) {a k : Nat} (ha : a < N) (hk : k < m) {x : Bool} (he : ∀ b l, b < N → l < m → J' b l = if b = a ∧ l = k then x else J b l) : CJ W0 u hb HX N m M A J' (wr.setCell ⟨u.r3 a, k, none⟩ (.bool x)) := by
  have hs := h.ut.bs
  have hr := (h.ut.h3.ne a ha).2
  have hlo := h.lo
  exact ⟨h.ut.set3 ha hk he, bx_other h.box (by omega) _ _, h.bel.setCell (p := ⟨u.r3 a, k, none⟩) (by show W0.heap.size ≤ u.r3 a; omega) _, h.lo⟩
end
/-- in the great loop -/
structure CK (W0 : World) (gt gs : Int) (vr : Value) (N n : Nat) (rules : List Rule) (hb elo ehi et : Nat) (re : Nat → Nat) (h : Nat) (d : Hs) (E : Nat → Nat → Bool) (wr : World) : Prop where
  hi : HI gt gs vr N n d (fun a k => cap9 (cnt rules h a k)) (fun a k => decide (0 < cnt rules h a k)) (fun a k => decide (cnt rules (h - 1) a k < cnt rules h a k)) wr
  en : Tb 4 elo ehi et N (n + 1) re (fun a k => .bool (E a k)) wr
  bel : Below W0.heap.size W0 wr
  pl : W0.heap.size ≤ hb ∧ hb < elo ∧ ehi ≤ wr.heap.size ∧ d.hb = hb
  dl : d.hi ≤ hb ∨ ehi ≤ d.lo
  dlo : W0.heap.size ≤ d.lo
/-- the numbers that are to be returned -/
structure TO (B hb elo ehi N n : Nat) (olo ohi ot : Nat) (ro : Nat → Nat) (F : Nat → Nat → Int) (wr : World) : Prop where
  tb : Tb 3 olo ohi ot N (n + 1) ro (fun a k => .int .i64 (F a k)) wr
  dl : ohi ≤ hb ∨ ehi ≤ olo
  le : ohi ≤ wr.heap.size
  lo : B ≤ olo
section
variable {B : Nat} {W0 : World} {gt gs : Int} {vr : Value} {N n : Nat} {rules : List Rule} {hb elo ehi et : Nat} {re : Nat → Nat} {h : Nat} {d : Hs} {E E' : Nat → Nat → Bool} {wr w' : World} {olo ohi ot : Nat} {ro : Nat → Nat} {F F' : Nat → Nat → Int}
theorem CK.keep (x : CK W0 gt gs vr N n rules hb elo ehi et re h d E wr) (hb' : Below wr.heap.size wr w') : CK W0 gt gs vr N n rules hb elo ehi et re h d E w' := by
  have hs := hb'.size
  have hl := x.hi.le
  have hp := x.pl
  exact ⟨⟨bx_keep x.hi.box hb', x.hi.tm.keep hl hb', x.hi.ta.keep hl hb', x.hi.tj.keep hl hb', x.hi.pl, by omega⟩, x.en.keep hp.2.2.1 hb', x.bel.trans (hb'.mono x.bel.size), ⟨hp.1, hp.2.1, by omega, hp.2.2.2⟩, x.dl, x.dlo⟩
theorem CK.eq (x : CK W0 gt gs vr N n rules hb elo ehi et re h d E wr) (e : ∀ a k, a < N → k < n + 1 → E a k = E' a k) : CK W0 gt gs vr N n rules hb elo ehi et re h d E' wr := ⟨x.hi, x.en.eq (fun a k ha hk => by rw [e a k ha hk]), x.bel, x.pl, x.dl, x.dlo⟩
theorem CK.set (x : CK W0 gt gs vr N n rules hb elo ehi et re h d E wr) {a k : Nat} (ha : a < N) (hk : k < n + 1) {v : Bool} (he : ∀ b l, b < N → l < n + 1 → E' b l = if b = a ∧ l = k then v else E b l) : CK W0 gt gs vr N n rules hb elo ehi et re h d E' (wr.setCell ⟨re a, k, none⟩ (.bool v)) := by
  have hl := x.hi.le
  have hp := x.pl
  have hr := (x.en.ne a ha).2
  have hd := x.dl
  have hpl := x.hi.pl
  have hsz := cell_sz wr (b := re a) k (.bool v)
  refine ⟨⟨bx_other x.hi.box (by omega) _ _, x.hi.tm.other (fun j _ _ => cell_blk wr _ _ (by omega) (by omega)), x.hi.ta.other (fun j _ _ => cell_blk wr _ _ (by omega) (by omega)), x.hi.tj.other (fun j _ _ => cell_blk wr _ _ (by omega) (by omega)), x.hi.pl, by omega⟩, ?_, x.bel.setCell (p := ⟨re a, k, none⟩) (by show W0.heap.size ≤ re a; omega) _, ⟨hp.1, hp.2.1, by omega, hp.2.2.2⟩, x.dl, x.dlo⟩
  exact (x.en.set ha hk _).eq (fun b l hb hl => by rw [he b l hb hl]; split <;> rfl)
theorem TO.keep (x : TO B hb elo ehi N n olo ohi ot ro F wr) (hb' : Below wr.heap.size wr w') : TO B hb elo ehi N n olo ohi ot ro F w' := ⟨x.tb.keep x.le hb', x.dl, Nat.le_trans x.le hb'.size, x.lo⟩
/-- endless' cells lie apart -/
theorem TO.other (x : TO B hb elo ehi N n olo ohi ot ro F wr) {b : Nat} (h1 : elo ≤ b ∧ b < ehi) (h2 : hb < elo) (j : Nat) (v : Value) : TO B hb elo ehi N n olo ohi ot ro F (wr.setCell ⟨b, j, none⟩ v) := by
  have hl := x.le
  have hd := x.dl
  have hsz := cell_sz wr (b := b) j v
  exact ⟨x.tb.other (fun i _ _ => cell_blk wr _ _ (by omega) (by omega)), x.dl, by omega, x.lo⟩
theorem TO.set (x : TO B hb elo ehi N n olo ohi ot ro F wr) {a k : Nat} (ha : a < N) (hk : k < n + 1) {v : Int} (he : ∀ b l, b < N → l < n + 1 → F' b l = if b = a ∧ l = k then v else F b l) : TO B hb elo ehi N n olo ohi ot ro F' (wr.setCell ⟨ro a, k, none⟩ (.int .i64 v)) := by
  have hl := x.le
  have hsz := cell_sz wr (b := ro a) k (.int .i64 v)
  exact ⟨(x.tb.set ha hk _).eq (fun b l hb hl => by rw [he b l hb hl]; split <;> rfl), x.dl, by omega, x.lo⟩
/-- the first level is there -/
theorem CJ.up {u : Ut} {m : Nat} (hm : n + 1 = m) (x : CJ W0 u hb #[.int .i64 gt, .int .i64 (N : Int), .int .i64 gs, vr, .int .i64 (n : Int), .slice (some ⟨u.t1, 0, none⟩) N N, .slice (some ⟨u.t2, 0, none⟩) N N, .slice (some ⟨u.t3, 0, none⟩) N N] N m (M0 rules) (A0 rules) (A0 rules) wr)
    {te : TypeId} {w1 : World} (hb1 : Below wr.heap.size wr w1) (hg : Tb 4 wr.heap.size w1.heap.size et N m re (fun _ _ => .bool false) w1) :
    CK W0 gt gs vr N n rules hb wr.heap.size w1.heap.size et re 1 ⟨hb, u.t1, u.t2, u.t3, u.r1, u.r2, u.r3, u.b1, u.b4⟩ (fun _ _ => false) w1 := by
  subst hm
  have hh := (Array.getElem?_eq_some_iff.1 x.box).1
  have y := x.keep hb1
  have hs := y.ut.bs
  have hl := x.lo
  have hle := y.ut.le
  have hbs := x.bel.size
  have hss := hb1.size
  have hU : u.b4 ≤ hb := hl.2
  refine ⟨⟨y.box, ?_, ?_, ?_, .inr hU, hle⟩, hg, y.bel, ⟨by omega, hh, Nat.le_refl _, rfl⟩, .inl hU, hl.1⟩
  · exact y.ut.h1.wide (Nat.le_refl _) (by show u.b2 ≤ u.b4; omega)
  · exact y.ut.h2.wide (by show u.b1 ≤ u.b2; omega) (by show u.b3 ≤ u.b4; omega)
  · exact y.ut.h3.wide (by show u.b1 ≤ u.b3; omega) (Nat.le_refl _)
/-- behind up -/
theorem CK.next (x : CK W0 gt gs vr N n rules hb elo ehi et re h d E wr) (h1 : 1 ≤ h) {e : Ending} (hu : UpPost gt gs vr N n rules d.hb (cnt rules h) (cnt rules (h - 1)) wr e w') : ∃ d', CK W0 gt gs vr N n rules hb elo ehi et re (h + 1) d' E w' := by
  obtain ⟨_, d', e1, e2, hi, hg⟩ := hu
  have hp := x.pl
  have hs := hg.size
  obtain ⟨j, rfl⟩ : ∃ j, h = j + 1 := ⟨h - 1, by omega⟩
  refine ⟨d', hi, x.en.other (fun k h1 h2 => hg.block k (by omega) (fun e => by have := Option.some.inj e; omega)), ?_, ⟨hp.1, hp.2.1, by omega, by rw [e1]; exact hp.2.2.2⟩, .inr (by omega), by have := x.bel.size; omega⟩
  exact x.bel.grown hg (by have := x.bel.size; omega) (fun k e => by have := Option.some.inj e; omega)
theorem TO.next (y : TO B hb elo ehi N n olo ohi ot ro F wr) {hb' : Nat} (e : hb' = hb) (he : hb < elo) (hh : elo ≤ ehi) (hg : wr.grownBy w' (some hb')) : TO B hb elo ehi N n olo ohi ot ro F w' := by
  have hl := y.le
  have hd := y.dl
  exact ⟨y.tb.other (fun k h1 h2 => hg.block k (by omega) (fun e' => by have := Option.some.inj e'; omega)), y.dl, Nat.le_trans hl hg.size, y.lo⟩
/-- the numbers are taken -/
theorem CK.out (x : CK W0 gt gs vr N n rules hb elo ehi et re h d E wr) : TO W0.heap.size hb elo ehi N n d.lo d.hi d.tm d.rm (fun a k => cap9 (cnt rules h a k)) wr := ⟨x.hi.tm, x.dl, x.hi.le, x.dlo⟩
end
/-- at the end -/
structure CF (W0 : World) (hb elo ehi et : Nat) (re : Nat → Nat) (N n : Nat) (E : Nat → Nat → Bool) (olo ohi ot : Nat) (ro : Nat → Nat) (F : Nat → Nat → Int) (wr : World) : Prop where
  en : Tb 4 elo ehi et N (n + 1) re (fun a k => .bool (E a k)) wr
  out : TO W0.heap.size hb elo ehi N n olo ohi ot ro F wr
  bel : Below W0.heap.size W0 wr
  pl : hb < elo ∧ ehi ≤ wr.heap.size
section
variable {W0 : World} {hb elo ehi et : Nat} {re : Nat → Nat} {N n : Nat} {E : Nat → Nat → Bool} {olo ohi ot : Nat} {ro : Nat → Nat} {F F' : Nat → Nat → Int} {wr w' : World}
theorem CF.eq (x : CF W0 hb elo ehi et re N n E olo ohi ot ro F wr) (e : ∀ a k, a < N → k < n + 1 → F a k = F' a k) : CF W0 hb elo ehi et re N n E olo ohi ot ro F' wr := ⟨x.en, ⟨x.out.tb.eq (fun a k ha hk => by rw [e a k ha hk]), x.out.dl, x.out.le, x.out.lo⟩, x.bel, x.pl⟩
theorem CF.set (x : CF W0 hb elo ehi et re N n E olo ohi ot ro F wr) {a k : Nat} (ha : a < N) (hk : k < n + 1) {v : Int} (he : ∀ b l, b < N → l < n + 1 → F' b l = if b = a ∧ l = k then v else F b l) : CF W0 hb elo ehi et re N n E olo ohi ot ro F' (wr.setCell ⟨ro a, k, none⟩ (.int .i64 v)) := by
  have hl := x.out.le
  have hd := x.out.dl
  have hlo := x.out.lo
  have hp := x.pl
  have hr := (x.out.tb.ne a ha).2
  have hsz := cell_sz wr (b := ro a) k (.int .i64 v)
  exact ⟨x.en.other (fun j _ _ => cell_blk wr _ _ (by omega) (by omega)), x.out.set ha hk he, x.bel.setCell (p := ⟨ro a, k, none⟩) (by show W0.heap.size ≤ ro a; omega) _, hp.1, by omega⟩
end
/-- the places before a, k are changed -/
def upt {α : Type} (a k : Nat) (x y : Nat → Nat → α) : Nat → Nat → α := fun b l => if b < a ∨ (b = a ∧ l < k) then x b l else y b l
section
variable {α : Type} {a k b l m N : Nat} {x y : Nat → Nat → α}
theorem upt_00 : upt 0 0 x y b l = y b l := if_neg (by omega)
theorem upt_row (h : l < m) : upt a m x y b l = upt (a + 1) 0 x y b l := by
  unfold upt
  by_cases e : b < a + 1
  · rw [if_pos (by omega), if_pos (.inl e)]
  · rw [if_neg (by omega), if_neg (by omega)]
theorem upt_end (h : b < N) : upt N 0 x y b l = x b l := if_pos (.inl h)
theorem upt_here : upt a k x y a k = y a k := if_neg (by omega)
theorem upt_step : upt a (k + 1) x y b l = if b = a ∧ l = k then x a k else upt a k x y b l := by
  unfold upt
  by_cases e : b = a ∧ l = k
  · obtain ⟨rfl, rfl⟩ := e
    rw [if_pos (.inr ⟨rfl, by omega⟩), if_pos ⟨rfl, rfl⟩]
  · rw [if_neg e]
    by_cases e2 : b < a ∨ (b = a ∧ l < k)
    · rw [if_pos e2, if_pos (by omega)]
    · rw [if_neg e2, if_neg (by omega)]
end
/-- endless, from level s on, below h -/
def EF (rules : List Rule) (s h a k : Nat) : Prop := ∃ j, s + 1 ≤ j ∧ j < h ∧ Ex rules j a k
open Classical in
noncomputable def ef (rules : List Rule) (s h a k : Nat) : Bool := decide (EF rules s h a k)
open Classical in
theorem ef_start {rules : List Rule} {s h a k : Nat} (hh : h ≤ s + 1) : ef rules s h a k = false := by
  unfold ef EF
  simp only [decide_eq_false_iff_not]
  rintro ⟨j, h1, h2, _⟩
  omega
open Classical in
theorem ef_next {rules : List Rule} {s h a k : Nat} (hh : s + 1 ≤ h) : (ef rules s h a k || decide (cnt rules (h - 1) a k < cnt rules h a k)) = ef rules s (h + 1) a k := by
  rw [Bool.eq_iff_iff]
  unfold ef EF
  simp only [Bool.or_eq_true, decide_eq_true_iff]
  constructor
  · rintro (⟨j, h1, h2, h3⟩ | h1)
    · exact ⟨j, h1, by omega, h3⟩
    · exact ⟨h, hh, by omega, by omega, h1⟩
  · rintro ⟨j, h1, h2, h3⟩
    by_cases e : j = h
    · subst e; exact .inr h3.2
    · exact .inl ⟨j, h1, by omega, h3⟩
open Classical in
/-- the table that is returned -/
noncomputable def fin (rules : List Rule) (s a k : Nat) : Int := if ef rules s (2 * s + 3) a k = true then -1 else cap9 (cnt rules (s + 1) a k)
open Classical in
theorem fin_tC {g : Gram} {N n : Nat} {S : Nat → Nat → Bool} (hok : OkC g N) (hd : DoneC g n S) {A k : Nat} (hA : A < N) (hk : k ≤ n) : fin g.rules (sizeK N n) A k = tC g S N n A k := by
  have h := tC_levels hok hd hA hk
  unfold fin ef
  by_cases e : Endl g N n A k
  · rw [h.1 e, if_pos (by obtain ⟨j, h1, h2, h3⟩ := e; exact decide_eq_true ⟨j, h1, by omega, h3⟩)]
  · rw [h.2 e, if_neg (by
      simp only [decide_eq_true_iff]
      rintro ⟨j, h1, h2, h3⟩
      exact e ⟨j, h1, by omega, h3⟩)]
    rfl
/-- a table as data -/
theorem tb_rd {lo hi bt N m : Nat} {rb : Nat → Nat} {F : Nat → Nat → Int} {w : World} (h : Tb 3 lo hi bt N m rb (fun a k => .int .i64 (F a k)) w) (hN : N ≤ maxLen) (hm : m ≤ maxLen) :
    Rd AnyB w (.sl (((List.range N).map fun a => (List.range m).map (F a)).map D.ints)) [.slice (some ⟨bt, 0, none⟩) N N] := by
  have hrow : ∀ a, a < N → Rd AnyB w (D.ints ((List.range m).map (F a))) [.slice (some ⟨rb a, 0, none⟩) m m] := by
    intro a ha
    refine rd_sl ⟨some ⟨rb a, 0, none⟩, m, by simp [ints], by simp [ints], hm, (fun h => by cases h), fun i hi => ⟨_, rfl, ?_⟩⟩
    have hi' : i < m := by simpa [ints] using hi
    have := h.cell ha hi'
    rw [add_at, Nat.zero_add, this]
    simp [ints]
  refine ⟨some ⟨bt, 0, none⟩, N, (List.range N).map fun a => .slice (some ⟨rb a, 0, none⟩) m m, by simp, by simp, hN, (fun h => by cases h), fun i hi => ⟨_, rfl, trivial, ?_⟩, ?_⟩
  · have hi' : i < N := by simpa using hi
    rw [add_at, Nat.zero_add, h.head hi']
    simp
  · have hall : ∀ l : List Nat, (∀ a ∈ l, a < N) → RdAll AnyB w ((l.map fun a => (List.range m).map (F a)).map D.ints) (l.map fun a => .slice (some ⟨rb a, 0, none⟩) m m) := by
      intro l
      induction l with
      | nil => intro _; simp [RdAll]
      | cons a l ih =>
        intro hl
        rw [List.map_cons, List.map_cons, List.map_cons, RdAll]
        exact ⟨[.slice (some ⟨rb a, 0, none⟩) m m], l.map fun a => .slice (some ⟨rb a, 0, none⟩) m m, rfl, hrow a (hl a List.mem_cons_self), ih fun b hb => hl b (List.mem_cons_of_mem _ hb)⟩
    exact hall _ (fun a ha => by simpa using ha)
end Cs
end Go.Proofs.Ytbnpemgmdnghgaa
