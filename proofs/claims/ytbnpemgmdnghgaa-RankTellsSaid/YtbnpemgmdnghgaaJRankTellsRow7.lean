/- Plain: the number that rank.of reckons is the place in the list of all trees; listed trees are valid. rank.numberer.tree. rank.numberer.list. -/
import Derived.Test.YtbnpemgmdnghgaaJRankTellsRow6
import Derived.Test.YtbnpemgmdnghgaaJRankTellsRow1
import Derived.Test.YtbnpemgmdnghgaaJRankTellsRow5
import Derived.BigQuiet
namespace Go.Proofs.Ytbnpemgmdnghgaa
open Go.RowKit
namespace Cs

section
variable {rules : List Rule} {S M T : Nat → Nat → Bool} {N n size : Nat} {many : Int}
theorem rules_fold (hE : EndsM rules S M T N n size) {A k : Nat} (hA : A < N) (hk : k ≤ n) (hM : M A k = false) (hlt : ((enR S (symE S (EN rules S size)) (A : Int) k rules 0).length : Int) < MaxC) :
    ∀ j, j ≤ rules.length → (rules.take j).foldl (ruleI (listV S MaxC (symV S (valK rules S M MaxC many size))) (A : Int) k) 0 = ((preR S (symE S (EN rules S size)) (A : Int) k rules j).length : Int) := by
  intro j
  have hMC : MaxC = 1000000000 := rfl
  induction j with
  | zero => intro _; rw [preR_zero]; rfl
  | succ j ih =>
    intro hj
    rw [List.take_succ_eq_append_getElem (by omega), List.foldl_append, ih (by omega)]
    have h1 := preR_len (S := S) (o := symE S (EN rules S size)) (A := (A : Int)) (k := k) (rules := rules) (j := j) (by omega)
    have h2 := preR_len_le (S := S) (o := symE S (EN rules S size)) (A := (A : Int)) (k := k) (rules := rules) (j := j + 1) hj
    rw [h1] at h2 ⊢
    show ruleI _ _ _ _ rules[j] = _
    unfold ruleI
    by_cases hl : rules[j].left = (A : Int)
    · rw [if_pos hl] at h2 ⊢
      rw [if_pos hl]
      have h3 := listV_EN (cap := MaxC) (many := many) (by decide) (by decide) hE (hE A k _ hA hk hM (List.getElem_mem (show j < rules.length by omega)) hl)
      rw [h3]
      obtain ⟨e, he⟩ : ∃ e, e = (enL S (symE S (EN rules S size)) rules[j].right k).length := ⟨_, rfl⟩
      rw [← he] at h2 ⊢
      rw [Int.min_eq_left (by omega), IntWalk.i64_in _ (by omega)]
      push_cast; rfl
    · rw [if_neg hl] at h2 ⊢
      rw [if_neg hl]; simp
theorem rules_find {o : Sym → Nat → List Tree} {A : Int} {k a : Nat} : ∀ j, j ≤ rules.length → a < (preR S o A k rules j).length → ∃ i x, ∃ (hi : i < rules.length), rules[i].left = A ∧ a = (preR S o A k rules i).length + x ∧ x < (enL S o rules[i].right k).length := by
  intro j
  induction j with
  | zero => intro _ h; rw [preR_zero] at h; simp at h
  | succ j ih =>
    intro hj h
    by_cases h1 : a < (preR S o A k rules j).length
    · exact ih (by omega) h1
    · rw [preR_len (show j < rules.length by omega)] at h
      by_cases hl : rules[j].left = A
      · rw [if_pos hl] at h
        exact ⟨j, a - (preR S o A k rules j).length, by omega, hl, by omega, by omega⟩
      · rw [if_neg hl] at h; omega
theorem kid_nodes {t : Tree} {j : Nat} {ks : List Tree} (h : t ∈ ks) : (nodes t).length < (nodes (.node (j : Int) 0 ks)).length := by
  obtain ⟨i, hi, rfl⟩ := List.getElem_of_mem h
  exact OkT.size (t := .node (j : Int) 0 ks) (by show (j : Int) ≠ -1; omega) hi
set_option maxRecDepth 100000 in
theorem idx_val (hE : EndsM rules S M T N n size) : ∀ (f : Nat) (t : Tree), (nodes t).length ≤ f → ∀ (A k a : Nat), A < N → k ≤ n → M A k = false → ((EN rules S size A k).length : Int) < MaxC → (EN rules S size A k)[a]? = some t →
    idxF rules (symV S (valK rules S M MaxC many size)) (listV S MaxC (symV S (valK rules S M MaxC many size))) f t = a := by
  intro f
  induction f with
  | zero => intro t ht; have := nodes_pos t; omega
  | succ f ih =>
    intro t ht A k a hA hk hM hlt ha
    have hMC : MaxC = 1000000000 := rfl
    have hwt : wl t = k := enF_wl _ _ _ _ (List.mem_of_getElem? ha)
    rw [EN_eq hE hA hk hM] at hlt ha
    by_cases hS : S A k = false
    · rw [if_pos hS] at ha; simp at ha
    · rw [if_neg hS] at hlt ha
      have hal := (List.getElem?_eq_some_iff.1 ha).1
      rw [← preR_all] at hal
      obtain ⟨j, x, hj, hl, hax, hx⟩ := rules_find _ (Nat.le_refl _) hal
      rw [hax] at ha
      obtain ⟨ks, rfl, hks⟩ := enR_found hj hl hx ha
      have hrt : rightI rules (.node (j : Int) 0 ks) = rules[j] := by
        unfold rightI
        show (rules[((j : Int)).toNat]?).getD _ = _
        rw [Int.toNat_natCast, List.getElem?_eq_getElem hj]; rfl
      have hneg : ¬ (Tree.node (j : Int) 0 ks).rule = -1 := by show ¬ (j : Int) = -1; omega
      rw [idxF, if_neg hneg, hrt, hl, hwt]
      show kidI _ _ _ ks rules[j].right ((rules.take ((j : Int)).toNat).foldl _ 0) k = _
      rw [Int.toNat_natCast, rules_fold hE hA hk hM hlt j (by omega)]
      have h1 := preR_len (S := S) (o := symE S (EN rules S size)) (A := (A : Int)) (k := k) (rules := rules) hj
      have h2 := preR_len_le (S := S) (o := symE S (EN rules S size)) (A := (A : Int)) (k := k) (rules := rules) (j := j + 1) (by omega)
      rw [h1, if_pos hl] at h2
      rw [kidI_val hE (Q := fun t => (nodes t).length ≤ f) (fun s i b t hst hb => ?_) (fun s i b t hst hA' hi hM' hlt' hb hq => ?_) (f := reachN T size (A * (n + 1) + k)) rules[j].right k x ks _ (fun t' ht' => ?_) (hE A k _ hA hk hM (List.getElem_mem hj) hl) (by omega) hks (by omega) (by omega), hax]
      · push_cast; rfl
      · have hm := leaf_mem hst (List.mem_of_getElem? hb)
        obtain ⟨rfl, rfl⟩ := hm
        have hb0 : b = 0 := by
          unfold symE at hb
          by_cases hh : hasK S s 1 = false
          · rw [if_pos hh] at hb; simp at hb
          · rw [if_neg hh, if_pos hst] at hb
            cases b with
            | zero => rfl
            | succ b => simp at hb
        subst hb0
        cases f with
        | zero => rfl
        | succ f => rw [idxF, if_pos (show (Tree.node (-1) s.n []).rule = -1 from rfl)]; rfl
      · unfold symE at hlt' hb
        by_cases hh : hasK S s i = false
        · rw [if_pos hh] at hb; simp at hb
        · rw [if_neg hh, if_neg (by rw [hst]; decide)] at hlt' hb
          exact ih t hq _ _ _ hA' hi hM' hlt' hb
      · have := kid_nodes (j := j) ht'; omega
end
theorem enR_mem_at {S : Nat → Nat → Bool} {o : Sym → Nat → List Tree} {A : Int} {k : Nat} {t : Tree} : ∀ (rs : List Rule) (j : Nat), t ∈ enR S o A k rs j → ∃ (i : Nat) (hi : i < rs.length) (ks : List Tree), rs[i].left = A ∧ ks ∈ enL S o rs[i].right k ∧ t = .node ((j + i : Nat) : Int) 0 ks
  | [], j, h => by unfold enR at h; cases h
  | r :: rs, j, h => by
    rw [enR] at h
    rcases List.mem_append.1 h with h | h
    · by_cases hl : r.left = A
      · rw [if_pos hl] at h
        obtain ⟨ks, hk, rfl⟩ := List.mem_map.1 h
        exact ⟨0, by simp, ks, hl, hk, rfl⟩
      · rw [if_neg hl] at h; cases h
    · obtain ⟨i, hi, ks, h1, h2, h3⟩ := enR_mem_at rs (j + 1) h
      exact ⟨i + 1, by simpa using hi, ks, h1, h2, by rw [h3]; congr 1; omega⟩
theorem enL_kids {g : Gram} {S : Nat → Nat → Bool} {o : Sym → Nat → List Tree} : ∀ (l : List Sym), (∀ s ∈ l, ∀ i t, hasK S s i = true → t ∈ o s i → (∀ x ∈ nodes t, nodeOk g x = true) ∧ kidOk g t s = true) → ∀ (k : Nat) (ks : List Tree), ks ∈ enL S o l k → (∀ x ∈ nodesL ks, nodeOk g x = true) ∧ ks.length = l.length ∧ ((List.zip ks l).all fun x => kidOk g x.1 x.2) = true
  | [], _, k, ks, h => by
    unfold enL at h
    by_cases h0 : k = 0
    · rw [if_pos h0] at h; simp at h; subst h; simp [nodesL]
    · rw [if_neg h0] at h; cases h
  | s :: l, ho, k, ks, h => by
    obtain ⟨i, t, y, hi, h1, h2, ht, hy, rfl⟩ := enL_mem_cons h
    obtain ⟨a1, a2⟩ := ho s List.mem_cons_self i t h1 ht
    obtain ⟨b1, b2, b3⟩ := enL_kids l (fun s' hs' => ho s' (List.mem_cons_of_mem _ hs')) _ y hy
    refine ⟨fun x hx => ?_, by simp [b2], by simp [a2]; simpa using b3⟩
    rw [nodesL] at hx
    rcases List.mem_append.1 hx with hx | hx
    · exact a1 x hx
    · exact b1 x hx
theorem en_valid {g : Gram} {S : Nat → Nat → Bool} (hs : ∀ r ∈ g.rules, ∀ s ∈ r.right, hasS g s = true) : ∀ (f A k : Nat) (t : Tree), t ∈ enF g.rules S f A k → (∀ x ∈ nodes t, nodeOk g x = true) ∧ rootS g t = ⟨false, (A : Int)⟩ ∧ 0 ≤ t.rule ∧ t.rule < g.rules.length := by
  intro f
  induction f with
  | zero => intro A k t h; unfold enF at h; cases h
  | succ f ih =>
    intro A k t h
    rw [enF] at h
    by_cases hS : S A k = false
    · rw [if_pos hS] at h; cases h
    · rw [if_neg hS] at h
      obtain ⟨i, hi, ks, hl, hks, rfl⟩ := enR_mem_at _ _ h
      rw [Nat.zero_add]
      obtain ⟨b1, b2, b3⟩ := enL_kids (g := g) g.rules[i].right (fun s hsm i' t' hh ht' => by
        have hsv := hs _ (List.getElem_mem hi) s hsm
        cases hst : s.term with
        | true =>
          obtain ⟨rfl, rfl⟩ := leaf_mem hst ht'
          have hv : 0 ≤ s.n ∧ s.n < g.terms := by unfold hasS at hsv; rw [hst] at hsv; simpa using hsv
          refine ⟨fun x hx => ?_, ?_⟩
          · have : x = .node (-1) s.n [] := by rw [nodes] at hx; simpa using hx
            subst this
            unfold nodeOk
            rw [if_pos (show (Tree.node (-1) s.n []).rule = -1 from rfl)]
            show (decide (0 ≤ s.n) && (decide (s.n < g.terms) && decide (([] : List Tree).length = 0))) = true
            simp [hv.1, hv.2]
          · unfold kidOk rootS
            show (decide (-1 ≤ (-1 : Int)) && (decide ((-1 : Int) < g.rules.length) && decide ((if (-1 : Int) < 0 then (⟨true, s.n⟩ : Sym) else _) = s))) = true
            have : (⟨true, s.n⟩ : Sym) = s := by cases s; simp at hst; subst hst; rfl
            rw [if_pos (by decide), this]
            simp; omega
        | false =>
          unfold symE at ht'
          rw [if_neg (by rw [hh]; decide), if_neg (by rw [hst]; decide)] at ht'
          obtain ⟨c1, c2, c3, c4⟩ := ih _ _ _ ht'
          refine ⟨c1, ?_⟩
          have hv : 0 ≤ s.n := by unfold hasS at hsv; rw [hst] at hsv; simp at hsv; exact hsv.1
          unfold kidOk
          rw [c2]
          have : (⟨false, ((s.n.toNat : Nat) : Int)⟩ : Sym) = s := by cases s; simp at hst hv; subst hst; simp; omega
          rw [this]
          simp; omega) k ks hks
      have hroot : rootS g (.node (i : Int) 0 ks) = ⟨false, (A : Int)⟩ := by
        unfold rootS
        show (if (i : Int) < 0 then _ else match g.rules[((i : Int)).toNat]? with | some r => _ | none => _) = _
        rw [if_neg (by omega), Int.toNat_natCast, List.getElem?_eq_getElem hi]
        show (⟨false, g.rules[i].left⟩ : Sym) = _
        rw [hl]
      refine ⟨fun x hx => ?_, hroot, by show (0 : Int) ≤ (i : Int); omega, by show (i : Int) < _; omega⟩
      rw [nodes_eq] at hx
      have hneg : ¬ (Tree.node (i : Int) 0 ks).rule = -1 := by show ¬ (i : Int) = -1; omega
      rcases List.mem_cons.1 hx with rfl | hx
      · unfold nodeOk
        rw [if_neg hneg]
        show (if (i : Int) < 0 then false else match g.rules[((i : Int)).toNat]? with | none => false | some r => decide ((0 : Int) = 0) && kidsOk g ks r.right) = true
        rw [if_neg (by omega), Int.toNat_natCast, List.getElem?_eq_getElem hi]
        simp only [decide_true, Bool.true_and]
        unfold kidsOk
        rw [b3]; simp [b2]
      · unfold kidsOf at hx
        rw [if_neg hneg] at hx
        exact b1 x hx
theorem checkT_en {g : Gram} (hck : checkG g = 0) {S : Nat → Nat → Bool} {f A k : Nat} {t : Tree} (h : t ∈ enF g.rules S f A k) : checkT g t = if 5000 < (nodes t).length then 2 else 0 := by
  unfold checkT
  rw [if_neg (by simpa using hck)]
  by_cases h5 : 5000 < (nodes t).length
  · rw [if_pos h5, if_pos h5]
  · rw [if_neg h5, if_neg h5]
    have : validT g t = true := List.all_eq_true.2 (en_valid (fun r hr s hs => ((checkG_zero hck).2.2 r hr).2.2.2 s hs) f A k t h).1
    rw [if_pos this]
end Cs
end Go.Proofs.Ytbnpemgmdnghgaa
namespace Go.Proofs.Ytbnpemgmdnghgaa
open Go.RowKit
namespace Cs

set_option maxHeartbeats 16000000 in
set_option maxRecDepth 100000 in
theorem treeN {g : Gram} {ra : Option Addr} {rcap N n : Nat} {d : Cid} {S : Nat → Nat → Bool} {w1 : World} {xb f : Nat} (hok : OkC g N) (hn : n ≤ 24) (hR : Rd AnyB w1 (.sl (g.rules.map Rule.d)) [.slice ra g.rules.length rcap]) (hxb : d.cb < xb) (h4 : ∀ r ∈ g.rules, r.right.length ≤ 1000)
    (hL : ∀ f0, f = f0 + 1 → ListP g (.slice ra g.rules.length rcap) N n d S w1 xb f0) : TreeP g (.slice ra g.rules.length rcap) N n d S w1 xb f := by
  intro s hs k hk hg i t hi hlen W hC hx
  obtain ⟨st, sn⟩ := s
  obtain ⟨PST, HP⟩ := nameIt (TrPost g (.slice ra g.rules.length rcap) N n d S w1 t W)
  rw [HP.out]
  obtain ⟨w0, HW0⟩ := nameIt ((W.alloc (.cells #[.bool st, .int .i64 sn] 65)).alloc (.cells #[.int .i64 0, .int .i64 0, .slice none 0 0] 42))
  have hb0 : Below W.heap.size W w0 := by rw [← HW0.out]; exact ((Below.refl _ _).alloc (Nat.le_refl _) _).alloc (by simp) _
  have HC0 := Lib.hid (hC.keep hb0)
  have Y0 : Hid (w0.heap[W.heap.size]? = some (.cells #[.bool st, .int .i64 sn] 65 (0, 0))) := by rw [← HW0.out]; exact bx_keep (bx_new _ _ _ rfl) ((Below.refl _ _).alloc (Nat.le_refl _) _)
  have R0 : Hid (w0.heap[W.heap.size + 1]? = some (.cells #[.int .i64 0, .int .i64 0, .slice none 0 0] 42 (0, 0))) := by rw [← HW0.out]; exact bx_new _ _ _ (by simp)
  have hsz0 : w0.heap.size = W.heap.size + 1 + 1 := by rw [← HW0.out]; simp
  have HFIN : Hid (∀ (v : Value) (Wc w' : World) (x y z : Value), Fr N d w0 Wc → Rd (fun b => Wc.heap.size ≤ b) w' (.sl (t.kids.map Tree.d)) [v] → Fr N d Wc w' → CntR g (.slice ra g.rules.length rcap) N n d S w1 w' →
      PST (.returned (.agg #[.int .i64 t.rule, .int .i64 t.term, v])) (((w'.setCell ⟨W.heap.size + 1, 0, none⟩ x).setCell ⟨W.heap.size + 1, 1, none⟩ y).setCell ⟨W.heap.size + 1, 2, none⟩ z)) := by
    intro v Wc w' x y z h1 h2 h3 h4
    rw [← HP.out]
    exact trFin x y z hb0 hC (by omega) (by omega) h1 h2 h3 h4
  have X1 := Lib.hid (bx_keep hx hb0)
  have HXN : Hid (∀ a, a < N → d.rc a ≠ xb) := hC.over hxb
  have HYN : Hid (∀ a, a < N → d.rc a ≠ W.heap.size) := hC.big (Nat.le_refl _)
  have HRN : Hid (∀ a, a < N → d.rc a ≠ W.heap.size + 1) := hC.big (by omega)
  obtain ⟨sb, HSB⟩ := nameIt W.heap.size
  rw [HSB.out] at Y0 R0 HYN HRN HFIN
  obtain ⟨rb, HRB⟩ := nameIt (sb + 1)
  rw [HRB.out] at R0 HRN HFIN
  cases st with
  | true =>
    have ht : t = .node (-1) sn [] := by
      unfold SE symE at hi
      by_cases hh : hasK S ⟨true, sn⟩ k = false
      · rw [if_pos hh] at hi; simp at hi
      · rw [if_neg hh] at hi
        simp at hi
        cases i with
        | zero => simpa using hi.symm
        | succ i => simp at hi
    subst ht
    have HLF := Lib.hid (leafN sn w0)
    obtain ⟨y0, y1⟩ := bx_cells2 Y0.out
    clear hi hlen hg hC hx hb0 HP hL hR hs X1
    go_enter Try.func51, Try.ntmps51
    go_upto_region 1 with fail
    rw [HW0.out, HSB.out]
    rw [HRB.out]
    go_wp2_with fail
    refine HLF.out.mono ?_
    rintro e w2 ⟨rfl, hb2⟩
    have R2 := bx_keep R0.out hb2
    have HE := Lib.hid (HFIN.out (.slice none 0 0) w0 w2 (.int .i64 (-1)) (.int .i64 sn) (.slice none 0 0) (Fr.refl _ _ _) (rd_nilT _ _) (Fr.of hb2) (HC0.out.keep hb2))
    obtain ⟨z0, z1, z2⟩ := bx_cells3 R2
    obtain ⟨f0, f1, f2⟩ := bx_free3 R2
    clear y0 y1 HLF hb2 R2 HFIN
    go_wp2_with fail
    refine bodyPost_ret (v := .agg #[.int .i64 (-1), .int .i64 sn, .slice none 0 0]) (by simp [results, Try.results51, go_sem, z0, z1, z2]) rfl ?_
    simpa [Tree.rule, Tree.term] using HE.out
  | false =>
    obtain ⟨hA, hkn, hM, hrk⟩ := hg rfl
    obtain ⟨hs0, hsN⟩ := hs rfl
    obtain ⟨f0, rfl⟩ : ∃ f0, f = f0 + 1 := ⟨f - 1, by omega⟩
    replace hL := hL f0 rfl
    obtain ⟨A, rfl⟩ : ∃ A : Nat, sn = (A : Int) := ⟨sn.toNat, by simp at hs0; omega⟩
    simp only [Int.toNat_natCast] at hA hM hrk hsN
    have hE := ends_MM (rules := g.rules) (S := S) (N := N) (n := n) hok.r
    have hse : SE g S N n ⟨false, (A : Int)⟩ k = enR S (SE g S N n) (A : Int) k g.rules 0 := by
      have hh : hasK S ⟨false, (A : Int)⟩ k = S A k := rfl
      by_cases h : S A k = false
      · unfold SE symE at hi
        rw [if_pos (hh.trans h)] at hi
        simp at hi
      · unfold SE
        rw [symE, if_neg (by rw [hh]; exact h)]
        simp only [Bool.false_eq_true, if_false, Int.toNat_natCast]
        rw [EN_eq hE hA hk hM, if_neg h]
    rw [hse] at hi hlen
    obtain ⟨o, HO⟩ := nameIt (SE g S N n)
    rw [HO.out] at hi hlen
    have HLS : Hid (∀ j (hj : j < g.rules.length), g.rules[j].left = (A : Int) → ∀ a cap, Rd AnyB w1 (.sl (g.rules[j].right.map Sym.d)) [.slice a g.rules[j].right.length cap] → ∀ W, CntR g (.slice ra g.rules.length rcap) N n d S w1 W →
        Calls Try.prog 57 #[.pointer (some ⟨d.cb, 0, none⟩), .slice a g.rules[j].right.length cap, .int .i64 (k : Int)] W fun e W' => e = .returned (.int .i64 ((enL S o g.rules[j].right k).length : Int)) ∧ Fr N d W W' ∧ CntR g (.slice ra g.rules.length rcap) N n d S w1 W') := by
      intro j hj hl a cap hrd W' hc
      obtain ⟨C, hc⟩ := hc
      have hmem := List.getElem_mem hj
      have hv := listV_EN (cap := MaxC) (many := -1) (by decide) (by decide) hE (hE A k _ hA hk hM hmem hl)
      have hle := preR_len_le (S := S) (o := o) (A := (A : Int)) (k := k) (show j + 1 ≤ g.rules.length from hj)
      rw [preR_len hj, if_pos hl] at hle
      have h := (listE (n := n) (by omega) (ofE (d := d) (w0 := w1) (n := n) (by omega) (by have := hok.n2; omega) hok.r (ends_MK (rules := g.rules) (S := S) (N := N) (n := n) hok.r) hR (sizeK N n + 1)) g.rules[j].right (hok.r _ hmem) k hk (fun _ _ _ _ _ _ _ _ _ _ => okK_all _ _ _ (Nat.lt_succ_self _)) a cap C W' hc hrd)
      have HO' : symE S (EN g.rules S (sizeK N n)) = o := HO.out
      rw [hv, HO', Int.min_eq_left (by unfold MaxC; omega)] at h
      exact h
    have HLP : Hid (∀ j (hj : j < g.rules.length), g.rules[j].left = (A : Int) → ∀ (x : Nat) (ks : List Tree), (enL S o g.rules[j].right k)[x]? = some ks → ∀ a cap W, Rd AnyB w1 (.sl (g.rules[j].right.map Sym.d)) [.slice a g.rules[j].right.length cap] → CntR g (.slice ra g.rules.length rcap) N n d S w1 W → W.heap[xb]? = some (nbox g (.slice ra g.rules.length rcap) d) →
        Calls Try.prog 76 #[.pointer (some ⟨xb, 0, none⟩), .slice a g.rules[j].right.length cap, .int .i64 (k : Int), .int .i64 (x : Int)] W (TsPost g (.slice ra g.rules.length rcap) N n d S w1 ks W)) := by
      intro j hj hl x ks hx' a cap W' hrd hc hb
      have hmem := List.getElem_mem hj
      have hle := preR_len_le (S := S) (o := o) (A := (A : Int)) (k := k) (show j + 1 ≤ g.rules.length from hj)
      rw [preR_len hj, if_pos hl] at hle
      rw [← HO.out] at hx' hle
      exact hL _ (hok.r _ hmem) (h4 _ hmem) k hk ((hE A k _ hA hk hM hmem hl).mono fun B j' hg' => hg'.mono (by omega)) x ks hx' (by rw [← HO.out] at hlen; omega) a cap W' hrd hc hb
    have HFD : Hid (∀ j (hj : j < g.rules.length), g.rules[j].left = (A : Int) → ∀ x, x < (enL S o g.rules[j].right k).length → i = (preR S o (A : Int) k g.rules j).length + x → ∃ ks, t = Tree.node (j : Int) 0 ks ∧ (enL S o g.rules[j].right k)[x]? = some ks) := by
      intro j hj hl x hx' hi'
      subst hi'
      exact enR_found hj hl hx' hi
    have HEND : Hid (i < (preR S o (A : Int) k g.rules g.rules.length).length) := by
      show i < _
      rw [preR_all]
      exact (List.getElem?_eq_some_iff.1 hi).1
    have HPL : Hid (∀ j (hj : j < g.rules.length), (preR S o (A : Int) k g.rules (j + 1)).length = (preR S o (A : Int) k g.rules j).length + (if g.rules[j].left = (A : Int) then (enL S o g.rules[j].right k).length else 0)) := fun j hj => preR_len hj
    have HI0 : Hid (i = (preR S o (A : Int) k g.rules 0).length + i) := by show i = _; rw [preR_zero]; simp
    have hib : i < 1000000000 := by have := (List.getElem?_eq_some_iff.1 hi).1; omega
    have hLb : ∀ j (hj : j < g.rules.length), g.rules[j].left = (A : Int) → (enL S o g.rules[j].right k).length < 1000000000 := by
      intro j hj hl
      have hle := preR_len_le (S := S) (o := o) (A := (A : Int)) (k := k) (show j + 1 ≤ g.rules.length from hj)
      rw [preR_len hj, if_pos hl] at hle
      omega
    have HLB := Lib.hid hLb
    have HRD := Lib.hid hR
    have hnons := hok.nons
    have hrc : rcap ≤ maxLen ∧ g.rules.length ≤ rcap := by obtain ⟨a', cap', L, e, h1, h2, _⟩ := hR; simp at e h1; omega
    unfold maxLen at hrc
    unfold nbox at X1 HLP
    obtain ⟨PR, HPR⟩ := nameIt (fun j => (preR S o (A : Int) k g.rules j).length)
    have hPR : ∀ j, (preR S o (A : Int) k g.rules j).length = PR j := fun j => by rw [← HPR.out]
    simp only [hPR] at HFD HEND HPL HI0
    obtain ⟨gt, HGT⟩ := nameIt g.terms
    obtain ⟨gs, HGS⟩ := nameIt g.start
    obtain ⟨rl, HRL⟩ := nameIt g.rules.length
    rw [HGT.out, hnons, HGS.out, HRL.out] at X1
    simp only [HGT.out, hnons, HGS.out] at HLP
    have HRLE := HRL.out
    simp only [HRLE] at HLP HLS HRD HC0 HFIN
    rw [HRL.out] at HEND hrc
    have HNI0 : Hid (NI g (.slice ra rl rcap) N n d S w1 w0 w0) := NI.start HC0.out
    have HXB : Hid (∀ W', Fr N d w0 W' → W'.heap[xb]? = some (.cells #[.int .i64 gt, .int .i64 (N : Int), .int .i64 gs, .slice ra rl rcap, .pointer (some ⟨d.cb, 0, none⟩)] 85 (0, 0))) := fun W' h => h.bx X1.out HXN.out
    have HYB : Hid (∀ W', Fr N d w0 W' → W'.heap[sb]? = some (.cells #[.bool false, .int .i64 (A : Int)] 65 (0, 0))) := fun W' h => h.bx Y0.out HYN.out
    have HRBX : Hid (∀ W', Fr N d w0 W' → W'.heap[rb]? = some (.cells #[.int .i64 0, .int .i64 0, .slice none 0 0] 42 (0, 0))) := fun W' h => h.bx R0.out HRN.out
    obtain ⟨y0, y1⟩ := bx_cells2 Y0.out
    obtain ⟨x0, x1, x2, x3, x4⟩ := bx_cells5c X1.out
    clear hi hlen hg hC hx hb0 HP hL hR hs hok hE hse hLb hs0 hsN hPR hM hrk hA HPR HO
    go_enter Try.func51, Try.ntmps51
    go_upto_region 1 with fail
    rw [HW0.out, HSB.out]
    rw [HRB.out]
    go_wp2_with fail
    clear y0 y1 x0 x1 x2 x3 x4
    go_loopg [3, 23] rl (fun gg v3 v23 wr => ∃ (j x : Nat), j ≤ rl ∧ rl - j ≤ gg ∧ x ≤ i ∧ v3 = .int .i64 (x : Int) ∧ v23 = .int .i64 (j : Int) ∧ Hid (i = PR j + x) ∧ Hid (NI g (.slice ra rl rcap) N n d S w1 w0 wr))
    case atStart => exact ⟨0, i, by omega, by omega, by omega, rfl, rfl, HI0, HNI0⟩
    case round =>
      clear HNI0 HI0
      obtain ⟨j, x, hj, hgg, hxi, rfl, rfl, HIX, HNI5⟩ := hrel
      obtain ⟨w5, rfl⟩ : ∃ ww : World, ww = wr := ⟨_, rfl⟩
      by_cases hjr : j < rl
      · have hjr' : (j : Int) < (rl : Int) := by omega
        have hj0 : (0 : Int) ≤ (j : Int) := by omega
        have hjx : j < g.rules.length := by rw [HRLE]; omega
        obtain ⟨rbk, ro, rv, rfl, -, hrb, s0, s1, hrr⟩ := HRD.out.rule_at hjx
        obtain ⟨ak, kc, rfl, hkc1, hkc2⟩ := hrr.form
        rw [List.length_map] at s1 hrr hkc1
        unfold maxLen at hkc2
        have t0 := (HNI5.out.cs.bel.cell (lt_of_cell s0)).trans s0
        have t1 := (HNI5.out.cs.bel.cell (lt_of_cell s1)).trans s1
        have hlk := fun hl W hc => HLS.out j hjr hl ak kc hrr W hc
        have hlp := fun hl x ks hx W hc hb => HLP.out j hjr hl x ks hx ak kc W hrr hc hb
        have hpl := HPL.out j hjx
        have hfd := HFD.out j hjx
        have hlb := HLB.out j hjx
        obtain ⟨kn, HKN⟩ := nameIt (g.rules[j]'hjx).right.length
        obtain ⟨kl, HKL⟩ := nameIt (g.rules[j]'hjx).left
        obtain ⟨E, HEL⟩ := nameIt (enL S o (g.rules[j]'hjx).right k)
        obtain ⟨el, HELL⟩ := nameIt E.length
        rw [HKN.out] at t1 hkc1
        rw [HKL.out] at t0
        simp only [HKN.out, HKL.out, HEL.out, HELL.out] at hlk hlp hpl hfd hlb
        have HLK0 := Lib.hid hlk
        have HLP0 := Lib.hid hlp
        have HPL0 := Lib.hid hpl
        have HFD0 := Lib.hid hfd
        have HLB0 := Lib.hid hlb
        obtain ⟨w6, HW6⟩ := nameIt (w5.alloc (.cells #[.int .i64 kl, .slice ak kn kc] 48))
        have HNI6 : Hid (NI g (.slice (some ⟨rbk, ro, none⟩) rl rcap) N n d S w1 w0 w6) := by rw [← HW6.out]; exact HNI5.out.keep ((Below.refl _ _).alloc (Nat.le_refl _) _)
        have Z6 : Hid (w6.heap[w5.heap.size]? = some (.cells #[.int .i64 kl, .slice ak kn kc] 48 (0, 0))) := by rw [← HW6.out]; exact bx_new _ _ _ rfl
        have HZN : Hid (∀ a, a < N → d.rc a ≠ w5.heap.size) := HNI5.out.cs.big (Nat.le_refl _)
        obtain ⟨rbx, HRBX2⟩ := nameIt w5.heap.size
        rw [HRBX2.out] at Z6 HZN
        clear hrr s0 s1 hlk hlp hpl hfd hlb
        go_upto_region 6 with fail
        rw [HW6.out, HRBX2.out]
        clear t0 t1
        obtain ⟨y0, y1⟩ := bx_cells2 (HYB.out _ HNI6.out.fr)
        obtain ⟨z0, z1⟩ := bx_cells2 Z6.out
        by_cases hkl : kl = (A : Int)
        · subst hkl
          have HLK := Lib.hid (HLK0.out rfl)
          have HPL1 : Hid (PR (j + 1) = PR j + el) := by have := HPL0.out; rw [if_pos rfl] at this; exact this
          have hel := HLB0.out rfl
          have HFD1 := Lib.hid (HFD0.out rfl)
          have HLP1 := Lib.hid (HLP0.out rfl)
          clear HLK0 HPL0 HLB0 HFD0 HLP0
          go_upto_region 7 with fail
          clear y0 y1 z0 z1
          have HS : Hid (∀ W', Fr N d w6 W' → (fun w' => w'.cell? ⟨xb, 0 + 4, none⟩ = some (.pointer (some ⟨d.cb, 0, none⟩)) ∧ w'.cell? ⟨rbx, 0 + 1, none⟩ = some (.slice ak kn kc)) W') := by
            intro W' hf
            obtain ⟨x0, x1, x2, x3, x4⟩ := bx_cells5c (HXB.out _ (HNI6.out.fr.trans hf))
            obtain ⟨z0, z1⟩ := bx_cells2 (hf.bx Z6.out HZN.out)
            exact ⟨x4, z1⟩
          have HND := Lib.hid (HNI6.out.keep (Below.refl _ _).drew)
          refine wp_region_U (S := (fun w' => w'.cell? ⟨xb, 0 + 4, none⟩ = some (.pointer (some ⟨d.cb, 0, none⟩)) ∧ w'.cell? ⟨rbx, 0 + 1, none⟩ = some (.slice ak kn kc))) 8 (by kernel_rfl) (fun inv => ?_)
          refine wpU_take (i := 0) (v := .pointer (some ⟨xb, 0, none⟩)) rfl inv (by kernel_rfl) (by kernel_rfl) (by decide) (by decide) (by kernel_rfl) (by kernel_rfl) (by kernel_rfl) (fun _ _ _ h => h) (Or.inl ⟨by rfl, fun w' hw' => ?_⟩) (HS.out _ (Fr.of (Below.refl _ _).drew)) (fun inv => ?_)
          · obtain ⟨h0, h1⟩ := hw'
            go_simp
          try simp only [Act.put, List.setIfInBounds_toArray, List.set_cons_zero, List.set_cons_succ]
          refine wpU_take (i := 1) (v := .pointer (some ⟨xb, 0, none⟩)) rfl inv (by kernel_rfl) (by kernel_rfl) (by decide) (by decide) (by kernel_rfl) (by kernel_rfl) (by kernel_rfl) (fun _ _ _ h => h) (Or.inl ⟨by rfl, fun w' hw' => ?_⟩) (HS.out _ (Fr.of (Below.refl _ _).drew)) (fun inv => ?_)
          · obtain ⟨h0, h1⟩ := hw'
            go_simp
          try simp only [Act.put, List.setIfInBounds_toArray, List.set_cons_zero, List.set_cons_succ]
          refine wpU_take (i := 2) (v := .pointer (some ⟨xb, 0 + 4, none⟩)) rfl inv (by kernel_rfl) (by kernel_rfl) (by decide) (by decide) (by kernel_rfl) (by kernel_rfl) (by kernel_rfl) (fun _ _ _ h => h) (Or.inl ⟨by rfl, fun w' hw' => ?_⟩) (HS.out _ (Fr.of (Below.refl _ _).drew)) (fun inv => ?_)
          · obtain ⟨h0, h1⟩ := hw'
            go_simp
          try simp only [Act.put, List.setIfInBounds_toArray, List.set_cons_zero, List.set_cons_succ]
          refine wpU_take (i := 3) (v := .pointer (some ⟨d.cb, 0, none⟩)) rfl inv (by kernel_rfl) (by kernel_rfl) (by decide) (by decide) (by kernel_rfl) (by kernel_rfl) (by kernel_rfl) (fun _ _ _ h => h) (Or.inl ⟨by rfl, fun w' hw' => ?_⟩) (HS.out _ (Fr.of (Below.refl _ _).drew)) (fun inv => ?_)
          · obtain ⟨h0, h1⟩ := hw'
            go_simp
          try simp only [Act.put, List.setIfInBounds_toArray, List.set_cons_zero, List.set_cons_succ]
          refine wpU_take (i := 4) (v := .pointer (some ⟨rbx, 0 + 1, none⟩)) rfl inv (by kernel_rfl) (by kernel_rfl) (by decide) (by decide) (by kernel_rfl) (by kernel_rfl) (by kernel_rfl) (fun _ _ _ h => h) (Or.inl ⟨by rfl, fun w' hw' => ?_⟩) (HS.out _ (Fr.of (Below.refl _ _).drew)) (fun inv => ?_)
          · obtain ⟨h0, h1⟩ := hw'
            go_simp
          try simp only [Act.put, List.setIfInBounds_toArray, List.set_cons_zero, List.set_cons_succ]
          refine wpU_take (i := 5) (v := .slice ak kn kc) rfl inv (by kernel_rfl) (by kernel_rfl) (by decide) (by decide) (by kernel_rfl) (by kernel_rfl) (by kernel_rfl) (fun _ _ _ h => h) (Or.inl ⟨by rfl, fun w' hw' => ?_⟩) (HS.out _ (Fr.of (Below.refl _ _).drew)) (fun inv => ?_)
          · obtain ⟨h0, h1⟩ := hw'
            go_simp
          try simp only [Act.put, List.setIfInBounds_toArray, List.set_cons_zero, List.set_cons_succ]
          refine wpU_take (i := 6) (v := .int .i64 (k : Int)) rfl inv (by kernel_rfl) (by kernel_rfl) (by decide) (by decide) (by kernel_rfl) (by kernel_rfl) (by kernel_rfl) (fun _ _ _ h => h) (Or.inl ⟨by rfl, fun w' hw' => ?_⟩) (HS.out _ (Fr.of (Below.refl _ _).drew)) (fun inv => ?_)
          · obtain ⟨h0, h1⟩ := hw'
            go_simp
          try simp only [Act.put, List.setIfInBounds_toArray, List.set_cons_zero, List.set_cons_succ]
          refine wpU_one (i := 7) (by kernel_rfl) rfl (fun K hK => ?_)
          replace inv := inv_setc (i := 7) inv (by kernel_rfl) (by decide)
          go_simp
          with_reducible refine (HLK.out _ HND.out.cs).mono ?_
          rintro e w7 ⟨rfl, hf, hc⟩
          have HNI7 := Lib.hid (HND.out.of hf hc)
          have HFS : Hid (Fr N d w6 w7) := (Fr.of (Below.refl _ _).drew).trans hf
          clear hf hc HND
          refine hK.out _ _ (fun _ => HS.out _ HFS.out) ?_
          clear hK K
          try simp only [Act.put, List.setIfInBounds_toArray, List.set_cons_zero, List.set_cons_succ]
          refine wpU_one (i := 8) (by kernel_rfl) rfl (fun K hK => ?_)
          go_simp
          refine hK.out _ _ (fun h => absurd (show true = false from h) (by decide)) ?_
          clear hK K
          try simp only [Act.put, List.setIfInBounds_toArray, List.set_cons_zero, List.set_cons_succ]
          refine wpU_done (by kernel_rfl) ?_ _
          clear HS

          by_cases hxe : el ≤ x
          · have hxe' : (el : Int) ≤ (x : Int) := by omega
            have hdec : decide ((el : Int) ≤ (x : Int)) = true := by simpa using hxe'
            have hsub : IntKind.i64.wrap ((x : Int) - (el : Int)) = ((x - el : Nat) : Int) := by rw [IntWalk.i64_in _ (by omega)]; omega
            have HIX2 : Hid (i = PR (j + 1) + (x - el)) := by show i = _; have h1 := HIX.out; have h2 := HPL1.out; omega
            go_wp2_with fail
            go_roundg (rl - (j + 1))
            case measure => omega
            case rel => exact ⟨j + 1, x - el, by omega, by omega, by omega, by first | rfl | exact congrArg _ hsub, by go_num, HIX2, HNI7⟩
          · have hxe' : ¬ (el : Int) ≤ (x : Int) := by omega
            obtain ⟨ks, htk, hks⟩ := HFD1.out x (by omega) HIX.out
            have HCL := Lib.hid (HLP1.out x ks hks w7 HNI7.out.cs (HXB.out _ HNI7.out.fr))
            subst htk
            obtain ⟨z0, z1⟩ := bx_cells2 (HFS.out.bx Z6.out HZN.out)
            go_wp2_with fail
            with_reducible refine HCL.out.mono ?_
            rintro e w8 ⟨v8, rfl, hr8, hf8, hc8⟩
            have HE := fun a b c => HFIN.out v8 w7 w8 a b c HNI7.out.fr hr8 hf8 hc8
            obtain ⟨a8, c8, rfl, -, -⟩ := hr8.form
            have R8 := HRBX.out _ (HNI7.out.fr.trans hf8)
            obtain ⟨q0, q1, q2⟩ := bx_cells3 R8
            obtain ⟨f0, f1, f2⟩ := bx_free3 R8
            obtain ⟨n8, HN8⟩ := nameIt (ks.map Tree.d).length
            rw [HN8.out] at HE
            rw [HN8.out]
            have HEE := Lib.hid HE
            clear hr8 hf8 hc8 HE R8 z0 z1 HFIN HCL
            go_wp2_with fail
            refine bodyPost_ret (v := .agg #[.int .i64 (j : Int), .int .i64 0, .slice a8 n8 c8]) (by simp [results, Try.results51, go_sem, q0, q1, q2]) rfl ?_
            simpa [Tree.rule, Tree.term] using HEE.out _ _ _
        · have hkl' : (kl != (A : Int)) = true := by simpa using hkl
          have HIX2 : Hid (i = PR (j + 1) + x) := by show i = _; have h1 := HIX.out; have h2 := HPL0.out; rw [if_neg hkl] at h2; omega
          clear HLK0 HPL0 HLB0 HFD0 HLP0
          go_wp2_with fail
          go_roundg (rl - (j + 1))
          case measure => omega
          case rel => exact ⟨j + 1, x, by omega, by omega, hxi, rfl, by go_num, HIX2, HNI6⟩
      · exfalso
        have h1 := HEND.out
        have h2 := HIX.out
        obtain rfl : j = rl := by omega
        omega
end Cs
end Go.Proofs.Ytbnpemgmdnghgaa
namespace Go.Proofs.Ytbnpemgmdnghgaa
open Go.RowKit
namespace Cs

/-- what the rounds over the symbols keep -/
structure LIv (g : Gram) (vr : Value) (N n : Nat) (d : Cid) (S : Nat → Nat → Bool) (w1 : World) (f : Nat) (l : List Sym) (ks : List Tree) (w0 : World) (p k i : Nat) (al : Option Addr) (cl : Nat) (vo : Value) (W : World) : Prop where
  kn : k ≤ n
  fine : Fine S (GdN g S N n f) (l.drop p) k
  at' : (enL S (SE g S N n) (l.drop p) k)[i]? = some (ks.drop p)
  lt : (enL S (SE g S N n) (l.drop p) k).length < 1000000000
  rd : Rd AnyB w1 (.sl ((l.drop p).map Sym.d)) [.slice al (l.length - p) cl]
  pk : p ≤ ks.length
  row : RowD (fun b => w0.heap.size ≤ b) w0.heap.size 42 3 ((ks.take p).map Tree.d) vo W
  ni : NI g vr N n d S w1 w0 W
/-- the way on from a length -/
structure NxQ (g : Gram) (N n : Nat) (S : Nat → Nat → Bool) (w1 : World) (f : Nat) (l : List Sym) (ks : List Tree) (p k q y : Nat) (al : Option Addr) (cl : Nat) (t : Tree) : Prop where
  kn : k - q ≤ n
  fine : Fine S (GdN g S N n f) (l.drop (p + 1)) (k - q)
  at' : (enL S (SE g S N n) (l.drop (p + 1)) (k - q))[y]? = some (ks.drop (p + 1))
  lt : (enL S (SE g S N n) (l.drop (p + 1)) (k - q)).length < 1000000000
  rd : Rd AnyB w1 (.sl ((l.drop (p + 1)).map Sym.d)) [.slice al (l.length - (p + 1)) cl]
  tk : ks.take (p + 1) = ks.take p ++ [t]
  pk : p + 1 ≤ ks.length
section
variable {g : Gram} {vr : Value} {N n : Nat} {d : Cid} {S : Nat → Nat → Bool} {w1 : World} {f : Nat} {l : List Sym} {ks : List Tree} {w0 : World} {p k i q y : Nat} {al al' : Option Addr} {cl cl' : Nat} {vo : Value} {W W0 W1 : World} {t : Tree}
theorem LIv.next {v' : Value} {xs : List Value} {tr tm : Int} {v8 : Value} {w7 w9 : World} (h : LIv g vr N n d S w1 f l ks w0 p k i al cl vo W) (hq : NxQ g N n S w1 f l ks p k q y al' cl' t) (hrow : RowD (fun b => w0.heap.size ≤ b) w0.heap.size 42 3 ((ks.take p).map Tree.d) vo w9) (hni : NI g vr N n d S w1 w0 w9)
    (hlt : (∀ b, vo.ownBlock = some b → b < w7.heap.size) ∧ w0.heap.size ≤ w7.heap.size ∧ d.cb < w0.heap.size) (hr : Rd (fun b => w7.heap.size ≤ b) w9 t.d [.int .i64 tr, .int .i64 tm, v8]) (ho : w9.ownsRow w0.heap.size 42 3 vo p xs) (hd : RdAll (fun k => w0.heap.size ≤ k ∧ vo.ownBlock ≠ some k) w9 ((ks.take p).map Tree.d) xs)
    (ho' : W1.ownsRow w0.heap.size 42 3 v' (p + 1) (xs ++ [.int .i64 tr, .int .i64 tm, v8])) (hg : w9.grownBy W1 vo.ownBlock) (hat : v'.ownBlock = vo.ownBlock ∨ ∃ k, v'.ownBlock = some k ∧ w9.heap.size ≤ k) :
    LIv g vr N n d S w1 f l ks w0 (p + 1) (k - q) y al' cl' v' W1 := by
  have hpl : ((ks.take p).map Tree.d).length = p := by rw [List.length_map, List.length_take]; have := h.pk; omega
  have hown := ho.lt
  have hb : Below w0.heap.size w9 W1 := (Below.refl _ _).grown hg hrow.le (fun b e => (hown b e).1)
  refine ⟨hq.kn, hq.fine, hq.at', hq.lt, hq.rd, hq.pk, ?_, hni.cs.keepB hb hlt.2.2, ?_⟩
  · rw [hq.tk, List.map_append]
    exact RowD.step (es := [t.d]) ho hd hpl.symm (RdAll.one hr) (fun b hb _ => ⟨by have : w7.heap.size ≤ b := hb; show w0.heap.size ≤ b; omega, fun e => by have := hlt.1 b e; have : w7.heap.size ≤ b := hb; omega⟩) hrow.le ho' hg hat
  · have hf := hni.fr
    exact ⟨hg.os.trans hf.os, hg.tape.trans hf.tape, hg.output.trans hf.output, Nat.le_trans hf.size hg.size, fun j hj hn => (hb.block j hj).trans (hf.block j hj hn)⟩
end

set_option maxHeartbeats 16000000 in
set_option maxRecDepth 100000 in
theorem listN {g : Gram} {ra : Option Addr} {rcap N n : Nat} {d : Cid} {S : Nat → Nat → Bool} {w1 : World} {xb f : Nat} (hok : OkC g N) (hn : n ≤ 24) (hR : Rd AnyB w1 (.sl (g.rules.map Rule.d)) [.slice ra g.rules.length rcap]) (hxb : d.cb < xb)
    (hT : TreeP g (.slice ra g.rules.length rcap) N n d S w1 xb f) : ListP g (.slice ra g.rules.length rcap) N n d S w1 xb f := by
  intro l hl hl4 k0 hk0 hF0 i0 ks hi0 hlen0 a0 cap0 w0 hrd0 hC hx
  obtain ⟨PST, HP⟩ := nameIt (TsPost g (.slice ra g.rules.length rcap) N n d S w1 ks w0)
  rw [HP.out]
  have HXN : Hid (∀ a, a < N → d.rc a ≠ xb) := hC.over hxb
  have HCB : Hid (d.cb < w0.heap.size) := hC.cbl'
  obtain ⟨c0, hc1, hc2⟩ : ∃ c : Nat, l.length ≤ cap0 ∧ cap0 ≤ maxLen := by obtain ⟨a', cap', L, e, h1, h2, _⟩ := hrd0; simp at e h1; exact ⟨0, by omega, by omega⟩
  unfold maxLen at hc2
  have hE := ends_MM (rules := g.rules) (S := S) (N := N) (n := n) hok.r
  obtain ⟨VR, HVR⟩ := nameIt (Value.slice ra g.rules.length rcap)
  rw [HVR.out] at hT hC hx HP
  have HI0 : Hid (LIv g VR N n d S w1 f l ks w0 0 k0 i0 a0 cap0 (.slice none 0 0) w0) :=
    ⟨hk0, (by rw [List.drop_zero]; exact hF0), (by rw [List.drop_zero, List.drop_zero]; exact hi0), (by rw [List.drop_zero]; exact hlen0), (by rw [List.drop_zero, Nat.sub_zero]; exact hrd0), by omega, (by rw [List.take_zero]; exact RowD.nil _ _ _ _ _ (Nat.le_refl _)), NI.start hC⟩
  have HFIN : Hid (∀ (k i : Nat) al cl vo W, LIv g VR N n d S w1 f l ks w0 l.length k i al cl vo W → PST (.returned vo) W) := by
    intro k i al cl vo W h
    have hks : ks.take l.length = ks := by
      have h1 := h.at'
      rw [List.drop_length] at h1
      unfold enL at h1
      by_cases hk : k = 0
      · rw [if_pos hk] at h1
        cases i with
        | zero =>
          have h2 : ks.drop l.length = [] := by simpa using h1.symm
          exact List.take_of_length_le (by simpa using h2)
        | succ i => simp at h1
      · rw [if_neg hk] at h1; simp at h1
    have hrow := h.row
    rw [hks] at hrow
    rw [← HP.out]
    exact ⟨vo, rfl, hrow.rd.mono (fun b hb _ => hb.elim id id), h.ni.fr, h.ni.cs⟩
  have HST : Hid (∀ (p k i : Nat) (al : Option Addr) (cl : Nat) (vo : Value) (W : World), (hp : p < l.length) → LIv g VR N n d S w1 f l ks w0 p k i al cl vo W →
      ∃ (sb so : Nat) (RV FV : Nat → Int) (BL PQ EL : Nat → Nat), al = some ⟨sb, so, none⟩ ∧ l.length - p ≤ cl ∧ cl ≤ 9223372036854775807 ∧ l.length - p ≤ 9223372036854775807 ∧ PQ 0 = 0 ∧ (∀ q, q ≤ k → PQ (q + 1) = PQ q + BL q) ∧ i < PQ (k + 1) ∧ i < 1000000000 ∧ k ≤ 24 ∧
        (∀ W', Below w1.heap.size w1 W' → W'.cell? ⟨sb, so, none⟩ = some (.bool l[p].term) ∧ W'.cell? ⟨sb, so + 1, none⟩ = some (.int .i64 l[p].n)) ∧
        (∀ q, q ≤ k → (if 0 < RV q then FV q else 0) * RV q = (BL q : Int)) ∧ (∀ q, q ≤ k → BL q < 1000000000) ∧
        (∀ q, q ≤ k → ∀ W, CntR g VR N n d S w1 W → Calls Try.prog 57 #[.pointer (some ⟨d.cb, 0, none⟩), .slice (some ⟨sb, if cl = 1 then so else so + 2, none⟩) (l.length - p - 1) (cl - 1), .int .i64 ((k - q : Nat) : Int)] W fun e W' => e = .returned (.int .i64 (RV q)) ∧ Fr N d W W' ∧ CntR g VR N n d S w1 W') ∧
        (∀ q, q ≤ k → ∀ W, CntR g VR N n d S w1 W → Calls Try.prog 29 #[.pointer (some ⟨d.cb, 0, none⟩), .agg #[.bool l[p].term, .int .i64 l[p].n], .int .i64 (q : Int)] W fun e W' => e = .returned (.int .i64 (FV q)) ∧ Fr N d W W' ∧ CntR g VR N n d S w1 W') ∧
        (∀ q x, q ≤ k → i = PQ q + x → x < BL q → ∃ t : Tree, RV q = (EL q : Int) ∧ 0 < EL q ∧ EL q < 1000000000 ∧ NxQ g N n S w1 f l ks p k q (x % EL q) (some ⟨sb, if cl = 1 then so else so + 2, none⟩) (cl - 1) t ∧
          ∀ W, CntR g VR N n d S w1 W → W.heap[xb]? = some (nbox g VR d) → Calls Try.prog 51 #[.pointer (some ⟨xb, 0, none⟩), .agg #[.bool l[p].term, .int .i64 l[p].n], .int .i64 (q : Int), .int .i64 ((x / EL q : Nat) : Int)] W (TrPost g VR N n d S w1 t W))) := by
    intro p k i al cl vo W hp h
    have hdrop : l.drop p = l[p] :: l.drop (p + 1) := List.drop_eq_getElem_cons hp
    have hrd := h.rd
    obtain ⟨sb, so, rfl, -, hsb, u0, u1⟩ := hrd.sym_at (i := 0) (by rw [List.length_drop]; omega)
    simp only [List.getElem_drop, Nat.zero_mul, Nat.add_zero] at u0 u1
    have hbn := hrd.bounds
    have hmx : maxLen = 9223372036854775807 := rfl
    have hfine := h.fine
    have hat := h.at'
    have hlt := h.lt
    rw [hdrop] at hfine hat hlt
    have hkn := h.kn
    have hrest : Rd AnyB w1 (.sl ((l.drop (p + 1)).map Sym.d)) [.slice (some ⟨sb, if cl = 1 then so else so + 2, none⟩) (l.length - p - 1) (cl - 1)] := by
      have := rd_rest (k := 2) 1 hrd (syms_cells _) (by omega)
      rw [← List.map_drop, List.drop_drop, Nat.one_mul] at this
      exact this
    have hokl : ∀ s ∈ l.drop (p + 1), okS N s := fun s hs => hl s (List.mem_of_mem_drop hs)
    have hoks : okS N l[p] := hl _ (List.getElem_mem hp)
    have hbv := fun q (hq : q ≤ k) => blk_val (cap := MaxC) (many := -1) (by decide) (by decide) hE hfine hq (by have h1 : (enL S (symE S (EN g.rules S (sizeK N n))) (l[p] :: l.drop (p + 1)) k).length < 1000000000 := hlt; unfold MaxC; omega)
    have hple := fun q (hq : q ≤ k) => pre_len_le (S := S) (o := SE g S N n) (s := l[p]) (l := l.drop (p + 1)) (k := k) (j := q + 1) (by omega)
    have hill := (List.getElem?_eq_some_iff.1 hat).1
    refine ⟨sb, so, fun q => listV S MaxC (symV S (valK g.rules S (MK g.rules S N n) MaxC (-1) (sizeK N n))) (l.drop (p + 1)) (k - q), fun q => symV S (valK g.rules S (MK g.rules S N n) MaxC (-1) (sizeK N n)) l[p] q,
      fun q => (blk S (SE g S N n) l[p] (l.drop (p + 1)) k q).length, fun q => (pre S (SE g S N n) l[p] (l.drop (p + 1)) k q).length, fun q => (enL S (SE g S N n) (l.drop (p + 1)) (k - q)).length, rfl, by omega, by omega, by omega, rfl, fun q _ => pre_len, by rw [enL_pre] at hill; exact hill, by omega, by omega, ?_, fun q hq => (hbv q hq).1, ?_, ?_, ?_, ?_⟩
    · exact fun W' hb => ⟨(hb.cell (lt_of_cell u0)).trans u0, (hb.cell (lt_of_cell u1)).trans u1⟩
    · intro q hq
      have h1 := hple q hq
      rw [pre_len] at h1
      show (blk S (SE g S N n) l[p] (l.drop (p + 1)) k q).length < _
      omega
    · intro q hq W' hc
      obtain ⟨C, hc⟩ := hc
      have h1 := (listE (n := n) (by omega) (ofE (d := d) (w0 := w1) (n := n) (by omega) (by have := hok.n2; omega) hok.r (ends_MK (rules := g.rules) (S := S) (N := N) (n := n) hok.r) hR (sizeK N n + 1)) (l.drop (p + 1)) hokl (k - q) (by omega) (fun _ _ _ _ _ _ _ _ _ _ => okK_all _ _ _ (Nat.lt_succ_self _)) (some ⟨sb, if cl = 1 then so else so + 2, none⟩) (cl - 1) C W' (by rw [HVR.out]; exact hc) (by rw [List.length_drop, show l.length - (p + 1) = l.length - p - 1 by omega]; exact hrest))
      rw [List.length_drop, show l.length - (p + 1) = l.length - p - 1 by omega, HVR.out] at h1
      exact h1
    · intro q hq W' hc
      obtain ⟨C, hc⟩ := hc
      have h1 := (ofE (d := d) (w0 := w1) (n := n) (by omega) (by have := hok.n2; omega) hok.r (ends_MK (rules := g.rules) (S := S) (N := N) (n := n) hok.r) hR (sizeK N n + 1) l[p] q C W' hoks (by omega) (fun _ => okK_all _ _ _ (Nat.lt_succ_self _)) (by rw [HVR.out]; exact hc))
      rw [HVR.out] at h1
      exact h1
    · intro q x hq hi hxb'
      dsimp only at hi hxb' ⊢
      have hx0 : 0 < (blk S (SE g S N n) l[p] (l.drop (p + 1)) k q).length := by omega
      obtain ⟨e1, e2, e3, e4, e5, e6, e7⟩ := (hbv q hq).2 hx0
      obtain ⟨t, y, hz, ht, hy⟩ := enL_found hq hi hxb' hat
      have hks : ks = ks.take p ++ t :: y := by rw [← hz, List.take_append_drop]
      have hpl : (ks.take p).length = p := by rw [List.length_take]; have := h.pk; omega
      have hdy : ks.drop (p + 1) = y := by
        rw [hks, List.drop_append, hpl, List.drop_of_length_le (by rw [hpl]; omega), show p + 1 - p = 1 by omega]
        rfl
      refine ⟨t, e3, e4, by unfold MaxC at e7; have : ((enL S (SE g S N n) (l.drop (p + 1)) (k - q)).length : Int) < 1000000000 := e7; omega, ⟨by omega, hfine.tail hq e1, by rw [hdy]; exact hy, by unfold MaxC at e7; have : ((enL S (SE g S N n) (l.drop (p + 1)) (k - q)).length : Int) < 1000000000 := e7; omega, by rw [show l.length - (p + 1) = l.length - p - 1 by omega]; exact hrest, ?_, ?_⟩, ?_⟩
      · have h1 : ks.take (p + 1) = (ks.take p ++ t :: y).take (p + 1) := congrArg _ hks
        rw [h1, List.take_append, hpl, List.take_of_length_le (by omega), show p + 1 - p = 1 by omega]
        rfl
      · have h1 := congrArg List.length hks
        rw [List.length_append, hpl, List.length_cons] at h1
        omega
      · intro W' hc hb
        exact hT l[p] hoks q (by omega) (fun ht' => hfine.head hq e1 e2 ht') (x / (enL S (SE g S N n) (l.drop (p + 1)) (k - q)).length) t ht (by unfold MaxC at e6; have : ((SE g S N n l[p] q).length : Int) < 1000000000 := e6; omega) W' hc hb
  have HNB : Hid (nbox g VR d = .cells #[.int .i64 g.terms, .int .i64 (N : Int), .int .i64 g.start, VR, .pointer (some ⟨d.cb, 0, none⟩)] 85 (0, 0)) := by show _ = _; unfold nbox; rw [hok.nons]
  rw [HNB.out] at hx
  simp only [HNB.out] at HST
  have HXB : Hid (∀ W', Fr N d w0 W' → W'.heap[xb]? = some (.cells #[.int .i64 g.terms, .int .i64 (N : Int), .int .i64 g.start, VR, .pointer (some ⟨d.cb, 0, none⟩)] 85 (0, 0))) := fun W' h => h.bx hx HXN.out
  obtain ⟨gt, HGT⟩ := nameIt g.terms
  obtain ⟨gs, HGS⟩ := nameIt g.start
  rw [HGT.out, HGS.out] at HXB
  simp only [HGT.out, HGS.out] at HST
  have HSX : Hid (∀ W', NI g VR N n d S w1 w0 W' → W'.cell? ⟨xb, 0 + 4, none⟩ = some (.pointer (some ⟨d.cb, 0, none⟩))) := by
    intro W' h
    obtain ⟨x0, x1, x2, x3, x4⟩ := bx_cells5c (HXB.out W' h.fr)
    exact x4
  obtain ⟨ln, HLN⟩ := nameIt l.length
  have HLNE := HLN.out
  rw [HLN.out] at hl4
  rw [HLN.out] at HFIN hc1
  simp only [HLNE] at HST
  rw [HLN.out]
  clear hl hF0 hi0 hlen0 hrd0 hC hx hT hok hE hR HVR HP
  go_enter Try.func76, Try.ntmps76
  go_wp2_with fail
  go_loopg [1, 2, 3, 9, 10, 11, 12] ln (fun gg v1 v2 v3 v9 v10 v11 v12 wr => ∃ (p k i : Nat) (al : Option Addr) (cl : Nat) (vo : Value), p ≤ ln ∧ ln - p ≤ gg ∧ v1 = .slice al (ln - p) cl ∧ v2 = .int .i64 (k : Int) ∧ v3 = .int .i64 (i : Int) ∧ vo = v9 ∧ Hid (LIv g VR N n d S w1 f l ks w0 p k i al cl vo wr))
  case atStart => exact ⟨0, k0, i0, a0, cap0, _, by omega, by omega, rfl, rfl, rfl, rfl, HI0⟩
  case round =>
    clear HI0
    obtain ⟨p, k, i, al, cl, vo, hp, hgg, rfl, rfl, rfl, rfl, HI⟩ := hrel
    obtain ⟨w4, rfl⟩ : ∃ ww : World, ww = wr := ⟨_, rfl⟩
    by_cases hpl : p < ln
    · have hpx : p < l.length := by rw [HLNE]; exact hpl
      obtain ⟨sb, so, RV, FV, BL, PQ, EL, rfl, hcl, hclm, hlm, hpq0, hpq, hik, hib, hk24, hsyc, hbv, hbl, hls, hos, hnx⟩ := HST.out p k i al cl vo w4 hpl HI.out
      obtain ⟨m, HM⟩ := nameIt (ln - p)
      rw [HM.out] at hcl hlm hls
      rw [HM.out]
      have hm1 : 1 ≤ m := by have := HM.out; omega
      have hm0 : (0 : Int) < (m : Int) := by omega
      have hmd : decide ((0 : Int) < (m : Int)) = true := by simp; omega
      have hmd' : decide (0 < m) = true := by simp; omega
      have hmne : ¬ m = 0 := by omega
      have hmc : (m : Int) ≤ (cl : Int) := by omega
      have hm1' : (1 : Int) ≤ (m : Int) := by omega
      have hcl1 : (1 : Int) ≤ (cl : Int) := by omega
      obtain ⟨⟨st, sn⟩, HSYN⟩ := nameIt (l[p]'hpx)
      simp only [HSYN.out] at hsyc hos hnx
      obtain ⟨soff, HSO⟩ := nameIt (if cl = 1 then so else so + 2)
      obtain ⟨n2, HN2⟩ := nameIt (m - 1)
      obtain ⟨c2, HC2⟩ := nameIt (cl - 1)
      rw [HSO.out, HN2.out, HC2.out] at hls
      simp only [HSO.out, HC2.out] at hnx
      have HSYC := Lib.hid hsyc
      have HBV := Lib.hid hbv
      have HBL := Lib.hid hbl
      have HLS := Lib.hid hls
      have HOS := Lib.hid hos
      have HNXT := Lib.hid hnx
      have HPQ0 := Lib.hid hpq0
      have HPQ := Lib.hid hpq
      have HIK := Lib.hid hik
      clear hsyc hbv hbl hls hos hnx hpq0 hpq hik
      have HSY : Hid (∀ W', NI g VR N n d S w1 w0 W' → W'.cell? ⟨xb, 0 + 4, none⟩ = some (.pointer (some ⟨d.cb, 0, none⟩)) ∧ W'.cell? ⟨sb, so, none⟩ = some (.bool st) ∧ W'.cell? ⟨sb, so + 1, none⟩ = some (.int .i64 sn)) := by
        intro W' h
        obtain ⟨k0, k1⟩ := HSYC.out W' h.cs.bel
        exact ⟨HSX.out W' h, k0, k1⟩
      have HRW4 := Lib.hid HI.out.row
      have HNI4 := Lib.hid HI.out.ni
      have HPL : Hid (((ks.take p).map Tree.d).length = p) := by show _ = p; rw [List.length_map, List.length_take]; have := HI.out.pk; omega
      obtain ⟨ao, co, hvo, hco1, hco2, hown⟩ := HRW4.out.form
      rw [HPL.out] at hvo hco1
      unfold maxLen at hco2
      subst hvo
      have HOWN := Lib.hid hown
      have HNX1 : Hid (NxQ g N n S w1 f l ks p k 0 0 (some ⟨sb, soff, none⟩) c2 (.node 0 0 []) → True) := fun _ => trivial
      clear hown HNX1 HSYC
      go_wp2_with fail
      go_loopg [2, 3, 9, 10, 11, 12] (k + 1) (fun gg v2 v3 v9 v10 v11 v12 wr => ∃ (q x : Nat), q ≤ k + 1 ∧ k + 1 - q ≤ gg ∧ x ≤ i ∧ v2 = .int .i64 (k : Int) ∧ v3 = .int .i64 (x : Int) ∧ v9 = .slice ao p co ∧ v10 = .int .i64 (q : Int) ∧ Hid (i = PQ q + x) ∧ Hid (NI g VR N n d S w1 w0 wr) ∧ Hid (Fr N d w4 wr))
      case atStart => exact ⟨0, i, by omega, by omega, by omega, rfl, rfl, rfl, rfl, (by show i = _; rw [HPQ0.out]; omega), HNI4, Fr.refl _ _ _⟩
      case round =>
        obtain ⟨q, x, hq, hgq, hxi, rfl, rfl, rfl, rfl, HIX, HNI5, HF45⟩ := hrel
        obtain ⟨w5, rfl⟩ : ∃ ww : World, ww = wr := ⟨_, rfl⟩
        by_cases hqk : q ≤ k
        · obtain ⟨kq, HKQ⟩ := nameIt (k - q)
          have hkqw : IntKind.i64.wrap ((k : Int) - (q : Int)) = (kq : Int) := by rw [IntWalk.i64_in _ (by omega)]; have := HKQ.out; omega
          have HLQ := Lib.hid (HLS.out q hqk)
          rw [HKQ.out] at HLQ
          have HOQ := Lib.hid (HOS.out q hqk)
          have HBQ := Lib.hid (HBV.out q hqk)
          have hblq := HBL.out q hqk
          have HNQ0 := Lib.hid (fun x => HNXT.out q x hqk)
          have HPQ1 := Lib.hid (HPQ.out q hqk)
          obtain ⟨R, HRV⟩ := nameIt (RV q)
          obtain ⟨F, HFV⟩ := nameIt (FV q)
          obtain ⟨b, HBLN⟩ := nameIt (BL q)
          obtain ⟨el, HELN⟩ := nameIt (EL q)
          rw [HRV.out] at HLQ HBQ
          rw [HFV.out] at HOQ HBQ
          rw [HBLN.out] at HBQ hblq HPQ1
          simp only [HRV.out, HBLN.out, HELN.out] at HNQ0
          go_upto_region 5 with fail
          have HS := HSX
          have HND := Lib.hid (HNI5.out.keep (Below.refl _ _).drew)
          refine wp_region_U (S := (fun w' => w'.cell? ⟨xb, 0 + 4, none⟩ = some (.pointer (some ⟨d.cb, 0, none⟩)))) 10 (by kernel_rfl) (fun inv => ?_)
          refine wpU_take (i := 0) (v := .pointer (some ⟨xb, 0, none⟩)) rfl inv (by kernel_rfl) (by kernel_rfl) (by decide) (by decide) (by kernel_rfl) (by kernel_rfl) (by kernel_rfl) (fun _ _ _ h => h) (Or.inl ⟨by rfl, fun w' hw' => ?_⟩) (HS.out _ HND.out) (fun inv => ?_)
          · obtain h0 := hw'
            go_simp
          try simp only [Act.put, List.setIfInBounds_toArray, List.set_cons_zero, List.set_cons_succ]
          refine wpU_take (i := 1) (v := .pointer (some ⟨xb, 0, none⟩)) rfl inv (by kernel_rfl) (by kernel_rfl) (by decide) (by decide) (by kernel_rfl) (by kernel_rfl) (by kernel_rfl) (fun _ _ _ h => h) (Or.inl ⟨by rfl, fun w' hw' => ?_⟩) (HS.out _ HND.out) (fun inv => ?_)
          · obtain h0 := hw'
            go_simp
          try simp only [Act.put, List.setIfInBounds_toArray, List.set_cons_zero, List.set_cons_succ]
          refine wpU_take (i := 2) (v := .pointer (some ⟨xb, 0 + 4, none⟩)) rfl inv (by kernel_rfl) (by kernel_rfl) (by decide) (by decide) (by kernel_rfl) (by kernel_rfl) (by kernel_rfl) (fun _ _ _ h => h) (Or.inl ⟨by rfl, fun w' hw' => ?_⟩) (HS.out _ HND.out) (fun inv => ?_)
          · obtain h0 := hw'
            go_simp
          try simp only [Act.put, List.setIfInBounds_toArray, List.set_cons_zero, List.set_cons_succ]
          refine wpU_take (i := 3) (v := .pointer (some ⟨d.cb, 0, none⟩)) rfl inv (by kernel_rfl) (by kernel_rfl) (by decide) (by decide) (by kernel_rfl) (by kernel_rfl) (by kernel_rfl) (fun _ _ _ h => h) (Or.inl ⟨by rfl, fun w' hw' => ?_⟩) (HS.out _ HND.out) (fun inv => ?_)
          · obtain h0 := hw'
            go_simp
          try simp only [Act.put, List.setIfInBounds_toArray, List.set_cons_zero, List.set_cons_succ]
          refine wpU_take (i := 4) (v := .slice (some ⟨sb, so, none⟩) m cl) rfl inv (by kernel_rfl) (by kernel_rfl) (by decide) (by decide) (by kernel_rfl) (by kernel_rfl) (by kernel_rfl) (fun _ _ _ h => h) (Or.inl ⟨by rfl, fun w' hw' => ?_⟩) (HS.out _ HND.out) (fun inv => ?_)
          · obtain h0 := hw'
            go_simp
          try simp only [Act.put, List.setIfInBounds_toArray, List.set_cons_zero, List.set_cons_succ]
          refine wpU_take (i := 5) (v := .slice (some ⟨sb, soff, none⟩) n2 c2) rfl inv (by kernel_rfl) (by kernel_rfl) (by decide) (by decide) (by kernel_rfl) (by kernel_rfl) (by kernel_rfl) (fun _ _ _ h => h) (Or.inl ⟨by rfl, fun w' hw' => ?_⟩) (HS.out _ HND.out) (fun inv => ?_)
          · obtain h0 := hw'
            rw [← HSO.out, ← HN2.out, ← HC2.out]; by_cases hct : cl = 1; (rw [if_pos hct, show m - 1 = 0 by omega, show cl - 1 = 0 by omega]; subst hct; go_simp); (rw [if_neg hct]; go_simp)
          try simp only [Act.put, List.setIfInBounds_toArray, List.set_cons_zero, List.set_cons_succ]
          refine wpU_take (i := 6) (v := .int .i64 (k : Int)) rfl inv (by kernel_rfl) (by kernel_rfl) (by decide) (by decide) (by kernel_rfl) (by kernel_rfl) (by kernel_rfl) (fun _ _ _ h => h) (Or.inl ⟨by rfl, fun w' hw' => ?_⟩) (HS.out _ HND.out) (fun inv => ?_)
          · obtain h0 := hw'
            go_simp
          try simp only [Act.put, List.setIfInBounds_toArray, List.set_cons_zero, List.set_cons_succ]
          refine wpU_take (i := 7) (v := .int .i64 (q : Int)) rfl inv (by kernel_rfl) (by kernel_rfl) (by decide) (by decide) (by kernel_rfl) (by kernel_rfl) (by kernel_rfl) (fun _ _ _ h => h) (Or.inl ⟨by rfl, fun w' hw' => ?_⟩) (HS.out _ HND.out) (fun inv => ?_)
          · obtain h0 := hw'
            go_simp
          try simp only [Act.put, List.setIfInBounds_toArray, List.set_cons_zero, List.set_cons_succ]
          refine wpU_take (i := 8) (v := .int .i64 (kq : Int)) rfl inv (by kernel_rfl) (by kernel_rfl) (by decide) (by decide) (by kernel_rfl) (by kernel_rfl) (by kernel_rfl) (fun _ _ _ h => h) (Or.inl ⟨by rfl, fun w' hw' => ?_⟩) (HS.out _ HND.out) (fun inv => ?_)
          · obtain h0 := hw'
            go_simp
          try simp only [Act.put, List.setIfInBounds_toArray, List.set_cons_zero, List.set_cons_succ]
          refine wpU_one (i := 9) (by kernel_rfl) rfl (fun K hK => ?_)
          replace inv := inv_setc (i := 9) inv (by kernel_rfl) (by decide)
          go_simp
          with_reducible refine (HLQ.out _ HND.out.cs).mono ?_
          rintro e w6 ⟨rfl, hf, hc⟩
          have HNw6 := Lib.hid (HND.out.of hf hc)
          have HFw6 : Hid (Fr N d w5 w6) := (Fr.of (Below.refl _ _).drew).trans hf
          clear hf hc HND
          refine hK.out _ _ (fun _ => HS.out _ HNw6.out) ?_
          clear hK K
          try simp only [Act.put, List.setIfInBounds_toArray, List.set_cons_zero, List.set_cons_succ]
          refine wpU_one (i := 10) (by kernel_rfl) rfl (fun K hK => ?_)
          go_simp
          refine hK.out _ _ (fun h => absurd (show true = false from h) (by decide)) ?_
          clear hK K
          try simp only [Act.put, List.setIfInBounds_toArray, List.set_cons_zero, List.set_cons_succ]
          refine wpU_done (by kernel_rfl) ?_ _
          clear HS

          by_cases hR0 : 0 < R
          · have hRb : decide (0 < R) = true := by simpa using hR0
            have HBQ1 : Hid (F * R = (b : Int)) := by have := HBQ.out; rw [if_pos hR0] at this; exact this
            go_upto_region 8 with fail
            have HS := HSY
            have HND := Lib.hid (HNw6.out.keep (Below.refl _ _).drew)
            refine wp_region_U (S := (fun w' => w'.cell? ⟨xb, 0 + 4, none⟩ = some (.pointer (some ⟨d.cb, 0, none⟩)) ∧ w'.cell? ⟨sb, so, none⟩ = some (.bool st) ∧ w'.cell? ⟨sb, so + 1, none⟩ = some (.int .i64 sn))) 9 (by kernel_rfl) (fun inv => ?_)
            refine wpU_take (i := 0) (v := .pointer (some ⟨xb, 0, none⟩)) rfl inv (by kernel_rfl) (by kernel_rfl) (by decide) (by decide) (by kernel_rfl) (by kernel_rfl) (by kernel_rfl) (fun _ _ _ h => h) (Or.inl ⟨by rfl, fun w' hw' => ?_⟩) (HS.out _ HND.out) (fun inv => ?_)
            · obtain ⟨h0, h1, h2⟩ := hw'
              go_simp
            try simp only [Act.put, List.setIfInBounds_toArray, List.set_cons_zero, List.set_cons_succ]
            refine wpU_take (i := 1) (v := .pointer (some ⟨xb, 0, none⟩)) rfl inv (by kernel_rfl) (by kernel_rfl) (by decide) (by decide) (by kernel_rfl) (by kernel_rfl) (by kernel_rfl) (fun _ _ _ h => h) (Or.inl ⟨by rfl, fun w' hw' => ?_⟩) (HS.out _ HND.out) (fun inv => ?_)
            · obtain ⟨h0, h1, h2⟩ := hw'
              go_simp
            try simp only [Act.put, List.setIfInBounds_toArray, List.set_cons_zero, List.set_cons_succ]
            refine wpU_take (i := 2) (v := .pointer (some ⟨xb, 0 + 4, none⟩)) rfl inv (by kernel_rfl) (by kernel_rfl) (by decide) (by decide) (by kernel_rfl) (by kernel_rfl) (by kernel_rfl) (fun _ _ _ h => h) (Or.inl ⟨by rfl, fun w' hw' => ?_⟩) (HS.out _ HND.out) (fun inv => ?_)
            · obtain ⟨h0, h1, h2⟩ := hw'
              go_simp
            try simp only [Act.put, List.setIfInBounds_toArray, List.set_cons_zero, List.set_cons_succ]
            refine wpU_take (i := 3) (v := .pointer (some ⟨d.cb, 0, none⟩)) rfl inv (by kernel_rfl) (by kernel_rfl) (by decide) (by decide) (by kernel_rfl) (by kernel_rfl) (by kernel_rfl) (fun _ _ _ h => h) (Or.inl ⟨by rfl, fun w' hw' => ?_⟩) (HS.out _ HND.out) (fun inv => ?_)
            · obtain ⟨h0, h1, h2⟩ := hw'
              go_simp
            try simp only [Act.put, List.setIfInBounds_toArray, List.set_cons_zero, List.set_cons_succ]
            refine wpU_take (i := 4) (v := .slice (some ⟨sb, so, none⟩) m cl) rfl inv (by kernel_rfl) (by kernel_rfl) (by decide) (by decide) (by kernel_rfl) (by kernel_rfl) (by kernel_rfl) (fun _ _ _ h => h) (Or.inl ⟨by rfl, fun w' hw' => ?_⟩) (HS.out _ HND.out) (fun inv => ?_)
            · obtain ⟨h0, h1, h2⟩ := hw'
              go_simp
            try simp only [Act.put, List.setIfInBounds_toArray, List.set_cons_zero, List.set_cons_succ]
            refine wpU_take (i := 5) (v := .pointer (some ⟨sb, so, none⟩)) rfl inv (by kernel_rfl) (by kernel_rfl) (by decide) (by decide) (by kernel_rfl) (by kernel_rfl) (by kernel_rfl) (fun _ _ _ h => h) (Or.inl ⟨by rfl, fun w' hw' => ?_⟩) (HS.out _ HND.out) (fun inv => ?_)
            · obtain ⟨h0, h1, h2⟩ := hw'
              go_simp
            try simp only [Act.put, List.setIfInBounds_toArray, List.set_cons_zero, List.set_cons_succ]
            refine wpU_take (i := 6) (v := .agg #[.bool st, .int .i64 sn]) rfl inv (by kernel_rfl) (by kernel_rfl) (by decide) (by decide) (by kernel_rfl) (by kernel_rfl) (by kernel_rfl) (fun _ _ _ h => h) (Or.inl ⟨by rfl, fun w' hw' => ?_⟩) (HS.out _ HND.out) (fun inv => ?_)
            · obtain ⟨h0, h1, h2⟩ := hw'
              go_simp
            try simp only [Act.put, List.setIfInBounds_toArray, List.set_cons_zero, List.set_cons_succ]
            refine wpU_take (i := 7) (v := .int .i64 (q : Int)) rfl inv (by kernel_rfl) (by kernel_rfl) (by decide) (by decide) (by kernel_rfl) (by kernel_rfl) (by kernel_rfl) (fun _ _ _ h => h) (Or.inl ⟨by rfl, fun w' hw' => ?_⟩) (HS.out _ HND.out) (fun inv => ?_)
            · obtain ⟨h0, h1, h2⟩ := hw'
              go_simp
            try simp only [Act.put, List.setIfInBounds_toArray, List.set_cons_zero, List.set_cons_succ]
            refine wpU_one (i := 8) (by kernel_rfl) rfl (fun K hK => ?_)
            replace inv := inv_setc (i := 8) inv (by kernel_rfl) (by decide)
            go_simp
            with_reducible refine (HOQ.out _ HND.out.cs).mono ?_
            rintro e w7 ⟨rfl, hf, hc⟩
            have HNw7 := Lib.hid (HND.out.of hf hc)
            have HFw7 : Hid (Fr N d w6 w7) := (Fr.of (Below.refl _ _).drew).trans hf
            clear hf hc HND
            refine hK.out _ _ (fun _ => HS.out _ HNw7.out) ?_
            clear hK K
            try simp only [Act.put, List.setIfInBounds_toArray, List.set_cons_zero, List.set_cons_succ]
            refine wpU_one (i := 9) (by kernel_rfl) rfl (fun K hK => ?_)
            go_simp
            refine hK.out _ _ (fun h => absurd (show true = false from h) (by decide)) ?_
            clear hK K
            try simp only [Act.put, List.setIfInBounds_toArray, List.set_cons_zero, List.set_cons_succ]
            refine wpU_done (by kernel_rfl) ?_ _
            clear HS

            have hmul : IntKind.i64.wrap (F * R) = (b : Int) := by rw [HBQ1.out, IntWalk.i64_in _ (by omega)]
            by_cases hbx : b ≤ x
            · have hbx' : (b : Int) ≤ (x : Int) := by omega
              have hdec : decide ((b : Int) ≤ (x : Int)) = true := by simpa using hbx'
              have hsub : IntKind.i64.wrap ((x : Int) - (b : Int)) = ((x - b : Nat) : Int) := by rw [IntWalk.i64_in _ (by omega)]; omega
              have HIX2 : Hid (i = PQ (q + 1) + (x - b)) := by show i = _; have h1 := HIX.out; have h2 := HPQ1.out; omega
              have HF2 := Lib.hid (HF45.out.trans (HFw6.out.trans HFw7.out))
              go_wp2_with fail
              go_roundg (k + 1 - (q + 1))
              case measure => omega
              case rel => exact ⟨q + 1, x - b, by omega, by omega, by omega, rfl, by first | rfl | exact congrArg _ hsub, rfl, by go_num, HIX2, HNw7, HF2⟩
            · have hbx' : ¬ (b : Int) ≤ (x : Int) := by omega
              have hdec : decide ((b : Int) ≤ (x : Int)) = false := by simpa using hbx'
              obtain ⟨t, hRe, hel0, hel9, hnq, htq⟩ := HNQ0.out x HIX.out (by omega)
              subst hRe
              obtain ⟨iq, HIQ⟩ := nameIt (x / el)
              obtain ⟨ir, HIR⟩ := nameIt (x % el)
              rw [HIR.out] at hnq
              simp only [HIQ.out] at htq
              have HNQ := Lib.hid hnq
              have HTQ := Lib.hid htq
              have hdl := Nat.div_le_self x el
              have hml := Nat.mod_lt x hel0
              rw [HIQ.out] at hdl
              rw [HIR.out] at hml
              have hqu : IntKind.i64.wrap ((x : Int) / (el : Int)) = (iq : Int) := by
                rw [show (x : Int) / (el : Int) = ((x / el : Nat) : Int) from (Int.natCast_ediv x el).symm, HIQ.out, IntWalk.i64_in _ (by omega)]
              have hel0' : ¬ el = 0 := by omega
              have hre : (x : Int) % (el : Int) = (ir : Int) := by
                rw [show (x : Int) % (el : Int) = ((x % el : Nat) : Int) from (Int.natCast_emod x el).symm, HIR.out]
              have hq0 : (0 : Int) ≤ (iq : Int) := Int.natCast_nonneg _
              have hm0 : ¬ (el : Int) = 0 := by omega
              have hm0b : ((el : Int) == 0) = false := by simp; omega
              have HLT7 : Hid ((∀ b, (Value.slice ao p co).ownBlock = some b → b < w7.heap.size) ∧ w0.heap.size ≤ w7.heap.size ∧ d.cb < w0.heap.size) :=
                ⟨fun b e => Nat.lt_of_lt_of_le (HOWN.out b e).2 (HF45.out.trans (HFw6.out.trans HFw7.out)).size, HNw7.out.fr.size, HCB.out⟩
              have HRLT : Hid (∀ a, a < N → d.rc a < w0.heap.size) := HNw7.out.cs.rlt HCB.out
              have HRW7 := Lib.hid (RowD.fr HRW4.out (HF45.out.trans (HFw6.out.trans HFw7.out)) HRLT.out)
              clear hnq htq HNQ0 HPQ1
              go_upto_region 11 with fail
              have HS := HSY
              have HND := Lib.hid (HNw7.out.keep (Below.refl _ _).drew)
              refine wp_region_U (S := (fun w' => w'.cell? ⟨xb, 0 + 4, none⟩ = some (.pointer (some ⟨d.cb, 0, none⟩)) ∧ w'.cell? ⟨sb, so, none⟩ = some (.bool st) ∧ w'.cell? ⟨sb, so + 1, none⟩ = some (.int .i64 sn))) 12 (by kernel_rfl) (fun inv => ?_)
              refine wpU_take (i := 0) (v := .slice ao p co) rfl inv (by kernel_rfl) (by kernel_rfl) (by decide) (by decide) (by kernel_rfl) (by kernel_rfl) (by kernel_rfl) (fun _ _ _ h => h) (Or.inl ⟨by rfl, fun w' hw' => ?_⟩) (HS.out _ HND.out) (fun inv => ?_)
              · obtain ⟨h0, h1, h2⟩ := hw'
                go_simp
              try simp only [Act.put, List.setIfInBounds_toArray, List.set_cons_zero, List.set_cons_succ]
              refine wpU_take (i := 1) (v := .pointer (some ⟨xb, 0, none⟩)) rfl inv (by kernel_rfl) (by kernel_rfl) (by decide) (by decide) (by kernel_rfl) (by kernel_rfl) (by kernel_rfl) (fun _ _ _ h => h) (Or.inl ⟨by rfl, fun w' hw' => ?_⟩) (HS.out _ HND.out) (fun inv => ?_)
              · obtain ⟨h0, h1, h2⟩ := hw'
                go_simp
              try simp only [Act.put, List.setIfInBounds_toArray, List.set_cons_zero, List.set_cons_succ]
              refine wpU_take (i := 2) (v := .slice (some ⟨sb, so, none⟩) m cl) rfl inv (by kernel_rfl) (by kernel_rfl) (by decide) (by decide) (by kernel_rfl) (by kernel_rfl) (by kernel_rfl) (fun _ _ _ h => h) (Or.inl ⟨by rfl, fun w' hw' => ?_⟩) (HS.out _ HND.out) (fun inv => ?_)
              · obtain ⟨h0, h1, h2⟩ := hw'
                go_simp
              try simp only [Act.put, List.setIfInBounds_toArray, List.set_cons_zero, List.set_cons_succ]
              refine wpU_take (i := 3) (v := .pointer (some ⟨sb, so, none⟩)) rfl inv (by kernel_rfl) (by kernel_rfl) (by decide) (by decide) (by kernel_rfl) (by kernel_rfl) (by kernel_rfl) (fun _ _ _ h => h) (Or.inl ⟨by rfl, fun w' hw' => ?_⟩) (HS.out _ HND.out) (fun inv => ?_)
              · obtain ⟨h0, h1, h2⟩ := hw'
                go_simp
              try simp only [Act.put, List.setIfInBounds_toArray, List.set_cons_zero, List.set_cons_succ]
              refine wpU_take (i := 4) (v := .agg #[.bool st, .int .i64 sn]) rfl inv (by kernel_rfl) (by kernel_rfl) (by decide) (by decide) (by kernel_rfl) (by kernel_rfl) (by kernel_rfl) (fun _ _ _ h => h) (Or.inl ⟨by rfl, fun w' hw' => ?_⟩) (HS.out _ HND.out) (fun inv => ?_)
              · obtain ⟨h0, h1, h2⟩ := hw'
                go_simp
              try simp only [Act.put, List.setIfInBounds_toArray, List.set_cons_zero, List.set_cons_succ]
              refine wpU_take (i := 5) (v := .int .i64 (q : Int)) rfl inv (by kernel_rfl) (by kernel_rfl) (by decide) (by decide) (by kernel_rfl) (by kernel_rfl) (by kernel_rfl) (fun _ _ _ h => h) (Or.inl ⟨by rfl, fun w' hw' => ?_⟩) (HS.out _ HND.out) (fun inv => ?_)
              · obtain ⟨h0, h1, h2⟩ := hw'
                go_simp
              try simp only [Act.put, List.setIfInBounds_toArray, List.set_cons_zero, List.set_cons_succ]
              refine wpU_take (i := 6) (v := .int .i64 (x : Int)) rfl inv (by kernel_rfl) (by kernel_rfl) (by decide) (by decide) (by kernel_rfl) (by kernel_rfl) (by kernel_rfl) (fun _ _ _ h => h) (Or.inl ⟨by rfl, fun w' hw' => ?_⟩) (HS.out _ HND.out) (fun inv => ?_)
              · obtain ⟨h0, h1, h2⟩ := hw'
                go_simp
              try simp only [Act.put, List.setIfInBounds_toArray, List.set_cons_zero, List.set_cons_succ]
              refine wpU_take (i := 7) (v := .int .i64 (el : Int)) rfl inv (by kernel_rfl) (by kernel_rfl) (by decide) (by decide) (by kernel_rfl) (by kernel_rfl) (by kernel_rfl) (fun _ _ _ h => h) (Or.inl ⟨by rfl, fun w' hw' => ?_⟩) (HS.out _ HND.out) (fun inv => ?_)
              · obtain ⟨h0, h1, h2⟩ := hw'
                go_simp
              try simp only [Act.put, List.setIfInBounds_toArray, List.set_cons_zero, List.set_cons_succ]
              refine wpU_take (i := 8) (v := .int .i64 (iq : Int)) rfl inv (by kernel_rfl) (by kernel_rfl) (by decide) (by decide) (by kernel_rfl) (by kernel_rfl) (by kernel_rfl) (fun _ _ _ h => h) (Or.inl ⟨by rfl, fun w' hw' => ?_⟩) (HS.out _ HND.out) (fun inv => ?_)
              · obtain ⟨h0, h1, h2⟩ := hw'
                go_simp
              try simp only [Act.put, List.setIfInBounds_toArray, List.set_cons_zero, List.set_cons_succ]
              refine wpU_one (i := 9) (by kernel_rfl) rfl (fun K hK => ?_)
              replace inv := inv_setc (i := 9) inv (by kernel_rfl) (by decide)
              go_simp
              with_reducible refine (HTQ.out _ HND.out.cs (HXB.out _ HND.out.fr)).mono ?_
              rintro e w8 ⟨v8, rfl, hr8, hf, hc⟩
              have HNw8 := Lib.hid (HND.out.of hf hc)
              have HFw8 : Hid (Fr N d w7 w8) := (Fr.of (Below.refl _ _).drew).trans hf
              have HR8 : Hid (Rd (fun b => w7.heap.size ≤ b) w8 (.sl (t.kids.map Tree.d)) [v8]) := hr8
              have HRW8 := Lib.hid (RowD.fr HRW7.out HFw8.out HRLT.out)
              obtain ⟨a8, c8, rfl, -, -⟩ := hr8.form
              clear hf hc HND hr8
              refine hK.out _ _ (fun _ => HS.out _ HNw8.out) ?_
              clear hK K
              try simp only [Act.put, List.setIfInBounds_toArray, List.set_cons_zero, List.set_cons_succ]
              refine wpU_one (i := 10) (by kernel_rfl) rfl (fun K hK => ?_)
              replace inv := inv_setc (i := 10) inv (by kernel_rfl) (by decide)
              go_simp
              obtain ⟨n8, HN8⟩ := nameIt t.kids.length
              rw [List.length_map, HN8.out] at HR8
              rw [HN8.out]
              obtain ⟨tr, HTR⟩ := nameIt t.rule
              obtain ⟨tm, HTM⟩ := nameIt t.term
              rw [HTR.out, HTM.out]
              obtain ⟨w9, HW9⟩ := nameIt (w8.alloc (.cells #[.int .i64 tr, .int .i64 tm, .slice a8 n8 c8] 42))
              rw [HW9.out]
              have HB89 : Hid (Below w8.heap.size w8 w9) := by rw [← HW9.out]; exact (Below.refl _ _).alloc (Nat.le_refl _) _
              have X9 : Hid (w9.heap[w8.heap.size]? = some (.cells #[.int .i64 tr, .int .i64 tm, .slice a8 n8 c8] 42 (0, 0))) := by rw [← HW9.out]; exact bx_new _ _ _ rfl
              have HR9 : Hid (Rd (fun b => w7.heap.size ≤ b) w9 t.d [.int .i64 tr, .int .i64 tm, .slice a8 n8 c8]) := by rw [← HTR.out, ← HTM.out]; exact rd_tree (HR8.out.below HB89.out)
              have HNw9 := Lib.hid (HNw8.out.keep HB89.out)
              have HFw9 := Lib.hid (HFw8.out.trans (Fr.of HB89.out))
              have HRW9 := Lib.hid (HRW8.out.keep HB89.out)
              clear HR8 HRW8 HN8 HTR HTM HW9
              refine hK.out _ _ (fun _ => HS.out _ HNw9.out) ?_
              clear hK K
              try simp only [Act.put, List.setIfInBounds_toArray, List.set_cons_zero, List.set_cons_succ]
              refine wpU_one (i := 11) (by kernel_rfl) rfl (fun K hK => ?_)
              replace inv := inv_setc (i := 11) inv (by kernel_rfl) (by decide)
              obtain ⟨⟨xs9, ho9, hd9⟩, hle9⟩ := HRW9.out
              rw [HPL.out] at ho9
              refine step_appB elTree (by rfl) _ _ (by rfl) ho9 (by rfl) (by rfl) X9.out (by rfl) (by rfl) (by omega) (by unfold maxLen; omega) hle9 ?_
              intro g10 c10 w10 ho10 hg10 hat10 hlt10
              have HNX := Lib.hid (LIv.next HI.out HNQ.out HRW9.out HNw9.out HLT7.out HR9.out ho9 hd9 ho10 hg10 (at_lies hat10))
              clear ho9 hd9 hle9 ho10 hg10 hat10 hlt10
              refine hK.out _ _ (fun _ => HS.out _ HNX.out.ni) ?_
              clear hK K
              try simp only [Act.put, List.setIfInBounds_toArray, List.set_cons_zero, List.set_cons_succ]
              refine wpU_one (i := 12) (by kernel_rfl) rfl (fun K hK => ?_)
              go_simp
              refine hK.out _ _ (fun h => absurd (show true = false from h) (by decide)) ?_
              clear hK K
              try simp only [Act.put, List.setIfInBounds_toArray, List.set_cons_zero, List.set_cons_succ]
              refine wpU_done (by kernel_rfl) ?_ _
              clear HS

              have hkq2 : IntKind.i64.wrap ((k : Int) - (q : Int)) = (kq : Int) := hkqw
              have HNX2 : Hid (LIv g VR N n d S w1 f l ks w0 (p + 1) kq ir (some ⟨sb, soff, none⟩) c2 (.slice (some ⟨g10, 0, none⟩) (p + 1) c10) w10) := by have := HNX.out; rw [HKQ.out] at this; exact this
              have hm2 : n2 = ln - (p + 1) := by have h1 := HM.out; have h2 := HN2.out; omega
              rw [← HSO.out, ← HC2.out] at HNX2
              clear HNX
              by_cases hct : cl = 1
              all_goals
                first
                | (rw [if_pos hct] at HNX2; have hmm : m = 1 := (by omega); subst hct; subst hmm)
                | rw [if_neg hct] at HNX2
                go_wp2_with fail
                go_roundg (ln - (p + 1))
                case measure => omega
                case rel => exact ⟨p + 1, kq, ir, _, _, _, by omega, by omega, (by have h1 := HM.out; first | (have e : ln - (p + 1) = 0 := (by omega); rw [e]; done) | (have e : ln - (p + 1) = m - 1 := (by omega); rw [e])), rfl, rfl, rfl, HNX2⟩
          · have hRb : decide (0 < R) = false := by simpa using hR0
            have hb0 : b = 0 := by have := HBQ.out; rw [if_neg hR0, Int.zero_mul] at this; omega
            subst hb0
            have HIX2 : Hid (i = PQ (q + 1) + x) := by show i = _; have h1 := HIX.out; have h2 := HPQ1.out; omega
            have HF2 := Lib.hid (HF45.out.trans HFw6.out)
            go_wp2_with fail
            go_roundg (k + 1 - (q + 1))
            case measure => omega
            case rel => exact ⟨q + 1, x, by omega, by omega, by omega, rfl, rfl, rfl, by go_num, HIX2, HNw6, HF2⟩
        · exfalso
          obtain rfl : q = k + 1 := by omega
          have h1 := HIX.out
          have h2 := HIK.out
          omega
    · obtain rfl : p = ln := by omega
      have HE := Lib.hid (HFIN.out _ _ _ _ _ _ HI.out)
      rw [Nat.sub_self]
      obtain ⟨av, cv, hvo, -⟩ := HI.out.row.form
      obtain ⟨nv, HNV⟩ := nameIt ((ks.take p).map Tree.d).length
      rw [HNV.out] at hvo
      subst hvo
      clear HI
      go_wp2_with fail
      first | exact HE.out | (go_ret; exact HE.out)
end Cs
end Go.Proofs.Ytbnpemgmdnghgaa
