/- Which trees are valid, in plain Lean: two ways to say it. -/
import Derived.Test.YtjehmleckcmilaaCheckG
import Derived.Test.YtjehmleckcmilaaTree
namespace Go.Proofs.Ytjehmleckcmilaa

def rootS (g : Gram) (t : Tree) : Sym := if t.rule < 0 then ⟨true, t.term⟩ else match g.rules[t.rule.toNat]? with | some r => ⟨false, r.left⟩ | none => ⟨true, t.term⟩
def kidOk (g : Gram) (k : Tree) (s : Sym) : Bool := decide (-1 ≤ k.rule) && (decide (k.rule < g.rules.length) && decide (rootS g k = s))
def kidsOk (g : Gram) (ks : List Tree) (l : List Sym) : Bool := decide (ks.length = l.length) && (List.zip ks l).all fun x => kidOk g x.1 x.2
def nodeOk (g : Gram) (t : Tree) : Bool :=
  if t.rule = -1 then decide (0 ≤ t.term) && (decide (t.term < g.terms) && decide (t.kids.length = 0))
  else if t.rule < 0 then false else match g.rules[t.rule.toNat]? with
    | none => false
    | some r => decide (t.term = 0) && kidsOk g t.kids r.right
def validT (g : Gram) (t : Tree) : Bool := (nodes t).all (nodeOk g)
def checkT (g : Gram) (t : Tree) : Int := if checkG g ≠ 0 then checkG g else if 5000 < (nodes t).length then 2 else if validT g t then 0 else 3

def label (g : Gram) (t : Tree) : Option Sym :=
  if t.rule = -1 ∧ t.kids.length = 0 ∧ 0 ≤ t.term ∧ t.term < g.terms then some ⟨true, t.term⟩
  else if t.rule < 0 ∨ t.term ≠ 0 then none else (g.rules[t.rule.toNat]?).map fun r => ⟨false, r.left⟩
def refNode (g : Gram) (t : Tree) : Bool :=
  (label g t).isSome && (decide (t.rule = -1) || ((t.kids.all fun k => (label g k).isSome) && match g.rules[t.rule.toNat]? with | some r => decide (t.kids.map (label g) = r.right.map some) | none => false))

theorem label_root {g : Gram} {t : Tree} {s : Sym} (h : label g t = some s) : rootS g t = s ∧ -1 ≤ t.rule ∧ t.rule < g.rules.length := by
  unfold label at h
  by_cases h1 : t.rule = -1 ∧ t.kids.length = 0 ∧ 0 ≤ t.term ∧ t.term < g.terms
  · rw [if_pos h1] at h
    simp at h
    subst h
    refine ⟨by simp [rootS, h1.1], by omega, by omega⟩
  · rw [if_neg h1] at h
    by_cases h2 : t.rule < 0 ∨ t.term ≠ 0
    · rw [if_pos h2] at h; simp at h
    · rw [if_neg h2] at h
      cases h3 : g.rules[t.rule.toNat]? with
      | none => rw [h3] at h; simp at h
      | some r =>
        rw [h3] at h
        simp at h
        subst h
        obtain ⟨h4, _⟩ := List.getElem?_eq_some_iff.1 h3
        refine ⟨?_, by omega, by omega⟩
        simp only [rootS, if_neg (show ¬ t.rule < 0 by omega), h3]
theorem nodeOk_label {g : Gram} {t : Tree} (h : nodeOk g t = true) : label g t = some (rootS g t) := by
  unfold nodeOk at h
  unfold label rootS
  by_cases h1 : t.rule = -1
  · rw [if_pos h1] at h
    simp at h
    rw [if_pos ⟨h1, by simp [h.2.2], h.1, h.2.1⟩, if_pos (by omega)]
  · rw [if_neg h1] at h
    by_cases h2 : t.rule < 0
    · rw [if_pos h2] at h; simp at h
    · rw [if_neg h2] at h
      cases h3 : g.rules[t.rule.toNat]? with
      | none => rw [h3] at h; simp at h
      | some r =>
        rw [h3] at h
        simp at h
        rw [if_neg (fun h4 => h1 h4.1), if_neg (by omega), if_neg h2]
        rfl

mutual
theorem kid_node : ∀ (t x k : Tree), x ∈ nodes t → x.rule ≠ -1 → k ∈ x.kids → k ∈ nodes t
  | .node r tm ks, x, k, hx, hr, hk => by
    rw [nodes] at hx ⊢
    rcases List.mem_cons.1 hx with rfl | hx
    · simp only [Tree.rule, Tree.kids] at hr hk
      rw [if_neg hr]
      exact List.mem_cons_of_mem _ (kid_mem ks k hk)
    · by_cases h : r = -1
      · rw [if_pos h] at hx; simp at hx
      · rw [if_neg h] at hx ⊢
        exact List.mem_cons_of_mem _ (kid_nodeL ks x k hx hr hk)
theorem kid_nodeL : ∀ (ks : List Tree) (x k : Tree), x ∈ nodesL ks → x.rule ≠ -1 → k ∈ x.kids → k ∈ nodesL ks
  | [], x, k, hx, _, _ => by simp [nodesL] at hx
  | y :: ks, x, k, hx, hr, hk => by
    rw [nodesL] at hx ⊢
    rcases List.mem_append.1 hx with h | h
    · exact List.mem_append_left _ (kid_node y x k h hr hk)
    · exact List.mem_append_right _ (kid_nodeL ks x k h hr hk)
theorem kid_mem : ∀ (ks : List Tree) (k : Tree), k ∈ ks → k ∈ nodesL ks
  | [], k, h => by simp at h
  | y :: ks, k, h => by
    rw [nodesL]
    rcases List.mem_cons.1 h with rfl | h
    · refine List.mem_append_left _ ?_
      rw [nodes_eq]; exact List.mem_cons_self
    · exact List.mem_append_right _ (kid_mem ks k h)
end

theorem kidsOk_map {g : Gram} : ∀ {ks : List Tree} {l : List Sym}, (∀ k ∈ ks, label g k = some (rootS g k)) → (kidsOk g ks l = true ↔ (∀ k ∈ ks, -1 ≤ k.rule ∧ k.rule < g.rules.length) ∧ ks.map (label g) = l.map some)
  | [], [], _ => by simp [kidsOk]
  | [], _ :: _, _ => by simp [kidsOk]
  | _ :: _, [], _ => by simp [kidsOk]
  | k :: ks, s :: l, h => by
    have ih := kidsOk_map (g := g) (ks := ks) (l := l) (fun x hx => h x (List.mem_cons_of_mem _ hx))
    have hk := h k List.mem_cons_self
    unfold kidsOk at ih ⊢
    simp only [List.length_cons, List.zip_cons_cons, List.all_cons, List.map_cons, Bool.and_eq_true, decide_eq_true_eq] at ih ⊢
    simp only [kidOk, Bool.and_eq_true, decide_eq_true_eq]
    rw [hk]
    constructor
    · rintro ⟨h1, ⟨h2, h3, h4⟩, h5⟩
      obtain ⟨h6, h7⟩ := ih.1 ⟨by omega, h5⟩
      refine ⟨fun x hx => ?_, by rw [h4, h7]⟩
      rcases List.mem_cons.1 hx with rfl | hx
      · exact ⟨h2, h3⟩
      · exact h6 x hx
    · rintro ⟨h1, h2⟩
      simp at h2
      obtain ⟨h3, h4⟩ := ih.2 ⟨fun x hx => h1 x (List.mem_cons_of_mem _ hx), h2.2⟩
      have h5 := h1 k List.mem_cons_self
      exact ⟨by omega, ⟨h5.1, h5.2, h2.1⟩, h4⟩

/-- the two ways agree -/
theorem valid_ref (g : Gram) (t : Tree) : validT g t = (nodes t).all (refNode g) := by
  rw [Bool.eq_iff_iff]
  unfold validT
  rw [List.all_eq_true, List.all_eq_true]
  constructor
  · intro h x hx
    have hl := nodeOk_label (h x hx)
    have hn := h x hx
    unfold refNode
    rw [hl]
    by_cases hr : x.rule = -1
    · simp [hr]
    · have hkl : ∀ k ∈ x.kids, label g k = some (rootS g k) := fun k hk => nodeOk_label (h k (kid_node t x k hx hr hk))
      unfold nodeOk at hn
      rw [if_neg hr] at hn
      by_cases h2 : x.rule < 0
      · rw [if_pos h2] at hn; simp at hn
      · rw [if_neg h2] at hn
        cases h3 : g.rules[x.rule.toNat]? with
        | none => rw [h3] at hn; simp at hn
        | some r =>
          rw [h3] at hn
          simp only [Bool.and_eq_true] at hn
          have h4 := ((kidsOk_map hkl).1 hn.2).2
          have h5 : (x.kids.all fun k => (label g k).isSome) = true := List.all_eq_true.2 fun k hk => by rw [hkl k hk]; rfl
          simp [hr, h4, h5]
  · intro h x hx
    have hn := h x hx
    unfold refNode at hn
    rw [Bool.and_eq_true] at hn
    obtain ⟨s, hs⟩ := Option.isSome_iff_exists.1 hn.1
    unfold nodeOk
    by_cases hr : x.rule = -1
    · rw [if_pos hr]
      unfold label at hs
      by_cases h1 : x.rule = -1 ∧ x.kids.length = 0 ∧ 0 ≤ x.term ∧ x.term < g.terms
      · simp only [h1.2.1, h1.2.2.1, h1.2.2.2]; rfl
      · rw [if_neg h1, if_pos (by omega)] at hs; simp at hs
    · rw [if_neg hr]
      unfold label at hs
      rw [if_neg (fun h1 => hr h1.1)] at hs
      by_cases h2 : x.rule < 0 ∨ x.term ≠ 0
      · rw [if_pos h2] at hs; simp at hs
      · rw [if_neg (by omega)]
        have hm := hn.2
        rw [Bool.or_eq_true] at hm
        rcases hm with hm | hm
        · simp at hm; exact absurd hm hr
        · cases h3 : g.rules[x.rule.toNat]? with
          | none => rw [h3] at hm; simp at hm
          | some r =>
            rw [h3] at hm
            simp only [Bool.and_eq_true, decide_eq_true_eq] at hm ⊢
            have hkl : ∀ k ∈ x.kids, label g k = some (rootS g k) := fun k hk => by
              obtain ⟨y, hy⟩ := Option.isSome_iff_exists.1 (List.all_eq_true.1 hm.1 k hk)
              rw [hy, (label_root hy).1]
            exact ⟨by omega, (kidsOk_map hkl).2 ⟨fun k hk => (label_root (hkl k hk)).2, hm.2⟩⟩
end Go.Proofs.Ytjehmleckcmilaa
