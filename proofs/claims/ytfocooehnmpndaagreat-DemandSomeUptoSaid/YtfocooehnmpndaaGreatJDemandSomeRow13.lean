/- A region that draws its order: what holds may hang on what is listed; loads are taken first; an invariant over what is listed. -/
import Derived.Test.YtfocooehnmpndaaGreatJDemandSomeRow9
namespace Go.Proofs.YtfocooehnmpndaaGreat
open Go.RowKit
section
variable {P : Program} {ops : Array Oper} {Q : Exit → Act → World → Prop} {md : Region.Mode} {S : Array Bool → World → Prop}
def wpV (P : Program) (md : Region.Mode) (ops : Array Oper) (Q : Exit → Act → World → Prop) (S : Array Bool → World → Prop) : Nat → Array Bool → Act → World → Prop
  | 0, listed, a, w => Region.ready md ops listed = [] ∧ Q .normal a w
  | f + 1, listed, a, w =>
    (Region.ready md ops listed = [] → Q .normal a w) ∧
    ∀ i ∈ Region.ready md ops listed, wpOp P ops Q i (fun a' w' => S (listed.setIfInBounds i true) w' ∧ wpV P md ops Q S f (listed.setIfInBounds i true) a' w') a w
theorem wpAny_of_V : ∀ (f : Nat) (listed : Array Bool) (a : Act) (w : World), wpV P md ops Q S f listed a w → wpAny P md ops Q f listed a w
  | 0, _, _, _, h => h
  | f + 1, _, _, _, h => ⟨h.1, fun i hi => wpOp_mono (fun a' w' h' => wpAny_of_V f _ a' w' h'.2) (h.2 i hi)⟩
def ClV (md : Region.Mode) (ops : Array Oper) (l : Array Bool) : Prop := ∀ k o, ops[k]? = some o → l.getD k false = true → ∀ e ∈ o.after, Region.binds md e = true → l.getD e.on false = true
theorem getD_set_false {l : Array Bool} {i j : Nat} (h : l.getD j false = true) : (l.setIfInBounds i true).getD j false = true := by
  by_cases e : i = j
  · subst e
    by_cases hl : i < l.size
    · simp [Array.getD_eq_getD_getElem?, hl]
    · rw [Array.getD_eq_getD_getElem?, Array.getElem?_eq_none (by omega)] at h; cases h
  · rw [getD_set_ne false e]; exact h
theorem ClV.set {l : Array Bool} {i : Nat} (h : ClV md ops l) (hi : i ∈ Region.ready md ops l) : ClV md ops (l.setIfInBounds i true) := by
  intro k o ho hk e he hb
  by_cases ek : k = i
  · subst ek
    obtain ⟨_, o', ho', hall⟩ := mem_ready.1 hi
    rw [ho] at ho'
    cases ho'
    exact getD_set_false (hall e he hb)
  · rw [getD_set_ne false (Ne.symm ek)] at hk
    exact getD_set_false (h k o ho hk e he hb)
theorem ClV.setB {l : Array Bool} {i : Nat} (h : ClV md ops l) (hi : (Region.ready md ops l).contains i = true) : ClV md ops (l.setIfInBounds i true) := h.set (by simpa using hi)
theorem waits_un {l : Array Bool} {n i : Nat} (h : ClV md ops l) (hw : waitsB md ops n i = true) (hun : l.getD i false = false) : l.getD n false = false := by
  cases hn : l.getD n false with
  | false => rfl
  | true =>
    unfold waitsB at hw
    cases ho : ops[n]? with
    | none => rw [ho] at hw; cases hw
    | some o =>
      rw [ho] at hw
      simp only at hw
      obtain ⟨e, he, h1⟩ := Array.any_eq_true'.1 hw
      rw [Bool.and_eq_true] at h1
      have := h n o ho hn e he h1.1
      rw [show e.on = i by simpa using h1.2, hun] at this
      cases this
theorem wpV_first {i : Nat} {oi : Oper} {v : Value} {T : World → Prop} (hi : ops[i]? = some oi) (hsel : ∀ (j : Nat) (o : Oper) cs b, ops[j]? = some o → o.op ≠ .select cs b)
    (hQ : ∀ c a w, Q (.panic c) (a.put oi.dst v) w → Q (.panic c) a w) (hSi : ∀ l w, S (l.setIfInBounds i true) w → S l w) (hST : ∀ l w, ClV md ops l → l.getD i false = false → S l w → T w) :
    ∀ (f : Nat) (listed : Array Bool) (a : Act) (w : World), ClV md ops listed →
      (∀ j oj, ops[j]? = some oj → j ≠ i → listed.getD j true = false → (∀ e ∈ oj.after, Region.binds md e = true → e.on ≠ i) → oi.apart ops oj = true) →
      i ∈ Region.ready md ops listed → YieldsIf P ops T oi v a → S (listed.setIfInBounds i true) w →
      wpV P md ops Q S f (listed.setIfInBounds i true) (a.put oi.dst v) w → wpV P md ops Q S (f + 1) listed a w := by
  intro f
  induction f with
  | zero =>
    intro listed a w hcl _ hr hy hS H
    refine ⟨fun h => (by rw [h] at hr; cases hr), fun j hj => ?_⟩
    by_cases hji : j = i
    · subst hji; exact hy.wpOp hi (hST listed w hcl (getD_both (mem_ready.1 hr).1) (hSi _ _ hS)) ⟨hS, H⟩
    · have h1 := ready_mono hj hji
      rw [H.1] at h1
      cases h1
  | succ f ih =>
    intro listed a w hcl hfree hr hy hS H
    have hun := (mem_ready.1 hr).1
    refine ⟨fun h => (by rw [h] at hr; cases hr), fun j hj => ?_⟩
    by_cases hji : j = i
    · subst hji; exact hy.wpOp hi (hST listed w hcl (getD_both hun) (hSi _ _ hS)) ⟨hS, H⟩
    · have h1 := H.2 j (ready_mono hj hji)
      obtain ⟨hjun, oj, hoj, hall⟩ := mem_ready.1 hj
      have hnot : ∀ e ∈ oj.after, Region.binds md e = true → e.on ≠ i := fun e he hb heq => by
        have h1 := hall e he hb
        rw [heq, getD_both hun] at h1
        cases h1
      have h2 := wpOp_putIf hoj (hfree j oj hoj hji hjun hnot) (fun cs b => hsel i oi cs b hi) (fun cs b => hsel j oj cs b hoj) hQ hy h1
      have hfree' : ∀ k ok, ops[k]? = some ok → k ≠ i → (listed.setIfInBounds j true).getD k true = false →
          (∀ e ∈ ok.after, Region.binds md e = true → e.on ≠ i) → oi.apart ops ok = true := fun k ok hk hki hun hno => by
        refine hfree k ok hk hki ?_ hno
        by_cases hjk : j = k
        · subst hjk; exact hjun
        · rw [getD_set_ne true hjk] at hun; exact hun
      have hcomm := Array.setIfInBounds_comm (xs := listed) true true (Ne.symm hji)
      refine wpOp_mono (fun a' w' h3 => ?_) h2
      have h5 : S ((listed.setIfInBounds j true).setIfInBounds i true) w' := by rw [← hcomm]; exact h3.2.1
      refine ⟨hSi _ _ h5, ih (listed.setIfInBounds j true) a' w' (hcl.set hj) hfree' (ready_mono hr (Ne.symm hji)) h3.1 h5 ?_⟩
      rw [← hcomm]
      exact h3.2.2
theorem wpV_take {i : Nat} {oi : Oper} {v : Value} {T : World → Prop} {f : Nat} {listed : Array Bool} {a : Act} {w : World} (hi : ops[i]? = some oi) (hcl : ClV md ops listed)
    (hsel : Region.noSelect ops = true) (hf : Region.free md ops listed i = true) (hr : (Region.ready md ops listed).contains i = true)
    (hQ : ∀ c a w, Q (.panic c) (a.put oi.dst v) w → Q (.panic c) a w) (hSi : ∀ l w, S (l.setIfInBounds i true) w → S l w) (hST : ∀ l w, ClV md ops l → l.getD i false = false → S l w → T w) (hy : YieldsIf P ops T oi v a) (hS : S (listed.setIfInBounds i true) w)
    (h : ClV md ops (listed.setIfInBounds i true) → wpV P md ops Q S f (listed.setIfInBounds i true) (a.put oi.dst v) w) : wpV P md ops Q S (f + 1) listed a w :=
  wpV_first hi (Region.noSelect_spec hsel) hQ hSi hST f listed a w hcl (Region.free_spec hi hf) (by simpa using hr) hy hS (h (hcl.set (by simpa using hr)))
theorem wp_region_V {id : Nat} {a : Act} {w : World} (hm : P.follows .mixedOrders = true)
    (h : ClV .any ops (Array.replicate ops.size false) → wpV P .any ops Q S ops.size (Array.replicate ops.size false) a w.drew) : (Code.region id ops true).wp P Q a w :=
  wp_region_any hm (wpAny_of_V _ _ _ _ (h fun k o _ hk => by
    exfalso
    by_cases hl : k < ops.size
    · simp [Array.getD_eq_getD_getElem?, hl] at hk
    · rw [Array.getD_eq_getD_getElem?, Array.getElem?_eq_none (by simpa using hl)] at hk; cases hk))
def OnV (P : Program) (md : Region.Mode) (ops : Array Oper) (Q : Exit → Act → World → Prop) (S : Array Bool → World → Prop) (f : Nat) (listed : Array Bool) (K : Act → World → Prop) : Prop :=
  ∀ a w, S listed w → wpV P md ops Q S f listed a w → K a w
theorem OnV.out {f : Nat} {listed : Array Bool} {K : Act → World → Prop} (h : OnV P md ops Q S f listed K) (a : Act) (w : World) (hS : S listed w) (hw : wpV P md ops Q S f listed a w) : K a w := h a w hS hw
theorem wpV_one {i : Nat} {o : Oper} {f : Nat} {listed : Array Bool} {a : Act} {w : World} (hr : Region.ready md ops listed = [i]) (ho : ops[i]? = some o)
    (h : ∀ K : Act → World → Prop, OnV P md ops Q S f (listed.setIfInBounds i true) K → if Region.wanted o (yielded ops a.tmps) = true then Oper.wp P o a w K Q else K (a.put o.dst undef) w) : wpV P md ops Q S (f + 1) listed a w := by
  refine ⟨fun h0 => (by rw [hr] at h0; cases h0), fun j hj => ?_⟩
  rw [hr] at hj
  obtain rfl : j = i := by simpa using hj
  exact wpOp_step ho (fun K hK => h K (fun a w hS hW => hK a w ⟨hS, hW⟩))
theorem wpV_done {listed : Array Bool} {a : Act} {w : World} (hr : Region.ready md ops listed = []) (h : Q .normal a w) : ∀ f, wpV P md ops Q S f listed a w
  | 0 => ⟨hr, h⟩
  | _ + 1 => ⟨fun _ => h, by rw [hr]; simp⟩
theorem wpV_inv {J : Nat → Array Bool → Act → World → Prop}
    (hstep : ∀ f l a w, J f l a w → wpV P md ops Q S f l a w ∨ ∃ f', f = f' + 1 ∧ Region.ready md ops l ≠ [] ∧ ∀ i ∈ Region.ready md ops l, ∃ o, ops[i]? = some o ∧ ∀ K : Act → World → Prop, (∀ a' w', S (l.setIfInBounds i true) w' → J f' (l.setIfInBounds i true) a' w' → K a' w') → if Region.wanted o (yielded ops a.tmps) = true then Oper.wp P o a w K Q else K (a.put o.dst undef) w) :
    ∀ f l a w, J f l a w → wpV P md ops Q S f l a w
  | 0, l, a, w, h => by
    rcases hstep 0 l a w h with h | ⟨f', e, _⟩
    · exact h
    · cases e
  | f + 1, l, a, w, h => by
    rcases hstep (f + 1) l a w h with h | ⟨f', e, hne, hall⟩
    · exact h
    · cases e
      refine ⟨fun h0 => absurd h0 hne, fun i hi => ?_⟩
      obtain ⟨o, ho, hs⟩ := hall i hi
      exact wpOp_step ho (fun K hK => hs K (fun a' w' hS hJ => hK a' w' ⟨hS, wpV_inv hstep f _ a' w' hJ⟩))
theorem ne_nil_of {α : Type} {l : List α} (h : l.isEmpty = false) : l ≠ [] := fun e => by rw [e] at h; cases h
theorem ready_of {l : Array Bool} {c : List Nat} {i : Nat} (hi : i ∈ Region.ready md ops l) (hc : (List.range l.size).all (fun j => c.contains j || l.getD j true) = true) : i ∈ c := by
  have hun := (mem_ready.1 hi).1
  by_cases h : i < l.size
  · have h1 := List.all_eq_true.1 hc i (List.mem_range.2 h)
    rw [hun, Bool.or_false] at h1
    simpa using h1
  · rw [Array.getD_eq_getD_getElem?, Array.getElem?_eq_none (by omega)] at hun
    cases hun
theorem ready_has {l : Array Bool} {n i : Nat} (hn : n ∈ Region.ready md ops l) (hw : waitsB md ops n i = true) : l.getD i false = true := by
  cases h : l.getD i false with
  | true => rfl
  | false => exact absurd hn (waits_not hw h)
end
end Go.Proofs.YtfocooehnmpndaaGreat
