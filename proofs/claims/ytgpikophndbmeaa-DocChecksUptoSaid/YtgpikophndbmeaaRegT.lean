/- A region that draws its order: a head that only loads what was there and calls what makes new memory only, then a tail in one forced order. -/
import Derived.Test.YtgpikophndbmeaaRegA
import Derived.StillTail
namespace Go.Proofs.Ytgpikophndbmeaa
open Go.RowKit

section
variable {P : Program} {ops : Array Oper} {md : Region.Mode} {C : World → Prop}
/-- whatever order the head takes; L behind it -/
def wpHd (P : Program) (md : Region.Mode) (ops : Array Oper) (C : World → Prop) (n : Nat) (L : Array Bool → Act → Prop) : Nat → Array Bool → Act → Prop
  | 0, ld, a => L ld a
  | f + 1, ld, a => Region.ready md ops ld ≠ [] ∧ ∀ i ∈ Region.ready md ops ld, i < n ∧ qOp P ops C i (wpHd P md ops C n L f (ld.setIfInBounds i true)) a
theorem wpAny_of_hd {n g : Nat} {L : Array Bool → Act → Prop} {Q : Exit → Act → World → Prop} (hL : ∀ ld a w, C w → L ld a → wpAny P md ops Q g ld a w) :
    ∀ (f : Nat) (ld : Array Bool) (a : Act) (w : World), C w → wpHd P md ops C n L f ld a → wpAny P md ops Q (f + g) ld a w
  | 0, ld, a, w, hw, h => by rw [Nat.zero_add]; exact hL ld a w hw h
  | f + 1, ld, a, w, hw, h => by
    rw [Nat.add_right_comm]
    exact ⟨fun e => absurd e h.1, fun i hi => wpOp_of_qOp hw (fun a' w' hw' h' => wpAny_of_hd hL f _ a' w' hw' h') (h.2 i hi).2⟩
theorem wpHd_first {n i : Nat} {oi : Oper} {v : Value} {L : Array Bool → Act → Prop} (hi : ops[i]? = some oi) (hsel : ∀ (j : Nat) (o : Oper) cs b, ops[j]? = some o → o.op ≠ .select cs b)
    (hs : Region.sinkB md ops n = true) (hc : Region.chainB md ops n = true) (hn : n < ops.size) (hin : i < n) (hend : ∀ ld a, L ld a → ∀ j ∈ Region.ready md ops ld, n ≤ j) :
    ∀ (f : Nat) (ld : Array Bool) (a : Act), HeadInv md ops n ld →
      (∀ j oj, ops[j]? = some oj → j ≠ i → ld.getD j true = false → (∀ e ∈ oj.after, Region.binds md e = true → e.on ≠ i) → oi.apart ops oj = true) →
      i ∈ Region.ready md ops ld → YieldsIn P ops C oi v a → wpHd P md ops C n L f (ld.setIfInBounds i true) (a.put oi.dst v) → wpHd P md ops C n L (f + 1) ld a := by
  intro f
  induction f with
  | zero =>
    intro ld a inv _ hr hy H
    refine ⟨fun e => (by rw [e] at hr; cases hr), fun j hj => ?_⟩
    have hjn : j < n := Nat.lt_of_not_le fun h => tail_waits hs hc hn inv _ i rfl hin (mem_ready.1 hr).1 j h hj
    by_cases e : j = i
    · subst e; exact ⟨hjn, hy.qOp hi H⟩
    · have := hend _ _ H j (ready_mono hj e)
      omega
  | succ f ih =>
    intro ld a inv hfree hr hy H
    refine ⟨fun e => (by rw [e] at hr; cases hr), fun j hj => ?_⟩
    have hjn : j < n := Nat.lt_of_not_le fun h => tail_waits hs hc hn inv _ i rfl hin (mem_ready.1 hr).1 j h hj
    refine ⟨hjn, ?_⟩
    by_cases e : j = i
    · subst e; exact hy.qOp hi H
    obtain ⟨hju, oj, hoj, hall⟩ := mem_ready.1 hj
    have hno : ∀ e ∈ oj.after, Region.binds md e = true → e.on ≠ i := fun x hx hb he => by
      have h1 := hall x hx hb
      rw [he, getD_both (mem_ready.1 hr).1] at h1
      cases h1
    have h2 := qOp_put hoj (hfree j oj hoj e hju hno) (fun cs b => hsel i oi cs b hi) (fun cs b => hsel j oj cs b hoj) hy (H.2 j (ready_mono hj e)).2
    refine qOp_mono (fun a' h3 => ih _ a' (inv.set hj hjn) ?_ (ready_mono hr (Ne.symm e)) h3.1 ?_) h2
    · intro k ok hk hki hu hn'
      by_cases hjk : j = k
      · subst hjk; exact hfree j ok hk hki hju hn'
      · exact hfree k ok hk hki (by rwa [getD_set_ne true hjk] at hu) hn'
    · rw [Array.setIfInBounds_comm _ _ e]
      exact h3.2
theorem wpHd_lex {n g : Nat} {R : Act → Prop} (hsel : Region.noSelect ops = true) (hs : Region.sinkB md ops n = true) (hc : Region.chainB md ops n = true) (hn : n < ops.size) :
    ∀ (l : List Oper) (k : Nat) (ld : Array Bool) (a : Act), (∀ j, j < l.length → l[j]? = ops[k + j]?) → k + l.length = n → HeadInv md ops n ld →
    Region.lexHead md ops g l.length k ld = true → wpQuiet P ops C R l a → wpHd P md ops C n (fun ld' a' => Region.seqB md ops g n ld' = true ∧ R a') l.length ld a
  | [], k, ld, a, _, hk, _, hB, h => by
    obtain rfl : k = n := by simpa using hk
    exact ⟨by simpa [Region.lexHead] using hB, h⟩
  | o :: l, k, ld, a, hl, hk, inv, hB, h => by
    have h0 : ops[k]? = some o := by simpa using (hl 0 (by simp)).symm
    simp only [List.length_cons, Region.lexHead, Bool.and_eq_true] at hB
    have hkn : k < n := by rw [List.length_cons] at hk; omega
    have hr : k ∈ Region.ready md ops ld := by simpa using hB.1.1
    obtain ⟨v, hy, hK⟩ := yieldsIn_of_qOp h0 (show qOp P ops C k (wpQuiet P ops C R l) a by unfold qOp; simp only [h0]; exact h)
    refine wpHd_first h0 (Region.noSelect_spec hsel) hs hc hn hkn (fun _ _ hL => seqB_ready hL.1) l.length ld a inv (Region.free_spec h0 hB.1.2) hr hy ?_
    exact wpHd_lex hsel hs hc hn l (k + 1) _ _ (fun j hj => by have := hl (j + 1) (by simp; omega); simpa [Nat.add_assoc, Nat.add_comm 1 j] using this) (by rw [List.length_cons] at hk; omega) (inv.set hr hkn) hB.2 hK
theorem wp_region_after_tail {id : Nat} {Q : Exit → Act → World → Prop} {a : Act} {w0 : World} {l : List Oper} (n : Nat) (hm : P.follows .mixedOrders = true) (hB : Region.lexTailB .any l.toArray n = true)
    (h : wpQuiet P l.toArray (fun w' => ∃ x : Aft w0, w' = x.w) (fun a' => ∀ w', (∃ x : Aft w0, w' = x.w) → wpList P l.toArray Q (l.drop n) a' w') (l.take n) a) : (Code.region id l.toArray true).wp P Q a w0 := by
  simp only [Region.lexTailB, Bool.and_eq_true, decide_eq_true_eq] at hB
  obtain ⟨⟨⟨⟨hsel, hn⟩, hs⟩, hc⟩, hlex⟩ := hB
  have hn' : n < l.length := by simpa using hn
  have htl : (l.take n).length = n := by simp; omega
  have hdl : (l.drop n).length = l.toArray.size - n := by simp
  have H := wpHd_lex (C := fun w' => ∃ x : Aft w0, w' = x.w) (md := .any) (g := l.toArray.size - n) hsel hs hc hn (l.take n) 0 (Array.replicate l.toArray.size false) a (fun j hj => by
    have hj' : j < n := by rw [htl] at hj; exact hj
    simp [hj']) (by simpa using htl) ⟨by simp, fun j oj _ hl => (by rw [getD_replicate_false] at hl; cases hl), fun t _ ht => getD_in (by simpa using ht) (getD_replicate_false _ _)⟩ (by rw [htl]; exact hlex) h
  refine wp_region_any hm ?_
  have h3 := wpAny_of_hd (Q := Q) (g := l.toArray.size - n) (fun ld a' w' hw hL => by
    have h4 := wpAny_of_seq (md := .any) (Q' := Q) (l.drop n) n ld a' w' (fun j => by simp [List.getElem?_drop]) (by rw [hdl]; exact hL.1) (hL.2 w' hw)
    rwa [hdl] at h4) _ _ _ w0.drew ⟨⟨_, (Below.refl _ w0).drew⟩, rfl⟩ H
  rw [htl, show n + (l.toArray.size - n) = l.toArray.size by omega] at h3
  exact h3
end
end Go.Proofs.Ytgpikophndbmeaa
