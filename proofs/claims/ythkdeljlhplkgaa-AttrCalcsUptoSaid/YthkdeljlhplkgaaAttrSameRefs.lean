/- Plain: the two lists of occurrences are the same; what a checked system's expressions are. -/
import Derived.Test.YthkdeljlhplkgaaAttrRefsW
import Derived.Test.YthkdeljlhplkgaaAttrMent
import Derived.Test.YthkdeljlhplkgaaAttrVal
import Derived.Test.YthkdeljlhplkgaaAttrDefs
import Derived.Test.YthkdeljlhplkgaaAttrLeaves
import Derived.Test.YthkdeljlhplkgaaCheckG
namespace Go.Proofs.Ythkdeljlhplkgaa
open Go.RowKit
namespace At
open Go.Lib (compactUpTo keeps)

theorem ltR_eq (x y : Ref) : ltR x y = ltOf cmpRef x y := by rw [cmpRef_lt]; rfl
theorem ltR_irr (x : Ref) : ltR x x = false := by rw [ltR_eq]; exact swoRef.irrefl x
theorem ltR_trans {x y z : Ref} (h1 : ltR x y = true) (h2 : ltR y z = true) : ltR x z = true := by rw [ltR_eq] at *; exact swoRef.trans x y z h1 h2
theorem ltR_tot {x y : Ref} (h1 : ltR x y = false) (h2 : x ≠ y) : ltR y x = true := by
  cases h : ltR y x with
  | true => rfl
  | false => exact absurd (totRef x y (by rw [← ltR_eq]; exact h1) (by rw [← ltR_eq]; exact h)) h2

def Asc (l : List Ref) : Prop := l.Pairwise fun x y => ltR x y = true
/-- two ascending rows with the same members are one -/
theorem asc_unique : ∀ {l m : List Ref}, Asc l → Asc m → (∀ x, x ∈ l ↔ x ∈ m) → l = m
  | [], [], _, _, _ => rfl
  | [], y :: m, _, _, h => absurd ((h y).2 List.mem_cons_self) (by simp)
  | x :: l, [], _, _, h => absurd ((h x).1 List.mem_cons_self) (by simp)
  | x :: l, y :: m, hl, hm, h => by
    obtain ⟨hl1, hl2⟩ := List.pairwise_cons.1 hl
    obtain ⟨hm1, hm2⟩ := List.pairwise_cons.1 hm
    have hxy : x = y := by
      rcases List.mem_cons.1 ((h x).1 List.mem_cons_self) with e | e
      · exact e
      · rcases List.mem_cons.1 ((h y).2 List.mem_cons_self) with e2 | e2
        · exact e2.symm
        · have h1 := hm1 x e
          have h2 := hl1 y e2
          have h3 := ltR_trans h1 h2
          rw [ltR_irr] at h3
          cases h3
    subst hxy
    congr 1
    refine asc_unique hl2 hm2 fun z => ⟨fun hz => ?_, fun hz => ?_⟩
    · rcases List.mem_cons.1 ((h z).1 (List.mem_cons_of_mem _ hz)) with e | e
      · have h1 := hl1 z hz
        rw [e, ltR_irr] at h1
        cases h1
      · exact e
    · rcases List.mem_cons.1 ((h z).2 (List.mem_cons_of_mem _ hz)) with e | e
      · have h1 := hm1 z hz
        rw [e, ltR_irr] at h1
        cases h1
      · exact e

/-- Mentioned's row -/
theorem insR_mem (L : List Ref) (r x : Ref) : x ∈ insR L r ↔ x = r ∨ x ∈ L := by
  unfold insR
  rw [List.mem_append, List.mem_cons]
  have h : x ∈ L ↔ x ∈ L.take (posR L r) ∨ x ∈ L.drop (posR L r) := by
    conv => lhs; rw [← List.take_append_drop (posR L r) L, List.mem_append]
  rw [h]
  constructor
  · rintro (h | h | h)
    · exact .inr (.inl h)
    · exact .inl h
    · exact .inr (.inr h)
  · rintro (h | h | h)
    · exact .inr (.inl h)
    · exact .inl h
    · exact .inr (.inr h)
theorem insR_asc {L : List Ref} {r : Ref} (hL : Asc L) (hr : r ∉ L) : Asc (insR L r) := by
  have h1 : ∀ z ∈ L.take (posR L r), ltR z r = true := by
    intro z hz
    obtain ⟨j, hj, rfl⟩ := List.getElem_of_mem hz
    have hj2 : j < posR L r := by rw [List.length_take] at hj; omega
    have := List.not_of_lt_findIdx (p := fun z => !ltR z r) (xs := L) hj2
    rw [List.getElem_take]
    simpa using this
  have h2 : ∀ z ∈ L.drop (posR L r), ltR r z = true := by
    intro z hz
    have hne : z ≠ r := fun e => hr (by rw [← e]; exact List.mem_of_mem_drop hz)
    rcases Nat.lt_or_ge (posR L r) L.length with hlt | hge
    · have hp : ltR (L[posR L r]'hlt) r = false := by
        have := List.findIdx_getElem (p := fun z => !ltR z r) (xs := L) (w := hlt)
        have h3 : (!ltR (L[posR L r]'hlt) r) = true := this
        cases h4 : ltR (L[posR L r]'hlt) r with
        | false => rfl
        | true => rw [h4] at h3; cases h3
      have hp2 : ltR r (L[posR L r]'hlt) = true := ltR_tot hp (fun e => hr (by rw [← e]; exact List.getElem_mem hlt))
      rw [List.drop_eq_getElem_cons hlt] at hz
      rcases List.mem_cons.1 hz with e | e
      · rw [e]; exact hp2
      · have hd : Asc (L.drop (posR L r)) := List.Pairwise.sublist (List.drop_sublist _ _) hL
        rw [List.drop_eq_getElem_cons hlt] at hd
        exact ltR_trans hp2 ((List.pairwise_cons.1 hd).1 z e)
    · rw [List.drop_of_length_le hge] at hz; cases hz
  unfold insR Asc
  rw [List.pairwise_append, List.pairwise_cons]
  refine ⟨List.Pairwise.sublist (List.take_sublist _ _) hL, ⟨h2, List.Pairwise.sublist (List.drop_sublist _ _) hL⟩, fun a ha b hb => ?_⟩
  rcases List.mem_cons.1 hb with e | e
  · rw [e]; exact h1 a ha
  · exact ltR_trans (h1 a ha) (h2 b e)
theorem ment_fold : ∀ (N : List Expr) (L : List Ref), Asc L → Asc (N.foldl mentStep L) ∧ ∀ x, x ∈ N.foldl mentStep L ↔ x ∈ L ∨ x ∈ (N.filter fun y => y.kind == 1).map Expr.ref
  | [], L, h => ⟨h, fun x => by simp⟩
  | y :: N, L, h => by
    rw [List.foldl_cons]
    have hs : Asc (mentStep L y) ∧ ∀ x, x ∈ mentStep L y ↔ x ∈ L ∨ (y.kind = 1 ∧ x = y.ref) := by
      unfold mentStep
      by_cases hk : y.kind = 1
      · by_cases hm : y.ref ∈ L
        · rw [if_pos (.inr hm)]
          exact ⟨h, fun x => ⟨.inl, fun h => by rcases h with h | ⟨_, rfl⟩ <;> assumption⟩⟩
        · rw [if_neg (by simp [hk, hm])]
          refine ⟨insR_asc h hm, fun x => ?_⟩
          rw [insR_mem]
          constructor
          · rintro (h | h)
            · exact .inr ⟨hk, h⟩
            · exact .inl h
          · rintro (h | ⟨_, h⟩)
            · exact .inr h
            · exact .inl h
      · rw [if_pos (.inl hk)]
        exact ⟨h, fun x => ⟨.inl, fun h => by rcases h with h | ⟨h, _⟩ <;> first | assumption | exact absurd h hk⟩⟩
    obtain ⟨h1, h2⟩ := ment_fold N _ hs.1
    refine ⟨h1, fun x => ?_⟩
    rw [h2, hs.2, List.filter_cons]
    by_cases hk : y.kind = 1
    · simp [hk]
      constructor
      · rintro ((h | h) | h)
        · exact .inl h
        · exact .inr (.inl h)
        · exact .inr (.inr h)
      · rintro (h | h | h)
        · exact .inl (.inl h)
        · exact .inl (.inr h)
        · exact .inr h
    · simp [hk]
theorem mentS_spec (x : Expr) : Asc (mentS x) ∧ ∀ r, r ∈ mentS x ↔ r ∈ refsOf x := by
  obtain ⟨h1, h2⟩ := ment_fold (enodes x) [] List.Pairwise.nil
  exact ⟨h1, fun r => by unfold mentS refsOf; rw [h2]; simp⟩

/-- Refs' row -/
theorem sortR_mem (l : List Ref) (x : Ref) : x ∈ sortR l ↔ x ∈ l := by unfold sortR; exact List.mem_mergeSort
theorem sortR_sorted (l : List Ref) : (sortR l).Pairwise fun x y => ltR y x = false := by
  have h := List.pairwise_mergeSort (le := fun x y => !(ltOf cmpRef) y x) (fun a b c h1 h2 => by
    simp only [Bool.not_eq_true'] at *
    exact swoRef.ntrans _ _ _ h2 h1) (fun a b => by
    cases h : ltOf cmpRef b a with
    | false => simp
    | true =>
      cases h2 : ltOf cmpRef a b with
      | false => simp
      | true => exact absurd (swoRef.trans _ _ _ h h2) (by rw [swoRef.irrefl]; simp)) l
  unfold sortR
  refine h.imp ?_
  intro a b hab
  rw [ltR_eq]
  simpa using hab
theorem compactUp_spec {l : List Ref} (hs : l.Pairwise fun x y => ltR y x = false) : ∀ m, m ≤ l.length → Asc (compactUpTo l.toArray m) ∧ (∀ x, x ∈ compactUpTo l.toArray m ↔ x ∈ l.take m)
  | 0, _ => ⟨by simp [compactUpTo, Asc], fun x => by simp [compactUpTo]⟩
  | m + 1, hm => by
    obtain ⟨h1, h2⟩ := compactUp_spec hs m (by omega)
    have hlt : m < l.length := by omega
    have hd : l.toArray[m]! = l[m] := by rw [getElem!_pos _ _ (by simpa using hlt)]; simp
    rw [Lib.compactUpTo_succ, List.take_succ_eq_append_getElem hlt, hd]
    have hle : ∀ z ∈ l.take m, ltR l[m] z = false := by
      intro z hz
      obtain ⟨j, hj, rfl⟩ := List.getElem_of_mem hz
      rw [List.length_take] at hj
      rw [List.getElem_take]
      exact List.pairwise_iff_getElem.1 hs j m (by omega) hlt (by omega)
    cases hk : keeps l.toArray m with
    | true =>
      rw [if_pos rfl]
      have hnew : ∀ z ∈ l.take m, ltR z l[m] = true := by
        intro z hz
        refine ltR_tot (hle z hz) (fun e => ?_)
        unfold keeps at hk
        simp only [decide_eq_true_eq] at hk
        rcases hk with rfl | hk
        · simp at hz
        · have hm1 : m ≠ 0 := by rintro rfl; simp at hz
          have hlt2 : m - 1 < l.length := by omega
          have hd2 : l.toArray[m - 1]! = l[m - 1] := by rw [getElem!_pos _ _ (by simpa using hlt2)]; simp
          rw [hd, hd2] at hk
          obtain ⟨j, hj, rfl⟩ := List.getElem_of_mem hz
          rw [List.length_take] at hj
          rw [List.getElem_take] at e
          have h3 : ltR l[m - 1] l[m] = true := ltR_tot (List.pairwise_iff_getElem.1 hs (m - 1) m hlt2 hlt (by omega)) hk
          by_cases ej : j = m - 1
          · subst ej; exact hk e
          · have h4 := List.pairwise_iff_getElem.1 hs j (m - 1) (by omega) hlt2 (by omega)
            rw [← e] at h4
            rw [h4] at h3
            cases h3
      refine ⟨?_, fun x => by rw [List.mem_append, List.mem_append, h2]⟩
      unfold Asc
      rw [List.pairwise_append]
      refine ⟨h1, List.pairwise_singleton _ _, fun a ha b hb => ?_⟩
      rw [List.mem_singleton] at hb
      rw [hb]
      exact hnew a ((h2 a).1 ha)
    | false =>
      rw [if_neg (by simp), List.append_nil]
      refine ⟨h1, fun x => ?_⟩
      rw [h2, List.mem_append]
      refine ⟨.inl, fun h => ?_⟩
      rcases h with h | h
      · exact h
      · rw [List.mem_singleton] at h
        unfold keeps at hk
        simp only [decide_eq_false_iff_not, not_or, Classical.not_not] at hk
        have hlt2 : m - 1 < l.length := by omega
        have hd2 : l.toArray[m - 1]! = l[m - 1] := by rw [getElem!_pos _ _ (by simpa using hlt2)]; simp
        rw [hd, hd2] at hk
        rw [h, hk.2]
        have hm1 := hk.1
        exact List.mem_take_iff_getElem.2 ⟨m - 1, by omega, rfl⟩
theorem refs_same (x : Expr) : refsS x = mentS x := by
  obtain ⟨h1, h2⟩ := mentS_spec x
  obtain ⟨h3, h4⟩ := compactUp_spec (sortR_sorted (refsOf x)) _ (Nat.le_refl _)
  refine asc_unique h3 h1 fun r => ?_
  rw [h2]
  show r ∈ compactUpTo (sortR (refsOf x)).toArray (sortR (refsOf x)).length ↔ _
  rw [h4, List.take_length, sortR_mem]

/-- a checked system -/
theorem eqsFrom_zero {g : Gram} {s : Sys} : ∀ {l : List Eqn} {i : Nat}, eqsFrom g s i l = 0 → ∀ q ∈ l, ∃ j, eqErr g s j q = 0
  | [], _, _, q, hq => by simp at hq
  | x :: l, i, h, q, hq => by
    rw [eqsFrom] at h
    by_cases h0 : eqErr g s i x = 0
    · rw [if_neg (by simpa using h0)] at h
      rcases List.mem_cons.1 hq with rfl | hq
      · exact ⟨i, h0⟩
      · exact eqsFrom_zero h q hq
    · rw [if_pos h0] at h
      exact absurd h h0
theorem checked {g : Gram} {s : Sys} (h : checkS g s = 0) (hal : s.attrs.length ≤ 2000000) : ∀ q ∈ s.eqs, q.is'.size ≤ 30 ∧ okX q.is' := by
  intro q hq
  unfold checkS at h
  by_cases hg : checkG g = 0
  · rw [if_neg (by simpa using hg)] at h
    unfold sysErr at h
    by_cases ha : attrsErr g s.attrs = 0
    · rw [if_neg (by simpa using ha)] at h
      by_cases h200 : 200 < s.eqs.length
      · rw [if_pos h200] at h; simp at h
      · rw [if_neg h200] at h
        by_cases he : eqsFrom g s 0 s.eqs = 0
        · obtain ⟨j, hj⟩ := eqsFrom_zero he q hq
          unfold eqErr at hj
          cases hr : g.rules[q.rule.toNat]? with
          | none => rw [hr] at hj; simp at hj
          | some r =>
            rw [hr] at hj
            simp only at hj
            by_cases h1 : q.rule < 0
            · rw [if_pos h1] at hj; simp at hj
            · rw [if_neg h1] at hj
              by_cases h2 : 30 < q.is'.size
              · rw [if_pos h2] at hj; simp at hj
              · rw [if_neg h2] at hj
                by_cases h3 : defs s.attrs r q.to' = false ∨ valid s.attrs r q.is' = false
                · rw [if_pos h3] at hj; simp at hj
                · have hv : valid s.attrs r q.is' = true := by
                    cases e : valid s.attrs r q.is' with
                    | true => rfl
                    | false => exact absurd (.inr e) h3
                  refine ⟨by omega, fun y hy => ?_⟩
                  have hn : okNode s.attrs r y = true := by
                    unfold valid at hv
                    exact List.all_eq_true.1 hv y hy
                  unfold okNode at hn
                  simp only [Bool.and_eq_true] at hn
                  obtain ⟨⟨n1, n2⟩, n3⟩ := hn
                  have hr4 := ((checkG_zero hg).2.2 r (List.mem_of_getElem? hr)).2.2.1
                  refine ⟨n1, fun hk => ?_, fun hk => ?_⟩
                  · rw [if_pos hk] at n2
                    simpa [inM] using n2
                  · rw [if_pos hk] at n3
                    obtain ⟨t1, t2, t3, t4⟩ := there_range n3
                    exact ⟨t3, by omega, t1, by omega⟩
        · rw [if_pos he] at h
          exact absurd h he
    · rw [if_pos ha] at h
      exact absurd h ha
  · rw [if_pos hg] at h
    exact absurd h hg
end At
end Go.Proofs.Ythkdeljlhplkgaa
