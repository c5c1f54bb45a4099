/- The canonical script: the plain machine of edit.Script and of Edits. -/
import Derived.Test.YtjehmleckcmilaaCommon
import Derived.Test.YtjehmleckcmilaaEdRun
namespace Go.Proofs.Ytjehmleckcmilaa
open Go.RowKit

/-- the edits, from places i and j on: those that are done, and the one that is open -/
def scrN (l r : List Int) : Nat → Nat → Nat → List Ed → Option Ed → List Ed
  | 0, _, _, fin, cur => fin ++ cur.toList
  | f + 1, i, j, fin, cur =>
    if i < l.length ∨ j < r.length then
      if i < l.length ∧ j < r.length ∧ l[i]? = r[j]? then scrN l r f (i + 1) (j + 1) (fin ++ cur.toList) none
      else if i < l.length ∧ cAt l r (i + 1) j + 1 = cAt l r i j then scrN l r f (i + 1) j fin (some ⟨(cur.getD ⟨i, i, []⟩).f, (cur.getD ⟨i, i, []⟩).t + 1, (cur.getD ⟨i, i, []⟩).new⟩)
      else scrN l r f i (j + 1) fin (some ⟨(cur.getD ⟨i, i, []⟩).f, (cur.getD ⟨i, i, []⟩).t, (cur.getD ⟨i, i, []⟩).new ++ [r[j]?.getD 0]⟩)
    else fin ++ cur.toList
def scr (l r : List Int) : List Ed := scrN l r (l.length + r.length) 0 0 [] none

structure ScrI (l r : List Int) (i j : Nat) (fin : List Ed) (cur : Option Ed) : Prop where
  out : ∃ f, (l.length - i) + (r.length - j) ≤ f ∧ scr l r = scrN l r f i j fin cur
  hi : i ≤ l.length
  hj : j ≤ r.length
  cnt : fin.length + cur.toList.length ≤ i + j
  cu : ∀ e, cur = some e → e.t = i ∧ e.new.length ≤ j
theorem ScrI.start (l r : List Int) : ScrI l r 0 0 [] none := ⟨⟨_, by simp, rfl⟩, by simp, by simp, by simp, by simp⟩
section
variable {l r : List Int} {i j : Nat} {fin : List Ed} {cur : Option Ed}
theorem ScrI.done (h : ScrI l r i j fin cur) (hn : ¬ (i < l.length ∨ j < r.length)) : scr l r = fin ++ cur.toList := by
  obtain ⟨f, _, he⟩ := h.out
  rw [he]
  cases f with
  | zero => rfl
  | succ f => rw [scrN, if_neg hn]
theorem ScrI.keep (h : ScrI l r i j fin cur) (hi : i < l.length) (hj : j < r.length) (he : l[i] = r[j]) : ScrI l r (i + 1) (j + 1) (fin ++ cur.toList) none := by
  obtain ⟨f, hf, hs⟩ := h.out
  obtain ⟨f, rfl⟩ : ∃ f', f = f' + 1 := ⟨f - 1, by omega⟩
  refine ⟨⟨f, by omega, ?_⟩, hi, hj, ?_, by simp⟩
  · rw [hs, scrN, if_pos (.inl hi), if_pos ⟨hi, hj, by simp [hi, hj, he]⟩]
  · have := h.cnt; simp; omega
theorem ScrI.del (h : ScrI l r i j fin cur) (hi : i < l.length) (hk : ∀ hj : j < r.length, ¬ l[i] = r[j]) (he : cAt l r (i + 1) j + 1 = cAt l r i j) : ScrI l r (i + 1) j fin (some ⟨(cur.getD ⟨i, i, []⟩).f, (cur.getD ⟨i, i, []⟩).t + 1, (cur.getD ⟨i, i, []⟩).new⟩) := by
  obtain ⟨f, hf, hs⟩ := h.out
  obtain ⟨f, rfl⟩ : ∃ f', f = f' + 1 := ⟨f - 1, by omega⟩
  refine ⟨⟨f, by omega, ?_⟩, hi, h.hj, ?_, ?_⟩
  · rw [hs, scrN, if_pos (.inl hi), if_neg, if_pos ⟨hi, he⟩]
    rintro ⟨_, hj, e⟩
    exact hk hj (by simpa [hi, hj] using e)
  · have := h.cnt
    cases cur <;> simp at this ⊢ <;> omega
  · intro e h'
    cases h'
    cases cur with
    | none => simp
    | some e => have := h.cu e rfl; simp; omega
theorem ScrI.ins (h : ScrI l r i j fin cur) (hj : j < r.length) (hk : ∀ hi : i < l.length, ¬ l[i] = r[j]) (he : ¬ (i < l.length ∧ cAt l r (i + 1) j + 1 = cAt l r i j)) : ScrI l r i (j + 1) fin (some ⟨(cur.getD ⟨i, i, []⟩).f, (cur.getD ⟨i, i, []⟩).t, (cur.getD ⟨i, i, []⟩).new ++ [r[j]]⟩) := by
  obtain ⟨f, hf, hs⟩ := h.out
  obtain ⟨f, rfl⟩ : ∃ f', f = f' + 1 := ⟨f - 1, by omega⟩
  refine ⟨⟨f, by omega, ?_⟩, h.hi, hj, ?_, ?_⟩
  · rw [hs, scrN, if_pos (.inr hj), if_neg, if_neg he]
    · simp [hj]
    rintro ⟨hi, _, e⟩
    exact hk hi (by simpa [hi, hj] using e)
  · have := h.cnt
    cases cur <;> simp at this ⊢ <;> omega
  · intro e h'
    cases h'
    cases cur with
    | none => simp
    | some e => have := h.cu e rfl; simp; omega
theorem ScrI.bd (h : ScrI l r i j fin cur) (h1 : l.length ≤ 200) (h2 : r.length ≤ 200) : fin.length ≤ 400 ∧ (cur.getD ⟨i, i, []⟩).new.length ≤ 200 ∧ 0 ≤ (cur.getD ⟨i, i, []⟩).t ∧ (cur.getD ⟨i, i, []⟩).t ≤ 200 := by
  have h3 := h.cnt
  have h4 := h.hi
  have h5 := h.hj
  cases cur with
  | none => simp; omega
  | some e => have := h.cu e rfl; simp; omega
/-- where nothing is left to insert, the rest is removed -/
theorem cut_end (hi : i < l.length) (hj : j = r.length) : cAt l r (i + 1) j + 1 = cAt l r i j := by
  rw [cAt_lAt (by omega) (by omega), cAt_lAt (by omega) (by omega), lAt_last (by omega), lAt_last (by omega)]
  omega
theorem cut_common (hi : i < l.length) (hj : j ≤ r.length) : (cAt l r (i + 1) j + 1 = cAt l r i j) ↔ (j = r.length ∨ lAt l r (i + 1) j = lAt l r i j) := by
  constructor
  · intro h
    rw [cAt_lAt (by omega) hj, cAt_lAt (by omega) hj] at h
    right; omega
  · rintro (h | h)
    · exact cut_end hi h
    · rw [cAt_lAt (by omega) hj, cAt_lAt (by omega) hj, h]; omega
end
end Go.Proofs.Ytjehmleckcmilaa
