/- slices.SortFunc at occurrences. -/
import Derived.Test.YthkdeljlhplkgaaAttrRefCmp
import Derived.Test.YthkdeljlhplkgaaAttrIns
import Derived.Ground.SlsfProg
namespace Go.Proofs.Ythkdeljlhplkgaa
open Go.RowKit Go.Shelf Go.Lib Go.Sort
shelf_lay_g SlLaysF0.n6 Slsf 6 at Try 14 as Try.sortRef
namespace At

def encRef (x : Ref) : List Value := [.int .i64 x.at', .int .i64 x.attr]
instance : Inhabited Ref := ⟨⟨0, 0⟩⟩

theorem cmpRef_lt (x y : Ref) : ltOf cmpRef x y = decide (x.at' < y.at' ∨ (x.at' = y.at' ∧ x.attr < y.attr)) := by
  unfold ltOf cmpRef
  simp only [orL, cmp3]
  by_cases h1 : x.at' < y.at'
  · simp [h1]
  · by_cases h2 : y.at' < x.at'
    · have h3 : ¬ x.at' = y.at' := by omega
      simp [h1, h2, h3]
    · have h3 : x.at' = y.at' := by omega
      by_cases h4 : x.attr < y.attr
      · simp [h3, h4]
      · by_cases h5 : y.attr < x.attr <;> simp [h3, h4, h5]

theorem swoRef : SWO (ltOf cmpRef) where
  irrefl x := by rw [cmpRef_lt]; simp
  trans x y z h1 h2 := by rw [cmpRef_lt] at *; simp at *; omega
  ntrans x y z h1 h2 := by rw [cmpRef_lt] at *; simp only [decide_eq_false_iff_not] at *; omega

theorem totRef (x y : Ref) (h1 : ltOf cmpRef x y = false) (h2 : ltOf cmpRef y x = false) : x = y := by
  rw [cmpRef_lt] at *
  simp only [decide_eq_false_iff_not] at *
  obtain ⟨a, b⟩ := x
  obtain ⟨c, d⟩ := y
  simp only at h1 h2
  have e1 : a = c := by omega
  have e2 : b = d := by omega
  rw [e1, e2]

theorem cmpLaysRef (blk off size : Nat) (w : World) : CmpLays Try.prog 15 #[] encRef 2 cmpRef blk off size w :=
  fun _ _ _ _ x y => refCmpE x y _

def sortR (l : List Ref) : List Ref := l.mergeSort fun x y => !(ltOf cmpRef) y x

theorem refC_at : ∀ (l : List Ref) (k : Nat) (h : k < l.length), (refC l)[k * 2]? = some (.int .i64 l[k].at') ∧ (refC l)[k * 2 + 1]? = some (.int .i64 l[k].attr)
  | [], _, h => by simp at h
  | x :: l, 0, _ => by simp [refC]
  | x :: l, k + 1, h => by
    have ih := refC_at l k (by simpa using h)
    have e : refC (x :: l) = .int .i64 x.at' :: .int .i64 x.attr :: refC l := by simp [refC]
    rw [e, show (k + 1) * 2 = k * 2 + 1 + 1 by omega]
    simpa using ih

theorem flat_refC (l : List Ref) : (flatK encRef 2 l.toArray).toList = refC l := by
  apply List.ext_getElem?
  intro t
  by_cases ht : t < l.length * 2
  · have h1 : (flatK encRef 2 l.toArray).toList[t]? = some ((flatK encRef 2 l.toArray)[t]!) := by
      rw [Array.getElem?_toList, getElem!_pos _ t (by simpa using ht)]
      exact Array.getElem?_eq_getElem (by simpa using ht)
    rw [h1, get_flatK _ _ _ _ (by simpa using ht)]
    have hk : t / 2 < l.length := by omega
    have hd : (l.toArray)[t / 2]! = l[t / 2] := by rw [getElem!_pos _ _ (by simpa using hk)]; simp
    rw [hd]
    obtain ⟨c0, c1⟩ := refC_at l (t / 2) hk
    rcases (show t % 2 = 0 ∨ t % 2 = 1 by omega) with e | e
    · rw [show t / 2 * 2 = t by omega] at c0
      rw [c0, e]; rfl
    · rw [show t / 2 * 2 + 1 = t by omega] at c1
      rw [c1, e]; rfl
  · rw [List.getElem?_eq_none (by simp; omega), List.getElem?_eq_none (by rw [refC_len]; omega)]

theorem put_flat (F : Array Value) (cur : Array Value) (h : F.size ≤ cur.size) : (putCells id 0 F cur).toList = F.toList ++ cur.toList.drop F.size := by
  apply List.ext_getElem?
  intro t
  rw [Array.getElem?_toList]
  unfold putCells
  rw [Array.getElem?_mapIdx]
  by_cases ht : t < F.size
  · rw [List.getElem?_append_left (by simpa using ht), Array.getElem?_eq_getElem (by omega : t < cur.size)]
    simp [ht]
  · rw [List.getElem?_append_right (by simpa using ht)]
    simp only [Array.length_toList, List.getElem?_drop]
    rw [show F.size + (t - F.size) = t by omega, Array.getElem?_toList]
    cases cur[t]? with
    | none => rfl
    | some y => simp [ht]

def SortPost (B : Nat) (l : List Ref) (u : Value) (w : World) (e : Ending) (w' : World) : Prop :=
  e = .returned (.tuple #[]) ∧ w'.ownsRow B 30 2 u l.length (refC (sortR l)) ∧ w.grownBy w' u.ownBlock

theorem sortR_len (l : List Ref) : (sortR l).length = l.length := by unfold sortR; exact List.length_mergeSort l

theorem sortRef (B : Nat) (l : List Ref) (u : Value) (w : World) (hown : w.ownsRow B 30 2 u l.length (refC l)) (hl : l.length ≤ 100000) :
    Calls Try.prog 14 #[u, .func (.func 15) #[] #[]] w (SortPost B l u w) := by
  rcases hown.2 with ⟨rfl, h0⟩ | ⟨g, cap, cur, rfl, hg, hh, hnc, hcm, hcs, htk⟩
  · obtain rfl : l = [] := by simpa using h0
    have h := AnyF.slices_SortFunc_none Try.sortRef none 0 (.func (.func 15) #[] #[]) w
    refine Calls.mono (P := Try.prog) (f := 14) h ?_
    rintro e w' ⟨rfl, rfl⟩
    exact ⟨rfl, by simpa [sortR] using hown, ⟨rfl, rfl, rfl, Nat.le_refl _, fun _ _ _ => rfl⟩⟩
  · have hglt := (Array.getElem?_eq_some_iff.1 hh).1
    have eg : ∀ args w, (callFunc 15 args).run Try.prog w = .ok (.enter 15 args) w := enters_of Try.func15 (by kernel_rfl) rfl
    have hH : HoldsK encRef 2 w g 0 l.toArray := by
      intro j hj
      have hj' : j < l.length * 2 := by simpa using hj
      have h1 : cur[j]? = some ((flatK encRef 2 l.toArray)[j]!) := by
        have hsz0 : (flatK encRef 2 l.toArray).size = l.length * 2 := by simp
        have e := congrArg (fun m : List Value => m[j]?) (htk.trans (flat_refC l).symm)
        simp only [List.getElem?_take] at e
        rw [if_pos hj', Array.getElem?_toList, Array.getElem?_toList] at e
        rw [e, getElem!_pos (flatK encRef 2 l.toArray) j (by simpa using hj')]
        exact Array.getElem?_eq_getElem (by simpa using hj')
      refine ⟨?_, ?_⟩
      · simp [World.cell?, hh, h1]
      · simp [World.frozen?, hh]
    have h := AnyQ.slices_SortFunc_total Try.sortRef 2 Try.isAgg30 Try.sizeOf30 encRef (fun _ => rfl) (fun x v hv => by simp [encRef] at hv; rcases hv with rfl | rfl <;> rfl) cmpRef swoRef 15 #[] g 0 cap l.toArray w eg (cmpLaysRef g 0 _ w) hH hglt (by simp; omega) totRef
    refine Calls.mono (P := Try.prog) (f := 14) h ?_
    rintro e w' ⟨rfl, n, os, rfl⟩
    have hF : (flatK encRef 2 (sortR l).toArray).toList = refC (sortR l) := flat_refC _
    have hsz : (flatK encRef 2 (sortR l).toArray).size = l.length * 2 := by rw [size_flatK]; simp [sortR_len]
    have hblk : (sortWorldK encRef 2 w g 0 n (sortR l).toArray os).heap[g]? = some (.cells (putCells id 0 (flatK encRef 2 (sortR l).toArray) cur) 30 (0, 0)) := by
      unfold sortWorldK grow putRowK putRow mapBlock
      simp only
      rw [Array.getElem?_append_left (by simpa [Sort.ahead] using hglt), Array.getElem?_modify, if_pos rfl]
      show Option.map _ w.heap[g]? = _
      rw [hh]; rfl
    refine ⟨rfl, ⟨by rw [refC_len, sortR_len], .inr ⟨g, cap, _, rfl, hg, hblk, hnc, hcm, by rw [← hcs]; simp [putCells], ?_⟩⟩, ?_⟩
    · rw [put_flat _ _ (by rw [hsz, hcs]; exact Nat.mul_le_mul_right _ hnc), List.take_append_of_le_length (by simp [hsz]), hF]
      exact List.take_of_length_le (by rw [refC_len, sortR_len]; omega)
    · refine ⟨rfl, rfl, rfl, ?_, fun k hk hne => ?_⟩
      · unfold sortWorldK; simp [putRowK, putRow, mapBlock, Sort.ahead]
      · have hkg : g ≠ k := fun e => hne (by rw [← e]; rfl)
        unfold sortWorldK grow putRowK putRow mapBlock
        simp only
        rw [Array.getElem?_append_left (by simpa [Sort.ahead] using hk), Array.getElem?_modify, if_neg hkg]
        rfl
end At
end Go.Proofs.Ythkdeljlhplkgaa
