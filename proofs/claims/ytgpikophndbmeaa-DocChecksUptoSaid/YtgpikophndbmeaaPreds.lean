/- slices.Index, Contains, IndexFunc and ContainsFunc of whole numbers. -/
import Derived.Test.YtgpikophndbmeaaSlicesTwo
import Derived.Deep.LoopGhost
import Derived.Deep.Cut
import Derived.Shelf.Abstract
namespace Go.Proofs.Ytgpikophndbmeaa
open Go.RowKit

/-- a condition of numbers, as a function value -/
def PredAt (g : Nat) (lb : Array Value) (l : List Int) (p : Int → Bool) (w : World) : Prop :=
  ∀ (W : World) (x : Int), x ∈ l → Below w.heap.size w W → Calls Try.prog g (#[.int .i64 x] ++ lb) W fun e w' => e = .returned (.bool (p x)) ∧ Below W.heap.size W w'
def idxBy (p : Int → Bool) (l : List Int) : Int := if l.any p then (l.findIdx p : Int) else -1
theorem idxBy_hit {p : Int → Bool} {l : List Int} {i : Nat} (hi : i < l.length) (h : p l[i] = true) (hn : ∀ j (h : j < l.length), j < i → p l[j] = false) : idxBy p l = i := by
  have h1 : l.any p = true := List.any_eq_true.2 ⟨l[i], List.getElem_mem hi, h⟩
  rw [idxBy, if_pos h1]
  have : l.findIdx p = i := by
    rw [List.findIdx_eq hi]
    exact ⟨h, fun j hj => by simp [hn j (by omega) hj]⟩
  rw [this]
theorem idxBy_none {p : Int → Bool} {l : List Int} (hn : ∀ j (h : j < l.length), p l[j] = false) : idxBy p l = -1 := by
  have h1 : l.any p = false := by
    rw [List.any_eq_false]
    intro x hx
    obtain ⟨j, hj, rfl⟩ := List.getElem_of_mem hx
    simp [hn j hj]
  rw [idxBy, if_neg (by simp [h1])]
theorem idxBy_ge (p : Int → Bool) (l : List Int) : decide (0 ≤ idxBy p l) = l.any p := by
  unfold idxBy
  cases h : l.any p <;> simp [h]

set_option maxHeartbeats 1000000 in
theorem indexInt (a : Option Addr) (cap : Nat) (l : List Int) (x : Int) (w : World) (hl : Sl w (.slice a l.length cap) (ints l)) :
    Calls Try.prog 36 #[.slice a l.length cap, .int .i64 x] w fun e w' => e = .returned (.int .i64 (idxBy (fun y => x == y) l)) ∧ w = w' := by
  have HL := Lib.hid hl
  have hc := hl.len.2
  unfold maxLen at hc
  obtain ⟨hc1, hc2⟩ := hc
  clear hl
  go_enter Try.func36, Try.ntmps36
  go_wp2
  go_loopg [8] l.length (fun gg v8 wr => ∃ i : Nat, i ≤ l.length ∧ l.length - i ≤ gg ∧ v8 = .int .i64 i ∧ wr = w ∧ Hid (∀ j (h : j < l.length), j < i → (x == l[j]) = false))
  case atStart => exact ⟨0, by omega, by omega, rfl, rfl, fun j _ hj => by omega⟩
  case round =>
    obtain ⟨i, hi, hg, rfl, rfl, HN⟩ := hrel
    by_cases hlt : i < l.length
    · have hlt' : (i : Int) < (l.length : Int) := by omega
      obtain ⟨ba, oa, hae, hca⟩ := HL.out.at hlt
      have c1 := hca i (by rw [ints_len]; exact hlt)
      rw [ints_get] at c1
      obtain ⟨y, HX⟩ := nameIt (l[i]'hlt)
      rw [HX.out] at c1
      subst hae
      clear hca
      cases hp : (x == y) with
      | true =>
        have HE : Hid (idxBy (fun y => x == y) l = i) := idxBy_hit hlt (by rw [HX.out]; exact hp) HN.out
        go_wp2
        go_ret
        exact ⟨by rw [HE.out]; rfl, rfl⟩
      | false =>
        have HN2 : Hid (∀ j (h : j < l.length), j < i + 1 → (x == l[j]) = false) := by
          intro j h hj
          by_cases e : j = i
          · subst e; rw [HX.out]; exact hp
          · exact HN.out j h (by omega)
        go_wp2
        go_roundg (l.length - (i + 1))
        case measure => omega
        case rel => exact ⟨i + 1, by omega, by omega, by go_num, rfl, HN2⟩
    · have hlt' : ¬ (i : Int) < (l.length : Int) := by omega
      have HE : Hid (idxBy (fun y => x == y) l = -1) := idxBy_none fun j hj => HN.out j hj (by omega)
      go_wp2
      go_ret
      exact ⟨by rw [HE.out]; rfl, rfl⟩

set_option maxHeartbeats 1000000 in
theorem containsInt (a : Option Addr) (cap : Nat) (l : List Int) (x : Int) (w : World) (hl : Sl w (.slice a l.length cap) (ints l)) :
    Calls Try.prog 30 #[.slice a l.length cap, .int .i64 x] w fun e w' => e = .returned (.bool (l.any fun y => x == y)) ∧ w = w' := by
  have HL := Lib.hid hl
  clear hl
  go_enter Try.func30, Try.ntmps30
  go_wp2_with fail
  refine (indexInt a cap l x w HL.out).mono ?_
  rintro e w1 ⟨rfl, rfl⟩
  go_wp2
  go_ret
  exact ⟨by rw [idxBy_ge]; rfl, rfl⟩
end Go.Proofs.Ytgpikophndbmeaa
