/- edit.apply. -/
import Derived.Test.YtjehmleckcmilaaSlicesTwo
import Derived.StillTailTactics
import Derived.Deep.RegionHeld3
import Derived.RegionTactic
namespace Go.Proofs.Ytjehmleckcmilaa
open Go.RowKit

/-- the value of an edit -/
def edV (f t : Int) (nv : Value) : Value := .agg #[.int .i64 f, .int .i64 t, nv]

/-- the word behind an edit -/
def edited (l : List Int) (f t : Nat) (n : List Int) : List Int := l.take f ++ n ++ l.drop t

theorem edited_flatten (l : List Int) (f t : Nat) (n : List Int) : edited l f t n = [l.take f, n, l.drop t].flatten := by simp [edited]

set_option maxHeartbeats 1000000 in
set_option maxRecDepth 100000 in
theorem apply_in (a : Option Addr) (cap : Nat) (l : List Int) (f t : Nat) (an : Option Addr) (cn : Nat) (n : List Int) (w : World) (hl : Sl w (.slice a l.length cap) (ints l)) (hn : Sl w (.slice an n.length cn) (ints n)) (hft : f ≤ t) (ht : t ≤ l.length)
    (hb : (f + n.length + (l.length - t)) * 8 ≤ 140737488355328) :
    Calls Try.prog 107 #[.slice a l.length cap, .agg #[.int .i64 f, .int .i64 t, .slice an n.length cn]] w (NewInts (edited l f t n) w) := by
  have hc := hl.len.2
  unfold maxLen at hc
  obtain ⟨hc1, hc2⟩ := hc
  obtain ⟨vs, HVS, HSL⟩ : ∃ vs, Hid (vs = Value.slice (if cap = t then a else a.map fun x => x.add t) (l.length - t) (cap - t)) ∧ Hid (Sl w vs (ints (l.drop t))) := by
    refine ⟨_, rfl, ?_⟩
    have e : ints (l.drop t) = ((ints l).drop t).take (l.length - t) := by rw [List.take_of_length_le (by simp [ints])]; simp [ints]
    rw [e]
    exact hl.part ht (Nat.le_refl _)
  have HST : Hid (Sl w (.slice a f cap) (ints (l.take f))) := by
    have e : ints (l.take f) = (ints l).take f := by simp [ints]
    rw [e]; exact hl.start (by omega)
  have HN := Lib.hid hn
  have h1 : (f : Int) ≤ (cap : Int) := by omega
  have h2 : (t : Int) ≤ (l.length : Int) := by omega
  have HF := Lib.hid (edited_flatten l f t n)
  have HLN : Hid (lens [l.take f, n, l.drop t] * 8 ≤ 140737488355328) := by
    show _ ≤ _
    simp [lens]; omega
  have hB := (Below.refl w.heap.size w).alloc (Nat.le_refl _) (.cells #[.int .i64 f, .int .i64 t, .slice an n.length cn] 67)
  clear hl hn
  by_cases hct : cap = t
  all_goals
    first | (rw [if_pos hct] at HVS; subst hct; rw [show l.length - cap = 0 by omega, Nat.sub_self] at HVS) | rw [if_neg hct] at HVS
    go_enter Try.func107, Try.ntmps107
    go_wp2
    refine wp_region_still_tail 10 (by kernel_rfl) (by kernel_rfl) ?_
    simp only [List.take_succ_cons, List.take_zero, List.drop_succ_cons, List.drop_zero]
    change wpStill _ _ (World.drew _) _ _ _
    repeat still_step
    refine wpStill_nil ?_
    change wpList _ _ _ _ _ (World.drew _)
    go_wp2_with fail
    refine (concat3 (w.alloc _) _ _ _ _ _ (l.take f) n (l.drop _) (by simp) (HST.out.keep hB) (HN.out.keep hB) (by have h := HSL.out; rw [HVS.out] at h; exact h.keep hB) HLN.out).mono ?_
    rintro e w1 ⟨a1, k1, rfl, ho, hb1⟩
    rw [← HF.out] at ho ⊢
    have HO := Lib.hid (ho.mono hB.size)
    have HB := Lib.hid (hB.trans (hb1.mono hB.size))
    clear ho hb1
    go_wp2
    go_ret
    exact newInts_of HO.out HB.out

end Go.Proofs.Ytjehmleckcmilaa
