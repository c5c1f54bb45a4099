/- The contract of Shrunk, for whatever condition of words. -/
import Derived.Test.YtfbacnifankfkaaShrinkWalk
namespace Go.Proofs.Ytfbacnifankfkaa
open Go.RowKit

def SlPost (L : List Int) (w : World) (e : Ending) (w' : World) : Prop :=
  ∃ v, e = .returned v ∧ Sl w' v (ints L) ∧ Below w.heap.size w w'

set_option maxHeartbeats 1000000 in
set_option maxRecDepth 100000 in
theorem shrunkE (g : Nat) (lb : Array Value) (F : List Int → Bool) (eg : ∀ args w, (callFunc g args).run Try.prog w = .ok (.enter g args) w) (m : Nat) : ∀ (a : Option Addr) (cap : Nat) (x : List Int) (w : World),
    FailsAt g lb F w → Sl w (.slice a x.length cap) (ints x) → x.length ≤ 60 → x.length < m →
    Calls Try.prog 69 #[.slice a x.length cap, .func (.func g) #[] lb] w (SlPost (shrunk F m x) w) := by
  induction m with
  | zero => intro a cap x w _ _ _ h; exact absurd h (Nat.not_lt_zero _)
  | succ m ih =>
  intro ax cx x w hf hl hx hm
  have HL := Lib.hid hl
  have HF := Lib.hid hf
  have IH := Lib.hid ih
  have hc := hl.len.2
  unfold maxLen at hc
  obtain ⟨hcx1, hcx2⟩ := hc
  clear hl hf ih
  go_enter Try.func69, Try.ntmps69
  go_wp2
  go_loopg [5, 6, 9] x.length (fun gg _ _ v9 wr => ∃ (i : Nat), i ≤ x.length ∧ x.length - i ≤ gg ∧ v9 = .int .i64 i ∧ Hid (Below w.heap.size w wr) ∧ Hid (∀ j, j < i → F (del x j) = false))
  case atStart => exact ⟨0, by omega, by omega, rfl, Below.refl _ _, fun j hj => by omega⟩
  case round =>
    obtain ⟨i, hix, hg, rfl, HB, HN⟩ := hrel
    by_cases hlt : i < x.length
    · have hlt' : (i : Int) < (x.length : Int) := by omega
      obtain ⟨k, HK⟩ : ∃ k, Hid (k = i + 1) := ⟨_, rfl⟩
      have s1 : IntKind.i64.wrap ((i : Int) + 1) = (k : Int) := by rw [IntWalk.i64_in _ (by omega), HK.out]; omega
      have h1 : (i : Int) ≤ (cx : Int) := by omega
      have h2 : (k : Int) ≤ (x.length : Int) := by rw [HK.out]; omega
      have HX := Lib.hid (HL.out.keep HB.out)
      obtain ⟨vs, HVS, HSL⟩ : ∃ vs, Hid (vs = Value.slice (if cx = k then ax else ax.map fun x => x.add k) (x.length - k) (cx - k)) ∧ Hid (Sl wr vs (ints (x.drop (i + 1)))) := by
        refine ⟨_, rfl, ?_⟩
        rw [HK.out]
        have e : ints (x.drop (i + 1)) = ((ints x).drop (i + 1)).take (x.length - (i + 1)) := by rw [List.take_of_length_le (by simp [ints])]; simp [ints]
        rw [e]
        exact HX.out.part hlt (Nat.le_refl _)
      have HST : Hid (Sl wr (.slice ax i cx) (ints (x.take i))) := by
        have e : ints (x.take i) = (ints x).take i := by simp [ints]
        rw [e]; exact HX.out.start (by omega)
      have HLN : Hid (lens [x.take i, x.drop (i + 1)] * 8 ≤ 140737488355328) := by
        show _ ≤ _
        simp [lens]; omega
      obtain ⟨z, HZ⟩ : ∃ z, Hid (del x i = z) := ⟨_, rfl⟩
      have hzl : z.length + 1 = x.length := by rw [← HZ.out]; exact del_len x i hlt
      by_cases hct : cx = k
      all_goals
        first | (rw [if_pos hct] at HVS; subst hct; rw [show x.length - cx = 0 by omega, Nat.sub_self] at HVS) | rw [if_neg hct] at HVS
        go_upto_region 4 with fail
        refine wp_region_still_tail 7 (by kernel_rfl) (by kernel_rfl) ?_
        simp only [List.take_succ_cons, List.take_zero, List.drop_succ_cons, List.drop_zero]
        change wpStill _ _ (World.drew _) _ _ _
        repeat still_step
        refine wpStill_nil ?_
        change wpList _ _ _ _ _ (World.drew _)
        go_wp2_with fail
        refine (concat2d wr _ _ _ _ (x.take i) (x.drop (i + 1)) rfl HST.out (by have h := HSL.out; rw [HVS.out] at h; exact h) HLN.out).mono ?_
        rw [del_flatten, HZ.out]
        rintro e w4 ⟨a4, c4, rfl, ho4, hb4⟩
        have HO4 := Lib.hid (sl_of_own ho4)
        have HB4 := Lib.hid (HB.out.trans (hb4.mono HB.out.size))
        clear ho4 hb4
        go_wp2_with fail
        refine (HF.out w4 _ z HB4.out HO4.out).mono ?_
        rintro e w6 ⟨rfl, hb6⟩
        have HO6 := Lib.hid (HO4.out.keep hb6)
        have HB6 := Lib.hid (HB4.out.trans (hb6.mono HB4.out.size))
        clear hb6 HO4 HB4
        cases hFz : F z with
        | true =>
          have HE : Hid (shrunk F (m + 1) x = shrunk F m z) := by
            show _ = _
            rw [← HZ.out, shrunk_hit hlt (by rw [HZ.out]; exact hFz) HN.out]
          clear hFz
          go_wp2_with fail
          refine (IH.out a4 c4 z w6 (HF.out.later HB6.out) HO6.out (by omega) (by omega)).mono ?_
          rintro e w7 ⟨v7, rfl, hs7, hb7⟩
          have HS7 := Lib.hid hs7
          have HB7 := Lib.hid (HB6.out.trans (hb7.mono HB6.out.size))
          clear hs7 hb7
          go_wp2
          go_ret
          exact ⟨_, rfl, by rw [HE.out]; exact HS7.out, HB7.out⟩
        | false =>
          have HN2 : Hid (∀ j, j < i + 1 → F (del x j) = false) := by
            intro j hj
            by_cases e : j = i
            · rw [e, HZ.out]; exact hFz
            · exact HN.out j (by omega)
          clear hFz
          go_wp2
          go_roundg (x.length - (i + 1))
          case measure => omega
          case rel => exact ⟨i + 1, by omega, by omega, by have h := HK.out; simp; omega, HB6, HN2⟩
    · have HD : Hid (shrunk F (m + 1) x = x) := shrunk_end fun j hj => HN.out j (by omega)
      have hlt' : ¬ (i : Int) < (x.length : Int) := by omega
      go_wp2_with fail
      refine (clone_int _ x wr (HL.out.keep HB.out) (by omega)).mono ?_
      rintro e w3 ⟨a3, c3, rfl, ho, hb3⟩
      have HS3 := Lib.hid (sl_of_own ho)
      have HB3 := Lib.hid (HB.out.trans (hb3.mono HB.out.size))
      clear ho hb3
      go_wp2
      go_ret
      exact ⟨_, rfl, by rw [HD.out]; exact HS3.out, HB3.out⟩
end Go.Proofs.Ytfbacnifankfkaa
