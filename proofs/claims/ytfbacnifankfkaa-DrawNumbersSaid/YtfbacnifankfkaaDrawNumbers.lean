/- For every n and every slice of coins the law DrawNumbers returns true, and its arguments read afterwards as before. No condition. -/
import Derived.Test.YtfbacnifankfkaaDrawCoins
import Derived.SizedLaws
import Derived.OpenShut
import Derived.ChangeOld
import Derived.Carry
namespace Go.Proofs.Ytfbacnifankfkaa
open Go.ChangeShapes Go.WideShapes Go.ChangeAt Go.RowKit

namespace DrawNumbers
theorem first (w : World) : Calls Try.prog 15 #[.int .i64 3, .slice (some ⟨w.heap.size, 0, none⟩) 4 4] (w.alloc (.cells #[.bool true, .bool true, .bool true, .bool false] 4)) fun e w' => e = .returned (.tuple #[.int .i64 2, .int .i64 4, .int .i64 0]) ∧ (w.alloc (.cells #[.bool true, .bool true, .bool true, .bool false] 4)) = w' := by
  have h := number 3 (.slice (some ⟨w.heap.size, 0, none⟩) 4 4) [true, true, true, false] (w.alloc (.cells #[.bool true, .bool true, .bool true, .bool false] 4)) ?_ (by simp) (by omega) (by omega)
  · have e : Draw.num (3 : Int).toNat [true, true, true, false] = some (2, 4) := by decide
    rw [e] at h
    exact h
  · refine ⟨_, 4, rfl, by simp [bools], by decide, fun i hi => ⟨_, rfl, ?_⟩⟩
    simp [bools] at hi
    match i, hi with
    | 0, _ => simp [bools, go_sem]
    | 1, _ => simp [bools, go_sem]
    | 2, _ => simp [bools, go_sem]
    | 3, _ => simp [bools, go_sem]

set_option maxHeartbeats 400000 in
theorem walk (n : Int) (v : Value) (l : List Bool) (w : World) (hv : Sl w v (bools l)) (hL : l.length ≤ 140737488355328) :
    Calls Try.prog 3 #[.int .i64 n, v] w fun e w' => e = .returned (.bool true) ∧ Below w.heap.size w w' := by
  by_cases h : 1 ≤ n ∧ n ≤ 1000000000
  · obtain ⟨h1, h2⟩ := h
    have hv' : Sl (w.alloc (.cells #[.bool true, .bool true, .bool true, .bool false] 4)) v (bools l) := hv.keep ((Below.refl w.heap.size w).alloc (Nat.le_refl _) _)
    have HN := Lib.hid (number n v l _ hv' hL h1 h2)
    have HC := Lib.hid (coins n v l _ hv' hL h1 h2)
    clear hv hv'
    have h3 : ¬ n < 1 := by omega
    have h4 : ¬ 1000000000 < n := by omega
    cases hr : Draw.num n.toNat l with
    | none =>
      rw [hr] at HN HC
      clear hr
      simp only [numRes, coinRes] at HN HC
      go_enter Try.func3, Try.ntmps3
      go_wp2_with fail
      refine (first w).mono ?_
      rintro e w' ⟨rfl, rfl⟩
      go_wp2_with fail
      refine HN.out.mono ?_
      rintro e w' ⟨rfl, rfl⟩
      go_wp2_with fail
      refine HC.out.mono ?_
      rintro e w' ⟨rfl, rfl⟩
      go_wp2_with fail
      go_ret
      exact ⟨rfl, (Below.refl _ _).alloc (Nat.le_refl _) _⟩
    | some x =>
      obtain ⟨x, u⟩ := x
      rw [hr] at HN HC
      clear hr
      simp only [numRes, coinRes] at HN HC
      go_enter Try.func3, Try.ntmps3
      go_wp2_with fail
      refine (first w).mono ?_
      rintro e w' ⟨rfl, rfl⟩
      go_wp2_with fail
      refine HN.out.mono ?_
      rintro e w' ⟨rfl, rfl⟩
      go_wp2_with fail
      refine HC.out.mono ?_
      rintro e w' ⟨rfl, rfl⟩
      go_wp2_with fail
      go_ret
      exact ⟨rfl, (Below.refl _ _).alloc (Nat.le_refl _) _⟩
  · have h' : n < 1 ∨ 1000000000 < n := by omega
    have HN := Lib.hid (number_arg n v (w.alloc (.cells #[.bool true, .bool true, .bool true, .bool false] 4)) h')
    clear hv h
    rcases h' with h' | h'
    · go_enter Try.func3, Try.ntmps3
      go_wp2_with fail
      refine (first w).mono ?_
      rintro e w' ⟨rfl, rfl⟩
      go_wp2_with fail
      refine HN.out.mono ?_
      rintro e w' ⟨rfl, rfl⟩
      go_wp2_with fail
      go_ret
      exact ⟨rfl, (Below.refl _ _).alloc (Nat.le_refl _) _⟩
    · have h3 : ¬ n < 1 := by omega
      go_enter Try.func3, Try.ntmps3
      go_wp2_with fail
      refine (first w).mono ?_
      rintro e w' ⟨rfl, rfl⟩
      go_wp2_with fail
      refine HN.out.mono ?_
      rintro e w' ⟨rfl, rfl⟩
      go_wp2_with fail
      go_ret
      exact ⟨rfl, (Below.refl _ _).alloc (Nat.le_refl _) _⟩

theorem own : ownKnob Try.prog.godebug = none := by kernel_rfl
theorem laidOut : laidOutB Try.prog = true := by kernel_rfl

set_option maxRecDepth 100000 in
theorem lifted (os : Os) (started : os.Started) (H : Type) (enc : TypeId × Value → H) :
    ReturnsInHanded {} Try.checked os 3 .any (Rows.drawNumbersSpec.pre6 enc Try.prog Try.f3 Rows.drawNumbersRow.domain false) (Rows.drawNumbersSpec.post enc Try.prog Try.f3 false true false false) := by
  refine returnsInHanded_of_change_sized (C := Try.checked) own started (by kernel_rfl) Try.func3
    (ChangeSpec.witness6 (enc := enc) (C := Try.checked) false ⟨#[], #[.int .i64 0, .slice none 0 0], []⟩ 8 (by kernel_rfl) (by kernel_rfl) (by kernel_rfl) (by kernel_rfl)) ?_
  intro W base args ds gs before hval0 hW hcnd hsz0 _
  have hval : ∀ (j : Nat) t v, Try.f3.params[j]? = some t → args[j]? = some v → Value.okWide Try.prog W .any base t v := hval0
  have hW' := hW
  obtain ⟨p, q, hA0, hV, rfl, hfz, hnd⟩ := hW
  have hA : DataW.TrodAll enc Try.prog W 0 (fun _ => true) true Try.f3.params.toList args.toList ds p := hA0
  have hsz : (DataW.weightsEach Try.prog (Try.f3.params.toList ++ Rows.drawNumbersSpec.plain.varTypes Try.prog) (ds ++ gs)).all (· ≤ reachBytes) = true := hsz0
  rw [Try.params3] at hA hval hsz
  obtain ⟨v0, vs0, d0, ds0, p0, q0, hargs, rfl, rfl, h0, r0⟩ := trodAll_cons hA
  obtain ⟨v1, vs1, d1, ds1, p1, q1, rfl, rfl, rfl, h1, r1⟩ := trodAll_cons r0
  obtain ⟨rfl, rfl, rfl⟩ := trodAll_nil r1
  obtain rfl : args = #[v0, v1] := by cases args; simp_all
  obtain ⟨rfl, rfl⟩ := trodVars_none hV
  have lt0 : ∀ x ∈ p0, x.block < W.heap.size := by obtain ⟨m, hm⟩ := h0; exact DataW.trod_lt m _ _ _ hm
  have lt1 : ∀ x ∈ p1, x.block < W.heap.size := by obtain ⟨m, hm⟩ := h1; exact DataW.trod_lt m _ _ _ hm
  have k0 := h0
  have k1 := h1
  obtain ⟨x0, rfl, rfl, rfl, w0⟩ := open_int Try.underlying3 (hval 0 3 v0 rfl rfl) h0
  obtain ⟨a1, len1, cap1, rfl⟩ := okWide_slice Try.underlying22 (hval 1 22 v1 rfl rfl)
  obtain ⟨l1, s1, _, e1⟩ := open_sl (α := Bool) Value.bool (fun z => .lit (.bool z)) (fun _ => True) Try.underlying22 (by kernel_rfl) (el_bool Try.underlying4) h1 rfl
  have b1 : l1.length ≤ 140737488355328 := by
    rcases e1 with ⟨_, rfl⟩ | ⟨sp, rfl⟩
    · simp
    · have := sized_slice hsz (j := 1) (t := 22) (e := 4) rfl rfl Try.underlying22
      rw [show Try.prog.bytesOf 4 = 1 by kernel_rfl] at this
      simp only [List.length_map, reachBytes] at this
      omega
  clear hA0 hval0
  refine (walk x0 _ l1 W s1 b1).mono fun e W' ⟨he, bel⟩ => ?_
  subst he
  exact ⟨_, rfl, _, _, _, [], _, [], hW', trodAll_mk1 (shut_bool Try.underlying4 _), (trodAll_cons_mk (Below.trod laidOut (by kernel_rfl) (of_decide_eq_true (by kernel_rfl)) k0 bel lt0) (trodAll_cons_mk (Below.trod laidOut (by kernel_rfl) (of_decide_eq_true (by kernel_rfl)) k1 bel lt1) trodAll_mk0)), rfl, bel.frame _, fun h => by cases h⟩

theorem over : Rows.drawNumbersRow.holds Try.pinned (OpenSpec.ofChange Rows.drawNumbersSpec) :=
  OpenClaim.holds_of_wide 3 Try.f3 rfl rfl rfl rfl rfl rfl rfl ⟨rfl, rfl, rfl, rfl, rfl⟩ rfl rfl rfl rfl rfl (by kernel_rfl) Try.func3 (by kernel_rfl)
    (of_decide_eq_true (by kernel_rfl)) (by unfold Func.isWrapper; first | (rw [if_pos (by decide +kernel)]; kernel_rfl) | (rw [if_neg (by decide +kernel)]; exact ⟨rfl, rfl⟩))
    (fun os started H enc _ => lifted os started H enc)
end DrawNumbers
theorem drawNumbers_holds : Rows.DrawNumbersSaid := DrawNumbers.over
#print axioms drawNumbers_holds
end Go.Proofs.Ytfbacnifankfkaa
