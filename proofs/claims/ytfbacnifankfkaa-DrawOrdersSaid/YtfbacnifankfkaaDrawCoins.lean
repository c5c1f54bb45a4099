/- The contract of parlref5.Coins. -/
import Derived.Test.YtfbacnifankfkaaDrawWalk
namespace Go.Proofs.Ytfbacnifankfkaa
open Go.RowKit

def coinRes : Option (Nat × Nat) → Value
  | some (x, u) => .tuple #[.int .i64 x, .int .i64 u, .bool true]
  | none => .tuple #[.int .i64 0, .int .i64 0, .bool false]

set_option maxHeartbeats 400000 in
theorem coins_two (n : Nat) (b off : Nat) (cap : Nat) (l : List Bool) (w : World) (hcell : ∀ i (h : i < l.length), w.cell? ⟨b, off + i, none⟩ = some (.bool l[i])) (hlc : l.length ≤ cap) (hL : l.length ≤ 140737488355328) (h1 : 2 ≤ n) (h2 : n ≤ 1000000000) :
    Calls Try.prog 16 #[.int .i64 n, .slice (some ⟨b, off, none⟩) l.length cap] w fun e w' => e = .returned (coinRes (Draw.num n l)) ∧ w = w' := by
  have HC := Lib.hid hcell
  clear hcell
  go_enter Try.func16, Try.ntmps16
  go_wp2
  go_loop [7, 8] (fun t p => ∃ k x : Nat, k ≤ 30 ∧ t = .int .i64 k ∧ p = .int .i64 x ∧ x ≤ 1073741824 ∧ Hid (x = 2 ^ k) ∧ Hid (∀ j, j < k → 2 ^ j < n)) (fun t _ => 30 - (intOf t).toNat)
  case atStart => exact ⟨0, 1, by omega, rfl, rfl, by omega, rfl, fun j hj => by omega⟩
  case round =>
    obtain ⟨k, x, hk, rfl, rfl, hx, HX, HJ⟩ := hrel
    by_cases hxn : x < n
    · have hk' : k < 30 := by
        rcases Nat.lt_or_ge k 30 with h5 | h5
        · exact h5
        · obtain rfl : k = 30 := by omega
          have := HX.out; simp at this; omega
      go_wp2
      refine ⟨⟨k + 1, x * 2, by omega, by go_num, by go_num, ?_, ?_, fun j hj => ?_⟩, by simp [intOf]; omega⟩
      · have := pow30 (k := k + 1) (by omega)
        rw [HX.out, ← Nat.pow_succ]; exact this
      · show _ = _; rw [HX.out, ← Nat.pow_succ]
      · rcases Nat.lt_or_ge j k with h5 | h5
        · exact HJ.out j h5
        · obtain rfl : j = k := by omega
          rw [← HX.out]; exact hxn
    · have HN := Lib.hid (Draw.need_eq (n := n) (k := k) (by rw [← HX.out]; omega) HJ.out)
      have hk1 : 1 ≤ k := by
        rcases Nat.eq_zero_or_pos k with h5 | h5
        · subst h5; have := HX.out; simp at this; omega
        · exact h5
      clear HX HJ
      go_wp2
      go_loop [9] (fun t => ∃ i : Nat, t = .int .i64 i ∧ i ≤ l.length + 1 ∧ i * k ≤ l.length + k ∧ Hid (∀ j, j < i → Draw.good n k l j = false)) (fun t => l.length + 2 - (intOf t).toNat)
      case atStart => exact ⟨0, by go_num, by omega, by omega, fun j hj => by omega⟩
      case round =>
        obtain ⟨i, rfl, hi, hik, HB⟩ := hrel
        have e1 : (i + 1) * k = i * k + k := Nat.succ_mul i k
        have hiq : i ≤ i * k := by have := Nat.mul_le_mul_left i hk1; omega
        generalize hU : i * k = q at *
        have E1 := Lib.hid e1
        have HU := Lib.hid hU
        have hm : (i : Int) * (k : Int) = (q : Int) := by rw [← hU]; simp
        have hm2 : ((i : Int) + 1) * (k : Int) = (q : Int) + (k : Int) := by rw [Int.add_mul, hm]; omega
        clear hU e1
        by_cases hlt : q + k ≤ l.length
        · have hne : ¬ cap = q := by omega
          go_wp2
          go_loop [11, 38] (fun x t => ∃ j : Nat, j ≤ k ∧ t = .int .i64 j ∧ ∃ y : Nat, x = .int .i64 y ∧ y ≤ 1073741824 ∧ Hid (y = Draw.val ((Draw.chunk k l i).take j) * 2 ^ (k - j))) (fun _ t => k - (intOf t).toNat)
          case atStart => exact ⟨0, by omega, rfl, 0, rfl, by omega, by show 0 = _; simp [Draw.val]⟩
          case round =>
            obtain ⟨j, hj, rfl, y, rfl, hy, HY⟩ := hrel
            by_cases hjk : j < k
            · have hx : q + j < l.length := by omega
              have hcx := HC.out (q + j) hx
              rw [← Nat.add_assoc] at hcx
              have hs : Hid (∀ c, l[q + j] = c → Draw.val ((Draw.chunk k l i).take (j + 1)) * 2 ^ (k - (j + 1)) = y + cond c (2 ^ (k - 1 - j)) 0 ∧ Draw.val ((Draw.chunk k l i).take (j + 1)) * 2 ^ (k - (j + 1)) ≤ 1073741824) := by
                intro c hc
                have hcl : (Draw.chunk k l i).length = k := by unfold Draw.chunk; rw [HU.out]; simp; omega
                have e3 : (Draw.chunk k l i)[j]'(by omega) = c := by
                  rw [← hc]; unfold Draw.chunk; simp [HU.out]
                have e4 : k - j = (k - 1 - j) + 1 := by omega
                have e5 : k - (j + 1) = k - 1 - j := by omega
                constructor
                · rw [take_snoc (by omega), Draw.val_snoc, e3, HY.out, e4, e5, Nat.pow_succ, Nat.add_mul, Nat.mul_comm 2, Nat.mul_assoc, Nat.mul_comm 2]
                  cases c <;> simp
                · have h5 := Draw.val_lt ((Draw.chunk k l i).take (j + 1))
                  have h6 : ((Draw.chunk k l i).take (j + 1)).length = j + 1 := by simp; omega
                  rw [h6] at h5
                  have h7 : 2 ^ (j + 1) * 2 ^ (k - (j + 1)) = 2 ^ k := by rw [← Nat.pow_add]; congr 1; omega
                  have h8 := Nat.mul_le_mul_right (2 ^ (k - (j + 1))) (Nat.le_of_lt h5)
                  rw [h7] at h8
                  exact Nat.le_trans h8 (pow30 hk)
              have HP := Lib.hid (wrap_pow (k := k - 1 - j) (by omega))
              generalize hc : l[q + j] = c at *
              have HS := Lib.hid (hs.out c rfl)
              clear hs hc
              cases c
              all_goals
                go_wp2
                refine ⟨⟨j + 1, by omega, by go_num, _, ?_, HS.out.2, rfl⟩, by simp [intOf]; omega⟩
                have h5 := HS.out.1
                have h6 := HS.out.2
              · rw [h5]; simp
              · rw [HP.out, h5]
                rw [h5] at h6
                simp only [cond_true] at h6 ⊢
                generalize 2 ^ (k - 1 - j) = z at *
                rw [IntWalk.wrap64_in _ ⟨by omega, by omega⟩]; go_num
            · have hjk' : j = k := by omega
              have HJ := Lib.hid hjk'
              clear hjk'
              have hyv : Hid (y = Draw.val (Draw.chunk k l i)) := by
                have h5 := HY.out
                rw [HJ.out, List.take_of_length_le (by unfold Draw.chunk; simp; omega)] at h5
                show _ = _
                simpa using h5
              clear HY
              have hgood := good_eq (n := n) (k := k) (i := i) (l := l) (by rw [E1.out]; exact hlt)
              rw [← hyv.out] at hgood
              have HG := Lib.hid hgood
              clear hgood
              by_cases hyn : y < n
              · go_wp2
                go_ret3
                refine ⟨?_, rfl⟩
                rw [Draw.num_some (i := i) HN.out (by omega) (by rw [HG.out]; simpa using hyn) HB.out, ← hyv.out, E1.out]
                simp [coinRes]
              · go_wp2
                refine ⟨⟨i + 1, by go_num, by omega, by rw [E1.out]; omega, ?_⟩, by simp [intOf]; omega⟩
                intro j' hj'
                rcases Nat.lt_or_ge j' i with h5 | h5
                · exact HB.out j' h5
                · obtain rfl : j' = i := by omega
                  rw [HG.out]; simpa using hyn
        · have HE : Hid (Draw.num n l = none) := by
            refine Draw.num_none HN.out fun j hj => ?_
            rcases Nat.lt_or_ge j i with h5 | h5
            · exact HB.out j h5
            · exact bad_far hk1 (by rw [E1.out]; omega) j h5
          go_wp2
          all_goals
            go_ret3
            rw [HE.out]
            exact ⟨rfl, rfl⟩

set_option maxHeartbeats 400000 in
theorem coins_nil (n : Nat) (a : Option Addr) (cap : Nat) (w : World) (h1 : 2 ≤ n) (h2 : n ≤ 1000000000) :
    Calls Try.prog 16 #[.int .i64 n, .slice a 0 cap] w fun e w' => e = .returned (coinRes (Draw.num n [])) ∧ w = w' := by
  have HE : Hid (Draw.num n [] = none) := by
    refine Draw.num_none rfl fun j hj => ?_
    have := (Draw.need_spec n).1
    have h5 : 0 < Draw.need n := by
      rcases Nat.eq_zero_or_pos (Draw.need n) with h5 | h5
      · rw [h5] at this; simp at this; omega
      · exact h5
    have h6 := Nat.mul_pos (show 0 < j + 1 by omega) h5
    simp [Draw.good]; omega
  go_enter Try.func16, Try.ntmps16
  go_wp2
  go_loop [7, 8] (fun t p => ∃ k x : Nat, k ≤ 30 ∧ t = .int .i64 k ∧ p = .int .i64 x ∧ x ≤ 1073741824 ∧ Hid (x = 2 ^ k)) (fun t _ => 30 - (intOf t).toNat)
  case atStart => exact ⟨0, 1, by omega, rfl, rfl, by omega, rfl⟩
  case round =>
    obtain ⟨k, x, hk, rfl, rfl, hx, HX⟩ := hrel
    by_cases hxn : x < n
    · have hk' : k < 30 := by
        rcases Nat.lt_or_ge k 30 with h5 | h5
        · exact h5
        · obtain rfl : k = 30 := by omega
          have := HX.out; simp at this; omega
      go_wp2
      refine ⟨⟨k + 1, x * 2, by omega, by go_num, by go_num, ?_, ?_⟩, by simp [intOf]; omega⟩
      · have := pow30 (k := k + 1) (by omega)
        rw [HX.out, ← Nat.pow_succ]; exact this
      · show _ = _; rw [HX.out, ← Nat.pow_succ]
    · have hk1 : 1 ≤ k := by
        rcases Nat.eq_zero_or_pos k with h5 | h5
        · subst h5; have := HX.out; simp at this; omega
        · exact h5
      clear HX
      go_wp2
      refine wp_loop_rounds 1 ?_
      rw [rounds_succ]
      go_wp2
      all_goals
        go_ret3
        rw [HE.out]
        exact ⟨rfl, rfl⟩

theorem coins_one (a : Option Addr) (len cap : Nat) (w : World) (hlc : len ≤ cap) (hL : len ≤ 140737488355328) :
    Calls Try.prog 16 #[.int .i64 1, .slice a len cap] w fun e w' => e = .returned (coinRes (some (0, 0))) ∧ w = w' := by
  go_enter Try.func16, Try.ntmps16
  go_wp2
  refine wp_loop_rounds 1 ?_
  rw [rounds_succ]
  go_wp2
  refine wp_loop_rounds 1 ?_
  rw [rounds_succ]
  go_wp2
  all_goals
    refine wp_loop_rounds 1 ?_
    rw [rounds_succ]
    go_wp2
    go_ret3
    exact ⟨rfl, rfl⟩

theorem coins (n : Int) (v : Value) (l : List Bool) (w : World) (hv : Sl w v (bools l)) (hL : l.length ≤ 140737488355328) (h1 : 1 ≤ n) (h2 : n ≤ 1000000000) :
    Calls Try.prog 16 #[.int .i64 n, v] w fun e w' => e = .returned (coinRes (Draw.num n.toNat l)) ∧ w = w' := by
  obtain ⟨m, rfl⟩ := Int.eq_ofNat_of_zero_le (show 0 ≤ n by omega)
  rw [Int.toNat_natCast]
  by_cases hm : m = 1
  · subst hm
    obtain ⟨a, cap, rfl, hlc, hc, _, _⟩ := hv
    rw [bools_len] at hlc ⊢
    rw [num_one]
    exact coins_one a _ cap w hlc hL
  · rcases hv.cases with ⟨hl, a, cap, rfl, hc, _⟩ | ⟨b, off, cap, rfl, h0, hlc, hc, hcell⟩
    · have e : l = [] := by simpa [bools] using hl
      subst e
      exact coins_nil m a cap w (by omega) (by omega)
    · rw [bools_len] at hlc ⊢
      exact coins_two m b off cap l w (fun i h => by rw [hcell i (by rw [bools_len]; exact h)]; simp [bools]) hlc hL (by omega) (by omega)
end Go.Proofs.Ytfbacnifankfkaa
