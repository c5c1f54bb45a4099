/- The contracts of draw.Number and parlref5.Coins. -/
import Derived.Test.YtfbacnifankfkaaRows
import Derived.Test.YtfbacnifankfkaaLib
import Derived.Test.YtfbacnifankfkaaDraw
import Derived.Outline
import Derived.Lib.Hide
namespace Go.Proofs.Ytfbacnifankfkaa
open Go.RowKit

def bools (l : List Bool) : List Value := l.map Value.bool
def numRes : Option (Nat × Nat) → Value
  | some (x, u) => .tuple #[.int .i64 x, .int .i64 u, .int .i64 0]
  | none => .tuple #[.int .i64 0, .int .i64 0, .int .i64 5]

theorem number_arg (n : Int) (v : Value) (w : World) (h : n < 1 ∨ 1000000000 < n) :
    Calls Try.prog 15 #[.int .i64 n, v] w fun e w' => e = .returned (.tuple #[.int .i64 0, .int .i64 0, .int .i64 1]) ∧ w = w' := by
  rcases h with h | h
  · go_enter Try.func15, Try.ntmps15
    go_wp2
    go_ret3
    exact ⟨rfl, rfl⟩
  · have h' : ¬ n < 1 := by omega
    go_enter Try.func15, Try.ntmps15
    go_wp2
    go_ret3
    exact ⟨rfl, rfl⟩

theorem pow30 {k : Nat} (h : k ≤ 30) : (2 : Nat) ^ k ≤ 1073741824 := Nat.le_trans (Nat.pow_le_pow_right (by omega) h) (by decide)
theorem wrap_pow {k : Nat} (h : k ≤ 30) : wrap64 (2 ^ k) = ((2 ^ k : Nat) : Int) := by
  have h1 := pow30 h
  have e : ((2 : Int) ^ k) = ((2 ^ k : Nat) : Int) := by simp
  rw [e]
  generalize 2 ^ k = x at *
  exact IntWalk.wrap64_in _ ⟨by omega, by omega⟩

theorem bools_len (l : List Bool) : (bools l).length = l.length := by simp [bools]
theorem chunk_len {k u : Nat} {l : List Bool} (h : k ≤ u) (hu : u ≤ l.length) : ((l.drop (u - k)).take k).length = k := by simp; omega
theorem take_snoc {α : Type} {L : List α} {j : Nat} (h : j < L.length) : L.take (j + 1) = L.take j ++ [L[j]] := by
  rw [List.take_succ_eq_append_getElem h]

/-- one try, its coins at hand -/
theorem good_eq {n k i : Nat} {l : List Bool} (h : (i + 1) * k ≤ l.length) : Draw.good n k l i = decide (Draw.val (Draw.chunk k l i) < n) := by
  simp [Draw.good, h]
theorem bad_far {n k i : Nat} {l : List Bool} (hk : 1 ≤ k) (h : l.length < (i + 1) * k) : ∀ j, i ≤ j → Draw.good n k l j = false := by
  intro j hj
  have : (i + 1) * k ≤ (j + 1) * k := Nat.mul_le_mul_right k (by omega)
  simp [Draw.good]; omega

set_option maxHeartbeats 400000 in
theorem number_nil (n : Nat) (a : Option Addr) (cap : Nat) (w : World) (h1 : 2 ≤ n) (h2 : n ≤ 1000000000) :
    Calls Try.prog 15 #[.int .i64 n, .slice a 0 cap] w fun e w' => e = .returned (numRes (Draw.num n [])) ∧ w = w' := by
  have h3 : ¬ (n : Int) < 1 := by omega
  have h4 : ¬ 1000000000 < (n : Int) := by omega
  have HE : Hid (Draw.num n [] = none) := by
    refine Draw.num_none rfl fun j hj => ?_
    have := (Draw.need_spec n).1
    have h5 : 0 < Draw.need n := by
      rcases Nat.eq_zero_or_pos (Draw.need n) with h5 | h5
      · rw [h5] at this; simp at this; omega
      · exact h5
    have h6 := Nat.mul_pos (show 0 < j + 1 by omega) h5
    simp [Draw.good]; omega
  go_enter Try.func15, Try.ntmps15
  go_wp2
  go_loop [7] (fun t => ∃ k : Nat, k ≤ 30 ∧ t = .int .i64 k) (fun t => 30 - (intOf t).toNat)
  case atStart => exact ⟨0, by omega, rfl⟩
  case round =>
    obtain ⟨k, hk, rfl⟩ := hrel
    have HW := Lib.hid (wrap_pow hk)
    go_wp2
    · have h : wrap64 (2 ^ k) < (n : Int) := by assumption
      rw [HW.out] at h
      have hk' : k < 30 := by
        rcases Nat.lt_or_ge k 30 with h5 | h5
        · exact h5
        · obtain rfl : k = 30 := by omega
          simp at h; omega
      exact ⟨⟨k + 1, by omega, by go_num⟩, by simp [intOf]; omega⟩
    · have h : (n : Int) ≤ wrap64 (2 ^ k) := by assumption
      rw [HW.out] at h
      have hk1 : 1 ≤ k := by
        rcases Nat.eq_zero_or_pos k with h5 | h5
        · subst h5; simp at h; omega
        · exact h5
      clear h HW
      go_wp2
      refine wp_loop_rounds 1 ?_
      rw [rounds_succ]
      go_wp2
      go_ret3
      rw [HE.out]
      exact ⟨rfl, rfl⟩

set_option maxHeartbeats 400000 in
theorem number_two (n : Nat) (b off : Nat) (cap : Nat) (l : List Bool) (w : World) (hcell : ∀ i (h : i < l.length), w.cell? ⟨b, off + i, none⟩ = some (.bool l[i])) (hlc : l.length ≤ cap) (hL : l.length ≤ 140737488355328) (h1 : 2 ≤ n) (h2 : n ≤ 1000000000) :
    Calls Try.prog 15 #[.int .i64 n, .slice (some ⟨b, off, none⟩) l.length cap] w fun e w' => e = .returned (numRes (Draw.num n l)) ∧ w = w' := by
  have h3 : ¬ (n : Int) < 1 := by omega
  have h4 : ¬ 1000000000 < (n : Int) := by omega
  have HC := Lib.hid hcell
  clear hcell
  go_enter Try.func15, Try.ntmps15
  go_wp2
  go_loop [7] (fun t => ∃ k : Nat, k ≤ 30 ∧ t = .int .i64 k ∧ ∀ j, j < k → 2 ^ j < n) (fun t => 30 - (intOf t).toNat)
  case atStart => exact ⟨0, by omega, rfl, by omega⟩
  case round =>
    obtain ⟨k, hk, rfl, hj⟩ := hrel
    have HJ := Lib.hid hj
    clear hj
    have HW := Lib.hid (wrap_pow hk)
    go_wp2
    · have h : wrap64 (2 ^ k) < (n : Int) := by assumption
      rw [HW.out] at h
      have hk' : k < 30 := by
        rcases Nat.lt_or_ge k 30 with h5 | h5
        · exact h5
        · obtain rfl : k = 30 := by omega
          simp at h; omega
      refine ⟨⟨k + 1, by omega, by go_num, fun j hj => ?_⟩, by simp [intOf]; omega⟩
      rcases Nat.lt_or_ge j k with h5 | h5
      · exact HJ.out j h5
      · obtain rfl : j = k := by omega
        omega
    · have h : (n : Int) ≤ wrap64 (2 ^ k) := by assumption
      rw [HW.out] at h
      have HN := Lib.hid (Draw.need_eq (n := n) (k := k) (by omega) HJ.out)
      have hk1 : 1 ≤ k := by
        rcases Nat.eq_zero_or_pos k with h5 | h5
        · subst h5; simp at h; omega
        · exact h5
      clear h HW HJ
      go_wp2
      go_loop [8] (fun t => ∃ i : Nat, t = .int .i64 ((i + 1) * k : Nat) ∧ i * k ≤ l.length ∧ Hid (∀ j, j < i → Draw.good n k l j = false)) (fun t => l.length + 1 + k - (intOf t).toNat)
      case atStart => exact ⟨0, by go_num, by omega, fun j hj => by omega⟩
      case round =>
        obtain ⟨i, rfl, hi, HB⟩ := hrel
        have e1 : (i + 1) * k = i * k + k := Nat.succ_mul i k
        have E1 := Lib.hid e1
        clear e1
        have hu : (i + 1) * k ≤ l.length + 30 := by rw [E1.out]; omega
        have huk : k ≤ (i + 1) * k := by rw [E1.out]; omega
        generalize hU : (i + 1) * k = u at *
        have HU := Lib.hid hU
        clear hU
        by_cases hlt : u ≤ l.length
        · have hlt' : (u : Int) ≤ (l.length : Int) := by omega
          have hne : ¬ cap = u - k := by omega
          go_wp2
          go_loop [9, 39] (fun x t => ∃ j : Nat, j ≤ k ∧ t = .int .i64 j ∧ ∃ y : Nat, x = .int .i64 y ∧ y ≤ 1073741824 ∧ Hid (y = Draw.val ((Draw.chunk k l i).take j))) (fun _ t => k - (intOf t).toNat)
          case atStart => exact ⟨0, by omega, rfl, 0, rfl, by omega, rfl⟩
          case round =>
            obtain ⟨j, hj, rfl, y, rfl, hy, HY⟩ := hrel
            by_cases hjk : j < k
            · have hx : u - k + j < l.length := by omega
              have hcx := HC.out (u - k + j) hx
              rw [← Nat.add_assoc] at hcx
              have hs : Hid (∀ c, l[u - k + j] = c → Draw.val ((Draw.chunk k l i).take (j + 1)) = 2 * y + cond c 1 0 ∧ Draw.val ((Draw.chunk k l i).take (j + 1)) ≤ 1073741824) := by
                intro c hc
                have e2 : i * k = u - k := by have := E1.out; omega
                have hcl : (Draw.chunk k l i).length = k := by unfold Draw.chunk; rw [e2]; exact chunk_len huk hlt
                have e3 : (Draw.chunk k l i)[j]'(by omega) = c := by
                  rw [← hc]; unfold Draw.chunk; simp [e2]
                constructor
                · rw [take_snoc (by omega), Draw.val_snoc, e3, ← HY.out]
                · have h5 := Draw.val_lt ((Draw.chunk k l i).take (j + 1))
                  have h6 : ((Draw.chunk k l i).take (j + 1)).length ≤ 30 := by simp; omega
                  exact Nat.le_of_lt (Nat.lt_of_lt_of_le h5 (pow30 h6))
              generalize hc : l[u - k + j] = c at *
              have HS := Lib.hid (hs.out c rfl)
              clear hs hc
              cases c
              all_goals
                go_wp2
                refine ⟨⟨j + 1, by omega, by go_num, _, ?_, HS.out.2, rfl⟩, by simp [intOf]; omega⟩
                rw [HS.out.1]; simp; omega
            · have hjk' : j = k := by omega
              have HJ := Lib.hid hjk'
              clear hjk'
              have hyv : Hid (y = Draw.val (Draw.chunk k l i)) := by
                have h5 := HY.out
                rw [HJ.out, List.take_of_length_le (by unfold Draw.chunk; simp; omega)] at h5
                exact h5
              clear HY
              have hgood := good_eq (n := n) (k := k) (i := i) (l := l) (by rw [HU.out]; exact hlt)
              rw [← hyv.out] at hgood
              have HG := Lib.hid hgood
              clear hgood
              by_cases hyn : y < n
              · go_wp2
                go_ret3
                refine ⟨?_, rfl⟩
                rw [Draw.num_some (i := i) HN.out (by have := E1.out; have := Nat.mul_le_mul_left i hk1; omega) (by rw [HG.out]; simpa using hyn) HB.out, ← hyv.out, HU.out]
                rfl
              · go_wp2
                refine ⟨⟨i + 1, ?_, by rw [HU.out]; exact hlt, ?_⟩, by simp [intOf]; omega⟩
                · have : (i + 1 + 1) * k = u + k := by rw [Nat.succ_mul, HU.out]
                  rw [this]; go_num
                · intro j' hj'
                  rcases Nat.lt_or_ge j' i with h5 | h5
                  · exact HB.out j' h5
                  · obtain rfl : j' = i := by omega
                    rw [HG.out]; simpa using hyn
        · have hlt' : ¬ (u : Int) ≤ (l.length : Int) := by omega
          go_wp2
          go_ret3
          refine ⟨?_, rfl⟩
          rw [Draw.num_none HN.out]
          · rfl
          · intro j hj
            rcases Nat.lt_or_ge j i with h5 | h5
            · exact HB.out j h5
            · exact bad_far hk1 (by rw [HU.out]; omega) j h5

theorem number_one (a : Option Addr) (len cap : Nat) (w : World) (hlc : len ≤ cap) (hL : len ≤ 140737488355328) :
    Calls Try.prog 15 #[.int .i64 1, .slice a len cap] w fun e w' => e = .returned (numRes (some (0, 0))) ∧ w = w' := by
  go_enter Try.func15, Try.ntmps15
  go_wp2
  refine wp_loop_rounds 1 ?_
  rw [rounds_succ]
  go_wp2
  refine wp_loop_rounds 1 ?_
  rw [rounds_succ]
  go_wp2
  all_goals
    refine wp_loop_rounds 1 ?_
    rw [rounds_succ]
    go_wp2
    go_ret3
    exact ⟨rfl, rfl⟩

theorem num_one (l : List Bool) : Draw.num 1 l = some (0, 0) := by
  rw [Draw.num_some (k := 0) (i := 0) rfl (by omega) (by simp [Draw.good, Draw.chunk, Draw.val]) (by omega)]
  rfl

theorem number (n : Int) (v : Value) (l : List Bool) (w : World) (hv : Sl w v (bools l)) (hL : l.length ≤ 140737488355328) (h1 : 1 ≤ n) (h2 : n ≤ 1000000000) :
    Calls Try.prog 15 #[.int .i64 n, v] w fun e w' => e = .returned (numRes (Draw.num n.toNat l)) ∧ w = w' := by
  obtain ⟨m, rfl⟩ := Int.eq_ofNat_of_zero_le (show 0 ≤ n by omega)
  rw [Int.toNat_natCast]
  by_cases hm : m = 1
  · subst hm
    obtain ⟨a, cap, rfl, hlc, hc, _, _⟩ := hv
    rw [bools_len] at hlc ⊢
    rw [num_one]
    exact number_one a _ cap w hlc hL
  · rcases hv.cases with ⟨hl, a, cap, rfl, hc, _⟩ | ⟨b, off, cap, rfl, h0, hlc, hc, hcell⟩
    · have e : l = [] := by simpa [bools] using hl
      subst e
      exact number_nil m a cap w (by omega) (by omega)
    · rw [bools_len] at hlc ⊢
      exact number_two m b off cap l w (fun i h => by rw [hcell i (by rw [bools_len]; exact h)]; simp [bools]) hlc hL (by omega) (by omega)
end Go.Proofs.Ytfbacnifankfkaa
