/- The contract of draw.Pick. -/
import Derived.Test.YtfbacnifankfkaaDrawWalk
import Derived.Test.YtfbacnifankfkaaPick
namespace Go.Proofs.Ytfbacnifankfkaa
open Go.RowKit

def ints (l : List Int) : List Value := l.map (Value.int .i64)
theorem ints_len (l : List Int) : (ints l).length = l.length := by simp [ints]
theorem ints_get (l : List Int) (i : Nat) (h : i < (ints l).length) : (ints l)[i] = .int .i64 (l[i]'(by simpa [ints] using h)) := by simp [ints]

def trip (a b c : Int) : Value := .tuple #[.int .i64 a, .int .i64 b, .int .i64 c]

def pickRes (ws : List Int) (l : List Bool) : Value :=
  if Draw.sum ws = 0 then trip 0 0 1 else match Draw.num (Draw.sum ws).toNat l with | none => trip 0 0 5 | some (x, u) => trip (Draw.idx ws x) u 0

theorem pick_large (a : Option Addr) (len cap : Nat) (v : Value) (w : World) (h : 100 < len) (hL : len ≤ 140737488355328) :
    Calls Try.prog 17 #[.slice a len cap, v] w fun e w' => e = .returned (trip 0 0 2) ∧ w = w' := by
  go_enter Try.func17, Try.ntmps17
  go_wp2
  go_ret3
  exact ⟨rfl, rfl⟩

set_option maxHeartbeats 400000 in
theorem pick_bad (a : Option Addr) (cap : Nat) (ws : List Int) (v : Value) (w : World) (hv : Sl w (.slice a ws.length cap) (ints ws)) (h : ws.length ≤ 100) (hbad : ∃ x ∈ ws, Draw.badW x = true) :
    Calls Try.prog 17 #[.slice a ws.length cap, v] w fun e w' => e = .returned (trip 0 0 1) ∧ w = w' := by
  have HV := Lib.hid hv
  have HB := Lib.hid hbad
  clear hv hbad
  have h' : ¬ 100 < (ws.length : Int) := by omega
  go_enter Try.func17, Try.ntmps17
  go_wp2
  go_loop [7, 19] (fun s t => ∃ k : Nat, k ≤ ws.length ∧ t = .int .i64 k ∧ Hid (∀ x ∈ ws.take k, Draw.badW x = false) ∧ ∃ y : Int, s = .int .i64 y ∧ 0 ≤ y ∧ y ≤ 1000000 * k) (fun _ t => ws.length - (intOf t).toNat)
  case atStart => exact ⟨0, by omega, rfl, fun x hx => by simp at hx, 0, rfl, by omega, by omega⟩
  case round =>
    obtain ⟨k, hk, rfl, HG, y, rfl, hy0, hy1⟩ := hrel
    by_cases hlt : k < ws.length
    · obtain ⟨b, off, rfl, hc⟩ := HV.out.at hlt
      have hcell := hc k (by rw [ints_len]; exact hlt)
      rw [ints_get] at hcell
      clear hc
      have HX := Lib.hid (take_snoc hlt)
      generalize ws[k] = x at *
      cases hx : Draw.badW x with
      | true =>
        simp [Draw.badW] at hx
        go_wp2
        all_goals go_ret3
        all_goals exact ⟨rfl, rfl⟩
      | false =>
        have HXB := Lib.hid hx
        simp [Draw.badW] at hx
        obtain ⟨hx1, hx2⟩ := hx
        have hx3 : ¬ x < 0 := by omega
        have hx4 : ¬ 1000000 < x := by omega
        go_wp2
        refine ⟨⟨k + 1, by omega, by go_num, ?_, y + x, by go_num, by omega, by omega⟩, by simp [intOf]; omega⟩
        intro z hz
        rw [HX.out, List.mem_append] at hz
        rcases hz with hz | hz
        · exact HG.out z hz
        · simp at hz; subst hz; exact HXB.out
    · exfalso
      obtain ⟨x, hx, hb⟩ := HB.out
      have := HG.out x (by rw [List.take_of_length_le (by omega)]; exact hx)
      rw [hb] at this; cases this

/-- the loop over the weights, none of which is bad: what follows is asked at their sum -/
theorem sum_take_le {ws : List Int} (h : ∀ x ∈ ws, Draw.badW x = false) (k : Nat) : 0 ≤ Draw.sum (ws.take k) ∧ Draw.sum (ws.take k) ≤ 1000000 * k := by
  have h1 := Draw.sum_nonneg (ws := ws.take k) (fun x hx => h x (List.mem_of_mem_take hx))
  have : (ws.take k).length ≤ k := List.length_take_le _ _
  omega

set_option maxHeartbeats 800000 in
theorem pick_good (a : Option Addr) (cap : Nat) (ws : List Int) (v : Value) (l : List Bool) (w : World) (hv : Sl w (.slice a ws.length cap) (ints ws)) (hl : Sl w v (bools l)) (hL : l.length ≤ 140737488355328)
    (h : ws.length ≤ 100) (hok : ∀ x ∈ ws, Draw.badW x = false) :
    Calls Try.prog 17 #[.slice a ws.length cap, v] w fun e w' =>
      e = .returned (pickRes ws l) ∧ w = w' := by
  have HV := Lib.hid hv
  have HO := Lib.hid hok
  have HNUM : Hid (Sl w v (bools l)) := hl
  clear hv hok hl
  have h' : ¬ 100 < (ws.length : Int) := by omega
  go_enter Try.func17, Try.ntmps17
  go_wp2
  go_loop [7, 19] (fun s t => ∃ k : Nat, k ≤ ws.length ∧ t = .int .i64 k ∧ s = .int .i64 (Draw.sum (ws.take k))) (fun _ t => ws.length - (intOf t).toNat)
  case atStart => exact ⟨0, by omega, rfl, rfl⟩
  case round =>
    obtain ⟨k, hk, rfl, rfl⟩ := hrel
    obtain ⟨hy0, hy1⟩ := sum_take_le HO.out k
    by_cases hlt : k < ws.length
    · obtain ⟨b, off, rfl, hc⟩ := HV.out.at hlt
      have hcell := hc k (by rw [ints_len]; exact hlt)
      rw [ints_get] at hcell
      clear hc
      have HX := Lib.hid (take_snoc hlt)
      have hx := HO.out ws[k] (by simp)
      generalize ws[k] = x at *
      simp [Draw.badW] at hx
      obtain ⟨hx1, hx2⟩ := hx
      have hx3 : ¬ x < 0 := by omega
      have hx4 : ¬ 1000000 < x := by omega
      have HS : Hid (Draw.sum (ws.take (k + 1)) = Draw.sum (ws.take k) + x) := by show _ = _; rw [HX.out, Draw.sum_snoc]
      clear HX
      go_wp2
      exact ⟨⟨k + 1, by omega, by go_num, by rw [HS.out]⟩, by simp [intOf]; omega⟩
    · have ek : ws.take k = ws := List.take_of_length_le (by omega)
      rw [ek] at hy0 hy1 ⊢
      clear ek
      have hs2 : Draw.sum ws ≤ 100000000 := by omega
      by_cases h0 : Draw.sum ws = 0
      · have hS : (Draw.sum ws == 0) = true := by simpa using h0
        have H0 := Lib.hid h0
        clear h0
        go_wp2
        go_ret3
        rw [pickRes, if_pos H0.out]
        exact ⟨rfl, rfl⟩
      · have hS : (Draw.sum ws == 0) = false := by simpa using h0
        have h1 : 1 ≤ Draw.sum ws := by omega
        have HN := Lib.hid (number (Draw.sum ws) v l w HNUM.out hL h1 (by omega))
        have H0 := Lib.hid h0
        clear h0
        cases hr : Draw.num (Draw.sum ws).toNat l with
        | none =>
          rw [hr] at HN
          have HR := Lib.hid hr
          clear hr
          simp only [numRes] at HN
          go_wp2_with fail
          refine HN.out.mono ?_
          rintro e w' ⟨rfl, rfl⟩
          go_wp2_with fail
          go_ret3
          rw [pickRes, if_neg H0.out, HR.out]
          exact ⟨rfl, rfl⟩
        | some p =>
          obtain ⟨x, u⟩ := p
          rw [hr] at HN
          have HR := Lib.hid hr
          have hxs := (Draw.num_lt hr).1
          have hxs' : (x : Int) < Draw.sum ws := by omega
          clear hr hxs
          simp only [numRes] at HN
          go_wp2_with fail
          refine HN.out.mono ?_
          rintro e w' ⟨rfl, rfl⟩
          clear HN
          go_wp2_with fail
          go_loop [10, 13] (fun s t => ∃ k : Nat, k < ws.length ∧ t = .int .i64 k ∧ ∃ y : Int, s = .int .i64 y ∧ 0 ≤ y ∧ y ≤ 100000000 ∧ Hid (y = x - Draw.sum (ws.take k)) ∧ Hid (∀ j, j < k → Draw.sum (ws.take (j + 1)) ≤ x)) (fun _ t => ws.length - (intOf t).toNat)
          case atStart =>
            refine ⟨0, ?_, rfl, x, rfl, by omega, by omega, by show _ = _; simp [Draw.sum], fun j hj => by omega⟩
            rcases Nat.eq_zero_or_pos ws.length with h5 | h5
            · obtain rfl := List.eq_nil_of_length_eq_zero h5
              simp [Draw.sum] at h1
            · exact h5
          case round =>
            obtain ⟨k, hlt, rfl, y, rfl, hy2, hy3, HY, HJ⟩ := hrel
            obtain ⟨b, off, rfl, hc⟩ := HV.out.at hlt
            have hcell := hc k (by rw [ints_len]; exact hlt)
            rw [ints_get] at hcell
            clear hc
            have HX := Lib.hid (take_snoc hlt)
            have hx := HO.out ws[k] (by simp)
            generalize ws[k] = z at *
            simp [Draw.badW] at hx
            obtain ⟨hx1, hx2⟩ := hx
            have HS : Hid (Draw.sum (ws.take (k + 1)) = Draw.sum (ws.take k) + z) := by show _ = _; rw [HX.out, Draw.sum_snoc]
            clear HX
            by_cases hyz : z ≤ y
            · go_wp2
              have h6 := HS.out
              have h7 := HY.out
              refine ⟨⟨k + 1, ?_, by go_num, y - z, by go_num, by omega, by omega, by show _ = _; omega, fun j hj => ?_⟩, by simp [intOf]; omega⟩
              · rcases Nat.lt_or_ge (k + 1) ws.length with h5 | h5
                · exact h5
                · rw [List.take_of_length_le h5] at h6; omega
              · rcases Nat.lt_or_ge j k with h5 | h5
                · exact HJ.out j h5
                · obtain rfl : j = k := by omega
                  omega
            · go_wp2
              go_ret3
              have h6 := HS.out
              have h7 := HY.out
              refine ⟨?_, rfl⟩
              rw [pickRes, if_neg H0.out, HR.out]
              simp only []
              rw [Draw.idx_of hlt HJ.out (by omega)]
              rfl
end Go.Proofs.Ytfbacnifankfkaa
