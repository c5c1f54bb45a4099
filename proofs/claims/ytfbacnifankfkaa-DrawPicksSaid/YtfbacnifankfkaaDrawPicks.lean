/- For every slice of weights and every slice of coins the law DrawPicks returns true, and its arguments read afterwards as before. No condition. -/
import Derived.Test.YtfbacnifankfkaaDrawCoins
import Derived.Test.YtfbacnifankfkaaPickWalk
import Derived.SizedLaws
import Derived.OpenShut
import Derived.ChangeOld
import Derived.Carry
namespace Go.Proofs.Ytfbacnifankfkaa
open Go.ChangeShapes Go.WideShapes Go.ChangeAt Go.RowKit

theorem elInt : ElemT Try.prog 29 3 1 8 := ElemT.mk' (z := .int .i64 0) Try.underlying29 (by kernel_rfl) rfl (by decide)

namespace DrawPicks

/-- the world behind the law's first two values -/
def W1 (w : World) : World := (w.alloc (.cells #[.int .i64 0, .int .i64 5] 3)).alloc (.cells #[.bool false, .bool false, .bool false] 4)

theorem first (w : World) : Calls Try.prog 17 #[.slice (some ⟨w.heap.size, 0, none⟩) 2 2, .slice (some ⟨w.heap.size + 1, 0, none⟩) 3 3] ((w.alloc (.cells #[.int .i64 0, .int .i64 5] 3)).alloc (.cells #[.bool false, .bool false, .bool false] 4)) fun e w' => e = .returned (.tuple #[.int .i64 1, .int .i64 3, .int .i64 0]) ∧ ((w.alloc (.cells #[.int .i64 0, .int .i64 5] 3)).alloc (.cells #[.bool false, .bool false, .bool false] 4)) = w' := by
  have h := pick_good (some ⟨w.heap.size, 0, none⟩) 2 [0, 5] (.slice (some ⟨w.heap.size + 1, 0, none⟩) 3 3) [false, false, false] ((w.alloc (.cells #[.int .i64 0, .int .i64 5] 3)).alloc (.cells #[.bool false, .bool false, .bool false] 4)) ?_ ?_ (by simp) (by simp) (by decide)
  · have e : pickRes [0, 5] [false, false, false] = .tuple #[.int .i64 1, .int .i64 3, .int .i64 0] := by rfl
    rw [e] at h
    exact h
  · refine ⟨_, 2, rfl, by simp [ints], by decide, fun i hi => ⟨_, rfl, ?_⟩⟩
    simp [ints] at hi
    match i, hi with
    | 0, _ => simp [ints, go_sem]
    | 1, _ => simp [ints, go_sem]
  · refine ⟨_, 3, rfl, by simp [bools], by decide, fun i hi => ⟨_, rfl, ?_⟩⟩
    simp [bools] at hi
    match i, hi with
    | 0, _ => simp [bools, go_sem]
    | 1, _ => simp [bools, go_sem]
    | 2, _ => simp [bools, go_sem]

theorem lit_make (w : World) : (Instr.makeSlice 22 (.int .i64 3) (.int .i64 3)).run Try.prog w = .ok (.slice (some ⟨w.heap.size, 0, none⟩) 3 3) (w.alloc (.cells #[.bool false, .bool false, .bool false] 4)) := by kernel_rfl

set_option maxHeartbeats 1000000 in
set_option maxRecDepth 100000 in
theorem main (a : Option Addr) (cap : Nat) (ws : List Int) (v : Value) (l : List Bool) (w : World) (hv : Sl (W1 w) (.slice a ws.length cap) (ints ws)) (hl : Sl (W1 w) v (bools l)) (hL : l.length ≤ 140737488355328) (h100 : ws.length ≤ 100)
    (X K E : Int) (hp : Calls Try.prog 17 #[.slice a ws.length cap, v] (W1 w) fun e w' => e = .returned (.tuple #[.int .i64 X, .int .i64 K, .int .i64 E]) ∧ W1 w = w')
    (hbad : (∃ x ∈ ws, Draw.badW x = true) → X = 0 ∧ K = 0 ∧ E = 1) (hgood : (∀ x ∈ ws, Draw.badW x = false) → trip X K E = pickRes ws l) :
    Calls Try.prog 4 #[.slice a ws.length cap, v] w fun e w' => e = .returned (.bool true) ∧ Below w.heap.size w w' := by
  have HV := Lib.hid hv
  have HL := Lib.hid hl
  have HP := Lib.hid hp
  have HB := Lib.hid hbad
  have HG := Lib.hid hgood
  clear hv hl hp hbad hgood
  have hmk := lit_make
  have h5 : ¬ 100 < (ws.length : Int) := by omega
  go_enter Try.func4, Try.ntmps4
  go_wp2_with fail
  refine (first w).mono ?_
  rintro e w' ⟨rfl, rfl⟩
  go_wp2_with fail
  refine HP.out.mono ?_
  rintro e w' ⟨rfl, rfl⟩
  clear HP hmk
  have hbel : Below w.heap.size w (W1 w) := ((Below.refl _ _).alloc (Nat.le_refl _) _).alloc (by simp) _
  have HBL := Lib.hid hbel
  clear hbel
  generalize W1 w = w1 at *
  go_wp2_with fail
  go_loopw [11, 56] (fun m t wr => ∃ k : Nat, k ≤ ws.length ∧ t = .int .i64 k ∧ Hid (∀ x ∈ ws.take k, 0 ≤ x ∧ x ≤ 5000) ∧ Hid (wr.ownsRow w1.heap.size 3 1 m (Draw.marks 0 (ws.take k)).length (ints (Draw.marks 0 (ws.take k)))) ∧ Hid (Below w1.heap.size w1 wr)) (fun _ t _ => ws.length - (intOf t).toNat)
  case atStart => exact ⟨0, by omega, rfl, fun x hx => by simp at hx, World.ownsRow_nil _ _ _ _, Below.refl _ _⟩
  case round =>
    obtain ⟨k, hk, rfl, HS, HO, HW⟩ := hrel
    by_cases hlt : k < ws.length
    · obtain ⟨b, off, rfl, hc⟩ := (HV.out.keep HW.out).at hlt
      have hcell := hc k (by rw [ints_len]; exact hlt)
      rw [ints_get] at hcell
      clear hc
      have HX := Lib.hid (take_snoc hlt)
      have HM : Hid (ws[k] ∈ ws) := by show _ ∈ _; simp
      generalize ws[k] = x at *
      cases hx : Draw.badW x with
      | true =>
        obtain ⟨rfl, rfl, rfl⟩ := HB.out ⟨x, HM.out, hx⟩
        have HBD := Lib.hid (HBL.out.trans (HW.out.mono HBL.out.size))
        simp [Draw.badW] at hx
        clear HO HX HS
        go_wp2
        all_goals go_ret
        all_goals exact ⟨rfl, HBD.out⟩
      | false =>
        have HXB := Lib.hid hx
        simp [Draw.badW] at hx
        obtain ⟨hx1, hx2⟩ := hx
        have hx3 : ¬ x < 0 := by omega
        have hx4 : ¬ 1000000 < x := by omega
        have hml : (Draw.marks 0 (ws.take k)).length ≤ 500000 := by
          have := Draw.marks_le (k := 0) HS.out
          have : (ws.take k).length ≤ k := List.length_take_le _ _
          omega
        have HWS : Hid (w1.heap.size ≤ wr.heap.size) := HW.out.size
        have HBW := Lib.hid (HBL.out.trans (HW.out.mono HBL.out.size))
        by_cases h5000 : x ≤ 5000
        · obtain ⟨M, rfl⟩ := Int.eq_ofNat_of_zero_le hx1
          go_wp2
          go_loopw [11, 79] (fun m t wq => ∃ j : Nat, j ≤ M ∧ t = .int .i64 j ∧ Hid (wq.ownsRow w1.heap.size 3 1 m ((Draw.marks 0 (ws.take k)).length + j) (ints (Draw.marks 0 (ws.take k) ++ List.replicate j (k : Int)))) ∧ Hid (Below w1.heap.size w1 wq)) (fun _ t _ => M - (intOf t).toNat)
          case atStart => exact ⟨0, by omega, rfl, by simpa using HO, HW⟩
          case round =>
            obtain ⟨j, hj, rfl, HO2, HW2⟩ := hrel
            by_cases hjM : j < M
            · have hz := HW2.out.size
              go_wp2_with (at_builtin; refine wp_app1 elInt rfl _ _ rfl HO2.out rfl rfl rfl rfl ?_ ?_ hz ?_)
              · omega
              · unfold maxLen; omega
              · intro v' w' hown hg
                have HO3 : Hid (w'.ownsRow w1.heap.size 3 1 v' ((Draw.marks 0 (ws.take k)).length + (j + 1)) (ints (Draw.marks 0 (ws.take k) ++ List.replicate (j + 1) (k : Int)))) := by
                  show World.ownsRow _ _ _ _ _ _ _
                  have e : ints (Draw.marks 0 (ws.take k) ++ List.replicate (j + 1) (k : Int)) = ints (Draw.marks 0 (ws.take k) ++ List.replicate j (k : Int)) ++ [Value.int .i64 k] := by
                    simp [ints, List.replicate_succ']
                  rw [e]; exact hown
                have HW3 := Lib.hid (HW2.out.grown hg hz (fun b hb => (HO2.out.lt b hb).1))
                clear hown hg HO2 HW2 HO HW
                go_wp2
                exact ⟨⟨j + 1, by omega, by go_num, HO3, HW3⟩, by simp [intOf]; omega⟩
            · obtain rfl : j = M := by omega
              clear HO HW
              go_wp2
              refine ⟨⟨k + 1, by omega, by go_num, ?_, ?_, HW2⟩, by simp [intOf]; omega⟩
              · intro z hz
                rw [HX.out, List.mem_append] at hz
                rcases hz with hz | hz
                · exact HS.out z hz
                · simp at hz; subst hz; omega
              · have e : Draw.marks 0 (ws.take (k + 1)) = Draw.marks 0 (ws.take k) ++ List.replicate j (k : Int) := by
                  rw [HX.out, Draw.marks_snoc (k := 0)]; simp; omega
                rw [e, List.length_append, List.length_replicate]
                exact HO2
        · go_wp2
          go_loopw [11, 79] (fun m t wq => ∃ j : Nat, j ≤ 5000 ∧ t = .int .i64 j ∧ Hid (wq.ownsRow w1.heap.size 3 1 m ((Draw.marks 0 (ws.take k)).length + j) (ints (Draw.marks 0 (ws.take k) ++ List.replicate j (k : Int)))) ∧ Hid (Below w1.heap.size w1 wq)) (fun _ t _ => 5000 - (intOf t).toNat)
          case atStart => exact ⟨0, by omega, rfl, by simpa using HO, HW⟩
          case round =>
            obtain ⟨j, hj, rfl, HO2, HW2⟩ := hrel
            by_cases hjM : j < 5000
            · have hz := HW2.out.size
              go_wp2_with (at_builtin; refine wp_app1 elInt rfl _ _ rfl HO2.out rfl rfl rfl rfl ?_ ?_ hz ?_)
              · omega
              · unfold maxLen; omega
              · intro v' w' hown hg
                have HO3 : Hid (w'.ownsRow w1.heap.size 3 1 v' ((Draw.marks 0 (ws.take k)).length + (j + 1)) (ints (Draw.marks 0 (ws.take k) ++ List.replicate (j + 1) (k : Int)))) := by
                  show World.ownsRow _ _ _ _ _ _ _
                  have e : ints (Draw.marks 0 (ws.take k) ++ List.replicate (j + 1) (k : Int)) = ints (Draw.marks 0 (ws.take k) ++ List.replicate j (k : Int)) ++ [Value.int .i64 k] := by
                    simp [ints, List.replicate_succ']
                  rw [e]; exact hown
                have HW3 := Lib.hid (HW2.out.grown hg hz (fun b hb => (HO2.out.lt b hb).1))
                clear hown hg HO2 HW2 HO HW
                go_wp2
                exact ⟨⟨j + 1, by omega, by go_num, HO3, HW3⟩, by simp [intOf]; omega⟩
            · have HBD := Lib.hid (HBL.out.trans (HW2.out.mono HBL.out.size))
              clear HO HW HO2 HW2
              go_wp2
              go_ret
              exact ⟨rfl, HBD.out⟩
    · have ek : ws.take k = ws := List.take_of_length_le (by omega)
      rw [ek] at HS HO
      have HBD := Lib.hid (HBL.out.trans (HW.out.mono HBL.out.size))
      have HLr := Lib.hid (HL.out.keep HW.out)
      have hgd : ∀ x ∈ ws, Draw.badW x = false := fun x hx => by have := HS.out x hx; simp [Draw.badW]; omega
      have hpr := HG.out hgd
      have hsum := Draw.marks_length (k := 0) hgd
      have hle := Draw.marks_le (k := 0) HS.out
      have HGET := Lib.hid (fun y hy => Draw.marks_get (k := 0) hgd (y := y) hy)
      clear ek HS HG HB HW HL HV hgd
      unfold pickRes at hpr
      obtain ⟨am, capm, rfl⟩ := (sl_of_own HO.out).form
      rw [ints_len] at *
      by_cases h0 : Draw.sum ws = 0
      · rw [if_pos h0] at hpr
        simp [trip] at hpr
        obtain ⟨rfl, rfl, rfl⟩ := hpr
        have hn : (Draw.marks 0 ws).length = 0 := by omega
        have hnb : (((Draw.marks 0 ws).length : Int) == 0) = true := by simp [hn]
        clear hsum hn h0 HGET HO hle
        go_wp2
        go_ret
        exact ⟨rfl, HBD.out⟩
      · rw [if_neg h0] at hpr
        have hpos : 0 < (Draw.marks 0 ws).length := by omega
        have hnb : (((Draw.marks 0 ws).length : Int) == 0) = false := beq_eq_false_iff_ne.2 (by omega)
        have HC := Lib.hid (coins ((Draw.marks 0 ws).length : Int) v l wr HLr.out hL (by omega) (by omega))
        have HSl := Lib.hid (sl_of_own HO.out)
        rw [Int.toNat_natCast] at HC
        rw [← hsum, Int.toNat_natCast] at hpr
        have HSUM := Lib.hid hsum
        clear hsum h0 HO
        cases hr : Draw.num (Draw.marks 0 ws).length l with
        | none =>
          rw [hr] at hpr HC
          simp [trip] at hpr
          obtain ⟨rfl, rfl, rfl⟩ := hpr
          simp only [coinRes] at HC
          clear hr
          go_wp2_with fail
          refine HC.out.mono ?_
          rintro e w' ⟨rfl, rfl⟩
          go_wp2_with fail
          go_ret
          exact ⟨rfl, HBD.out⟩
        | some p =>
          obtain ⟨x, u⟩ := p
          rw [hr] at hpr HC
          simp [trip] at hpr
          obtain ⟨rfl, rfl, rfl⟩ := hpr
          simp only [coinRes] at HC
          have hx := (Draw.num_lt hr).1
          have hxs : (x : Int) < Draw.sum ws := by have := HSUM.out; omega
          have hg := HGET.out x hxs
          obtain ⟨b, off, rfl, hc⟩ := HSl.out.at hx
          have hcell := hc x (by rw [ints_len]; exact hx)
          rw [ints_get] at hcell
          have e : (Draw.marks 0 ws)[x]'hx = ((0 + Draw.idx ws x : Nat) : Int) := by
            rw [List.getElem?_eq_getElem hx] at hg; simpa using hg
          rw [e, Nat.zero_add] at hcell
          clear hr hg hc e HGET
          go_wp2_with fail
          refine HC.out.mono ?_
          rintro e w' ⟨rfl, rfl⟩
          go_wp2_with fail
          go_ret
          exact ⟨rfl, HBD.out⟩

theorem large (a : Option Addr) (len cap : Nat) (v : Value) (w : World) (h : 100 < len) (hL : len ≤ 140737488355328) :
    Calls Try.prog 4 #[.slice a len cap, v] w fun e w' => e = .returned (.bool true) ∧ Below w.heap.size w w' := by
  have hmk := lit_make
  have h' : 100 < (len : Int) := by omega
  go_enter Try.func4, Try.ntmps4
  go_wp2_with fail
  refine (first w).mono ?_
  rintro e w' ⟨rfl, rfl⟩
  go_wp2_with fail
  refine (pick_large a len cap v _ h hL).mono ?_
  rintro e w' ⟨rfl, rfl⟩
  unfold trip
  go_wp2_with fail
  go_ret
  exact ⟨rfl, ((Below.refl _ _).alloc (Nat.le_refl _) _).alloc (by simp) _⟩

theorem walk (v0 : Value) (ws : List Int) (v1 : Value) (l : List Bool) (w : World) (h0 : Sl w v0 (ints ws)) (b0 : ws.length * 8 ≤ 140737488351232) (_ : ∀ z ∈ ws, (Lit.int .i64 z).wf = true) (h1 : Sl w v1 (bools l)) (b1 : l.length * 1 ≤ 140737488351232) :
    Calls Try.prog 4 #[v0, v1] w fun e w' => e = .returned (.bool true) ∧ Below w.heap.size w w' := by
  obtain ⟨a, cap, rfl⟩ := h0.form
  rw [ints_len] at h0 ⊢
  by_cases h100 : 100 < ws.length
  · exact large a _ cap v1 w h100 (by omega)
  · have hb : Below w.heap.size w (W1 w) := ((Below.refl _ _).alloc (Nat.le_refl _) _).alloc (by simp) _
    have h0' := h0.keep hb
    have h1' := h1.keep hb
    by_cases hbad : ∃ x ∈ ws, Draw.badW x = true
    · exact main a cap ws v1 l w h0' h1' (by omega) (by omega) 0 0 1 (pick_bad a cap ws v1 (W1 w) h0' (by omega) hbad) (fun _ => ⟨rfl, rfl, rfl⟩)
        (fun hg => by obtain ⟨x, hx, hb⟩ := hbad; rw [hg x hx] at hb; cases hb)
    · have hg : ∀ x ∈ ws, Draw.badW x = false := fun x hx => by
        cases hb : Draw.badW x with
        | false => rfl
        | true => exact absurd ⟨x, hx, hb⟩ hbad
      have hp := pick_good a cap ws v1 l (W1 w) h0' h1' (by omega) (by omega) hg
      obtain ⟨X, K, E, e⟩ : ∃ X K E, pickRes ws l = trip X K E := by
        unfold pickRes
        split
        · exact ⟨_, _, _, rfl⟩
        · split <;> exact ⟨_, _, _, rfl⟩
      rw [e] at hp
      exact main a cap ws v1 l w h0' h1' (by omega) (by omega) X K E hp (fun hb => absurd hb hbad) (fun _ => e.symm)
end DrawPicks
end Go.Proofs.Ytfbacnifankfkaa
