/- guess.Check. guess.Of. A block that is known whole is a row. -/
import Derived.Test.YthnkgmlhpefldaaDoorJGuessTellsRow3
import Derived.Test.YthnkgmlhpefldaaDoorJGuessTellsRow5
import Derived.Test.YthnkgmlhpefldaaDoorJGuessTellsRow6
import Derived.Test.YthnkgmlhpefldaaDoorJGuessTellsRow1
namespace Go.Proofs.YthnkgmlhpefldaaDoor
open Go.RowKit
namespace Gs

def badT (T t : Int) : Bool := decide (t < 0) || decide (T ≤ t)
def wErr (T : Int) : List (List Int) → Int
  | [] => 0
  | w :: l => if 5 < w.length then 2 else if w.any (badT T) then 1 else wErr T l
def hasW (no : List (List Int)) (w : List Int) : Bool := no.any fun v => v == w
def chk (T : Int) (yes no : List (List Int)) : Int := if 6 < yes.length ∨ 6 < no.length then 2 else if wErr T (yes ++ no) ≠ 0 then wErr T (yes ++ no) else if yes.any (hasW no) then 8 else 0

theorem bad1E (T t : Int) (b : Nat) (w : World) (hb : w.cell? ⟨b, 0, none⟩ = some (.int .i64 T)) :
    Calls Tryd.prog 29 #[.int .i64 t, .pointer (some ⟨b, 0, none⟩)] w fun e w' => e = .returned (.bool (badT T t)) ∧ Below w.heap.size w w' := by
  by_cases h1 : t < 0
  · have h1' : decide (t < 0) = true := by simpa using h1
    go_enter Tryd.func29, Tryd.ntmps29
    go_wp2_with fail
    go_ret
    exact ⟨by unfold badT; rw [h1']; rfl, by first | exact Below.refl _ _ | exact (Below.refl _ _).drew⟩
  · have h1' : decide (t < 0) = false := by simpa using h1
    go_enter Tryd.func29, Tryd.ntmps29
    go_wp2_with fail
    go_ret
    exact ⟨by unfold badT; rw [h1']; rfl, by first | exact Below.refl _ _ | exact (Below.refl _ _).drew⟩
theorem eq2E (fn : Nat) (hfn : fn = 30) (v x : List Int) (a : Option Addr) (n c : Nat) (a' : Option Addr) (n' c' : Nat) (b : Nat) (w : World) (hb : w.cell? ⟨b, 0, none⟩ = some (.slice a' n' c')) (hv : Sl w (.slice a n c) (ints v)) (hx : Sl w (.slice a' n' c') (ints x)) :
    Calls Tryd.prog fn #[.slice a n c, .pointer (some ⟨b, 0, none⟩)] w fun e w' => e = .returned (.bool (v == x)) ∧ Below w.heap.size w w' := by
  subst hfn
  have HE := Lib.hid (equal (.slice a n c) (.slice a' n' c') v x w hv hx)
  clear hv hx
  go_enter Tryd.func30, Tryd.ntmps30
  go_wp2_with fail
  refine HE.out.mono ?_
  rintro e w1 ⟨rfl, hb1⟩
  have HB := Lib.hid hb1
  clear hb1
  go_wp2_with fail
  go_ret
  exact ⟨rfl, HB.out⟩
theorem wErr_at {T : Int} {l : List (List Int)} {i : Nat} (hi : i < l.length) : wErr T (l.drop i) = if 5 < (l[i]).length then 2 else if (l[i]).any (badT T) then 1 else wErr T (l.drop (i + 1)) := by
  rw [List.drop_eq_getElem_cons hi]; rfl
def ChkPost (T : Int) (yes no : List (List Int)) (w : World) (e : Ending) (w' : World) : Prop := e = .returned (.int .i64 (chk T yes no)) ∧ Below w.heap.size w w'
set_option maxHeartbeats 4000000 in
set_option maxRecDepth 100000 in
theorem chkE (T : Int) (yes no : List (List Int)) (ya na : Option Addr) (yc nc : Nat) (w : World) (hy : Rd AnyB w (.sl (yes.map D.ints)) [.slice ya yes.length yc]) (hn : Rd AnyB w (.sl (no.map D.ints)) [.slice na no.length nc]) :
    Calls Tryd.prog 14 #[.int .i64 T, .slice ya yes.length yc, .slice na no.length nc] w (ChkPost T yes no w) := by
  obtain ⟨PST, HP⟩ := nameIt (ChkPost T yes no w)
  rw [HP.out]
  have HFIN : Hid (∀ er w', chk T yes no = er → Below w.heap.size w w' → PST (.returned (.int .i64 er)) w') := by
    intro er w' h1 h2; rw [← HP.out]; exact ⟨by rw [h1], h2⟩
  clear HP
  have hbd := hy.bounds.2
  have hbn := hn.bounds.2
  unfold maxLen at hbd hbn
  obtain ⟨w1, HW1⟩ := nameIt (w.alloc (.cells #[.int .i64 T] 3))
  have hb1 : Below w.heap.size w w1 := by rw [← HW1.out]; exact (Below.refl _ _).alloc (Nat.le_refl _) _
  have X1 : Hid (w1.heap[w.heap.size]? = some (.cells #[.int .i64 T] 3 (0, 0))) := by rw [← HW1.out]; exact bx_new _ _ _ rfl
  have HB1 := Lib.hid hb1
  have HY := Lib.hid (hy.below hb1)
  have HN := Lib.hid (hn.below hb1)
  have HC1 : Hid (6 < yes.length ∨ 6 < no.length → chk T yes no = 2) := fun h => by unfold chk; rw [if_pos h]
  have HC2 : Hid (¬ (6 < yes.length ∨ 6 < no.length) → wErr T (yes ++ no) ≠ 0 → chk T yes no = wErr T (yes ++ no)) := fun h h2 => by unfold chk; rw [if_neg h, if_pos h2]
  have HC3 : Hid (¬ (6 < yes.length ∨ 6 < no.length) → wErr T (yes ++ no) = 0 → yes.any (hasW no) = true → chk T yes no = 8) := fun h h2 h3 => by unfold chk; rw [if_neg h, if_neg (by simp [h2]), if_pos h3]
  have HC4 : Hid (¬ (6 < yes.length ∨ 6 < no.length) → wErr T (yes ++ no) = 0 → yes.any (hasW no) = false → chk T yes no = 0) := fun h h2 h3 => by unfold chk; rw [if_neg h, if_neg (by simp [h2]), if_neg (by simp [h3])]
  obtain ⟨bt, HBT⟩ := nameIt w.heap.size
  rw [HBT.out] at X1
  have HBE : Hid (∀ W, Below w1.heap.size w1 W → W.cell? ⟨bt, 0, none⟩ = some (.int .i64 T)) := fun W h => bx_cells1 (bx_keep X1.out h)
  obtain ⟨yl, HYL⟩ := nameIt yes.length
  obtain ⟨nl, HNL⟩ := nameIt no.length
  rw [HYL.out] at HC1 HC2 HC3 HC4 HY hbd
  rw [HNL.out] at HC1 HC2 HC3 HC4 HN hbn
  rw [HYL.out, HNL.out]
  clear hb1 hy hn
  go_enter Tryd.func14, Tryd.ntmps14
  go_upto_region 1 with fail
  rw [HW1.out, HBT.out]
  clear HW1
  by_cases hy6 : 6 < yl
  · have hy6' : decide ((6 : Int) < (yl : Int)) = true := by simp; omega
    have HE := Lib.hid (HFIN.out 2 w1 (HC1.out (.inl hy6)) HB1.out)
    go_wp2_with fail
    exact HE.out
  · have hy6' : decide ((6 : Int) < (yl : Int)) = false := by simp; omega
    by_cases hn6 : 6 < nl
    · have hn6' : (6 : Int) < (nl : Int) := by omega
      have HE := Lib.hid (HFIN.out 2 w1 (HC1.out (.inr hn6)) HB1.out)
      go_wp2_with fail
      exact HE.out
    · have hn6' : ¬ (6 : Int) < (nl : Int) := by omega
      have HD2 := Lib.hid (HC2.out (by omega))
      have HD3 := Lib.hid (HC3.out (by omega))
      have HD4 := Lib.hid (HC4.out (by omega))
      clear HC1 HC2 HC3 HC4
      have hcc := concatWords w1 w1.heap.size 22 (.slice ya yl yc) (.slice na nl nc) yes no rfl HY.out HN.out (by rw [HYL.out, HNL.out]; omega)
      have HAL : Hid ((yes ++ no).length = yl + nl) := by show _ = _; rw [List.length_append, HYL.out, HNL.out]
      obtain ⟨AL, HALN⟩ := nameIt (yes ++ no)
      rw [HALN.out] at hcc HD2 HD3 HD4 HAL
      have HCC := Lib.hid hcc
      clear hcc
      go_wp2_with fail
      with_reducible refine HCC.out.mono ?_
      rintro e w2 ⟨a2, c2, rfl, hr2, hb2⟩
      rw [HAL.out] at hr2
      rw [HAL.out]
      have hbd2 := hr2.bounds.2
      unfold maxLen at hbd2
      obtain ⟨tl, HTL⟩ := nameIt (yl + nl)
      rw [HTL.out] at HAL hbd2 hr2
      rw [HTL.out]
      have HR2 := Lib.hid hr2
      have HB2 := Lib.hid hb2
      have HW0 : Hid (wErr T AL = wErr T (AL.drop 0)) := rfl
      clear hr2 hb2
      go_wp2_with fail
      go_loopg [8, 24] tl (fun gg v8 v24 wr => ∃ i : Nat, i ≤ tl ∧ tl - i ≤ gg ∧ v24 = .int .i64 (i : Int) ∧ Hid (wErr T AL = wErr T (AL.drop i)) ∧ Hid (Below w1.heap.size w1 wr) ∧ Hid (Below w2.heap.size w2 wr))
      case atStart => exact ⟨0, by omega, by omega, rfl, HW0, HB2, Below.refl _ _⟩
      case round =>
        clear HW0 HB2
        obtain ⟨i, hi, hgg, rfl, HWE, HBA, HBB⟩ := hrel
        obtain ⟨w3, rfl⟩ : ∃ ww : World, ww = wr := ⟨_, rfl⟩
        by_cases hit : i < tl
        · have hit' : (i : Int) < (tl : Int) := by omega
          have hi0 : (0 : Int) ≤ (i : Int) := by omega
          have hiA : i < AL.length := by rw [HAL.out]; exact hit
          obtain ⟨ba, oa, u, hae, -, c1, hru⟩ := ints_at (HR2.out.below HBB.out) hiA
          have hat := wErr_at (T := T) hiA
          obtain ⟨x, HX⟩ := nameIt (AL[i]'hiA)
          rw [HX.out] at hru hat
          have hsl := sl_rd hru
          obtain ⟨ua, un, uc, rfl⟩ : ∃ a n c, u = .slice a n c := by obtain ⟨a, k, rfl⟩ := hsl.form; exact ⟨_, _, _, rfl⟩
          have hun : x.length = un := by have := hsl.len.1; rw [ints_len] at this; exact this.symm
          have hbu := hsl.len.2
          unfold maxLen at hbu
          rw [hun] at hat
          have HAT := Lib.hid hat
          have HU := Lib.hid hun
          have HCF := Lib.hid (containsFunc 29 #[.pointer (some ⟨bt, 0, none⟩)] (badT T) ua uc x w3 (fun _ _ => by kernel_rfl) (fun W t _ hb => bad1E T t bt W (HBE.out W (HBA.out.trans (hb.mono HBA.out.size)))) (by rw [hun]; exact hsl))
          rw [hun] at HCF
          subst hae
          clear hru hsl hun hat HX hiA
          by_cases h5 : 5 < un
          · have h5' : (5 : Int) < (un : Int) := by omega
            have HE := Lib.hid (HFIN.out 2 w3 (by have h2 := HAT.out; rw [if_pos h5] at h2; rw [HD2.out (by rw [HWE.out, h2]; decide), HWE.out, h2]) (HB1.out.trans (HBA.out.mono HB1.out.size)))
            clear h5
            go_wp2_with fail
            exact HE.out
          · have h5' : ¬ (5 : Int) < (un : Int) := by omega
            have HAT2 : Hid (wErr T (AL.drop i) = if x.any (badT T) then 1 else wErr T (AL.drop (i + 1))) := by show _ = _; rw [HAT.out, if_neg h5]
            clear HAT h5
            go_wp2_with fail
            refine HCF.out.mono ?_
            rintro e w4 ⟨rfl, hb4⟩
            have HBA4 : Hid (Below w1.heap.size w1 w4) := HBA.out.trans (hb4.mono HBA.out.size)
            have HBB4 : Hid (Below w2.heap.size w2 w4) := HBB.out.trans (hb4.mono HBB.out.size)
            clear hb4 HCF c1
            obtain ⟨q, HQ⟩ := nameIt (x.any (badT T))
            rw [HQ.out] at HAT2
            rw [HQ.out]
            cases q with
            | true =>
              have HE := Lib.hid (HFIN.out 1 w4 (by have h2 := HAT2.out; rw [if_pos rfl] at h2; rw [HD2.out (by rw [HWE.out, h2]; decide), HWE.out, h2]) (HB1.out.trans (HBA4.out.mono HB1.out.size)))
              go_wp2_with fail
              exact HE.out
            | false =>
              have HWN : Hid (wErr T AL = wErr T (AL.drop (i + 1))) := by show _ = _; rw [HWE.out, HAT2.out]; rfl
              clear HWE HAT2
              go_wp2_with fail
              go_roundg (tl - (i + 1))
              case measure => omega
              case rel => exact ⟨i + 1, by omega, by omega, by go_num, HWN, HBA4, HBB4⟩
        · have hit' : ¬ (i : Int) < (tl : Int) := by omega
          have hw0 : wErr T AL = 0 := by rw [HWE.out, List.drop_of_length_le (by rw [HAL.out]; omega)]; rfl
          have HE3 := Lib.hid (HD3.out hw0)
          have HE4 := Lib.hid (HD4.out hw0)
          have HY3 := Lib.hid (HY.out.below HBA.out)
          have HN3 := Lib.hid (HN.out.below HBA.out)
          have HB3 : Hid (Below w.heap.size w w3) := HB1.out.trans (HBA.out.mono HB1.out.size)
          have HA0 : Hid (∀ j (h : j < yes.length), j < 0 → hasW no yes[j] = false) := fun j h hj => by omega
          clear hw0 HD2 HD3 HD4 HWE HBA HBB HY HN
          go_wp2_with fail
          go_loopg [10, 37] yl (fun gg v10 v37 wr => ∃ j : Nat, j ≤ yl ∧ yl - j ≤ gg ∧ v37 = .int .i64 (j : Int) ∧ Hid (∀ i (h : i < yes.length), i < j → hasW no yes[i] = false) ∧ Hid (Below w3.heap.size w3 wr))
          case atStart => exact ⟨0, by omega, by omega, rfl, HA0, Below.refl _ _⟩
          case round =>
            clear HA0
            obtain ⟨j, hj, hgj, rfl, HNJ, HB⟩ := hrel
            obtain ⟨w5, rfl⟩ : ∃ ww : World, ww = wr := ⟨_, rfl⟩
            by_cases hjy : j < yl
            · have hjy' : (j : Int) < (yl : Int) := by omega
              have hj0 : (0 : Int) ≤ (j : Int) := by omega
              have hjY : j < yes.length := by rw [HYL.out]; exact hjy
              obtain ⟨ba, oa, u, hae, -, c1, hru⟩ := ints_at (HY3.out.below HB.out) hjY
              obtain ⟨x, HX⟩ := nameIt (yes[j]'hjY)
              rw [HX.out] at hru
              have hsl := sl_rd hru
              obtain ⟨ua, un, uc, rfl⟩ : ∃ a n c, u = .slice a n c := by obtain ⟨a, k, rfl⟩ := hsl.form; exact ⟨_, _, _, rfl⟩
              obtain ⟨w6, HW6⟩ := nameIt (w5.alloc (.cells #[.slice ua un uc] 29))
              have hb6 : Below w5.heap.size w5 w6 := by rw [← HW6.out]; exact (Below.refl _ _).alloc (Nat.le_refl _) _
              have X6 : w6.heap[w5.heap.size]? = some (.cells #[.slice ua un uc] 29 (0, 0)) := by rw [← HW6.out]; exact bx_new _ _ _ rfl
              have HB6 : Hid (Below w3.heap.size w3 w6) := HB.out.trans (hb6.mono HB.out.size)
              have hcf := containsFuncW 30 #[.pointer (some ⟨w5.heap.size, 0, none⟩)] (fun v => v == x) na nc no w6 (fun _ _ => by kernel_rfl) (fun W v n a c _ _ hb hv => eq2E _ rfl v x a n c ua un uc w5.heap.size W (bx_cells1 (bx_keep X6 hb)) hv ((hsl.keep hb6).keep hb)) (by rw [HNL.out]; exact HN3.out.below HB6.out)
              rw [HNL.out] at hcf
              have HCF := Lib.hid hcf
              obtain ⟨q, HQ⟩ := nameIt (no.any fun v => v == x)
              rw [HQ.out] at HCF
              have HHW : Hid (hasW no yes[j] = q) := by show _ = _; rw [HX.out]; exact HQ.out
              have HCX := Lib.hid hcf
              subst hae
              clear hcf hru hsl hb6 X6 HCX
              go_upto_region 14 with fail
              rw [HW6.out]
              go_wp2_with fail
              refine HCF.out.mono ?_
              rintro e w7 ⟨rfl, hb7⟩
              have HB7 : Hid (Below w3.heap.size w3 w7) := HB6.out.trans (hb7.mono HB6.out.size)
              clear hb7 HCF c1
              cases q with
              | true =>
                have HE := Lib.hid (HFIN.out 8 w7 (HE3.out (List.any_eq_true.2 ⟨yes[j], List.getElem_mem hjY, HHW.out⟩)) (HB3.out.trans (HB7.out.mono HB3.out.size)))
                go_wp2_with fail
                exact HE.out
              | false =>
                have HNN : Hid (∀ i (h : i < yes.length), i < j + 1 → hasW no yes[i] = false) := fun i h hi => by
                  by_cases e : i = j
                  · subst e; exact HHW.out
                  · exact HNJ.out i h (by omega)
                clear HHW hjY HX
                go_wp2_with fail
                go_roundg (yl - (j + 1))
                case measure => omega
                case rel => exact ⟨j + 1, by omega, by omega, by go_num, HNN, HB7⟩
            · have hjy' : ¬ (j : Int) < (yl : Int) := by omega
              have HE := Lib.hid (HFIN.out 0 w5 (HE4.out (by
                rw [List.any_eq_false]
                intro x hx
                obtain ⟨i, hi, rfl⟩ := List.getElem_of_mem hx
                rw [HNJ.out i hi (by rw [HYL.out] at hi; omega)]
                decide)) (HB3.out.trans (HB.out.mono HB3.out.size)))
              go_wp2_with fail
              exact HE.out
end Gs
end Go.Proofs.YthnkgmlhpefldaaDoor
namespace Go.Proofs.YthnkgmlhpefldaaDoor
open Go.RowKit
namespace Gs
open Lg

theorem wErr_ok {T : Int} : ∀ {l : List (List Int)}, wErr T l = 0 → wordOk T l
  | [], _, u, hu => by simp at hu
  | w :: l, h, u, hu => by
    unfold wErr at h
    by_cases h5 : 5 < w.length
    · rw [if_pos h5] at h; cases h
    · rw [if_neg h5] at h
      by_cases hb : w.any (badT T) = true
      · rw [if_pos hb] at h; cases h
      · rw [if_neg hb] at h
        rcases List.mem_cons.1 hu with rfl | hu
        · refine ⟨by omega, fun t ht => ?_⟩
          have : ¬ badT T t = true := fun e => hb (List.any_eq_true.2 ⟨t, ht, e⟩)
          unfold badT at this
          simp at this
          omega
        · exact wErr_ok h u hu
theorem wordOk_left {T : Int} {a b : List (List Int)} (h : wordOk T (a ++ b)) : wordOk T a := fun u hu => h u (List.mem_append_left _ hu)
theorem wordOk_right {T : Int} {a b : List (List Int)} (h : wordOk T (a ++ b)) : wordOk T b := fun u hu => h u (List.mem_append_right _ hu)
theorem chk_ok {T : Int} {yes no : List (List Int)} (h : chk T yes no = 0) : wordOk T yes ∧ wordOk T no := by
  unfold chk at h
  by_cases h1 : 6 < yes.length ∨ 6 < no.length
  · rw [if_pos h1] at h; cases h
  · rw [if_neg h1] at h
    by_cases h2 : wErr T (yes ++ no) = 0
    · exact ⟨wordOk_left (wErr_ok h2), wordOk_right (wErr_ok h2)⟩
    · rw [if_pos h2] at h; exact absurd h h2
def gErr (T N : Int) (yes no : List (List Int)) : Int := if T < 1 ∨ 2 < T ∨ N < 1 ∨ 2 < N then 1 else chk T yes no
def GofR (T N : Int) (yes no : List (List Int)) (y0 y1 y2 : Int) (a : Option Addr) (k c : Nat) (er : Int) (w' : World) : Prop :=
  (gErr T N yes no ≠ 0 ∧ er = gErr T N yes no ∧ y0 = 0 ∧ y1 = 0 ∧ y2 = 0 ∧ a = none ∧ k = 0 ∧ c = 0) ∨
  (gErr T N yes no = 0 ∧ ((gF (fitG T N yes no) (LR T.toNat N.toNat) 4 = none ∧ er = 5 ∧ y0 = 0 ∧ y1 = 0 ∧ y2 = 0 ∧ a = none ∧ k = 0 ∧ c = 0) ∨
    ∃ r, gF (fitG T N yes no) (LR T.toNat N.toNat) 4 = some r ∧ er = 0 ∧ y0 = T ∧ y1 = N ∧ y2 = 0 ∧ r.length = k ∧ Rd AnyB w' (.sl (r.map Rule.d)) [.slice a k c]))
def GofPost (T N : Int) (yes no : List (List Int)) (w : World) (e : Ending) (w' : World) : Prop :=
  ∃ y0 y1 y2 a k c er, e = .returned (.tuple #[.agg #[.int .i64 y0, .int .i64 y1, .int .i64 y2, .slice a k c], .int .i64 er]) ∧ GofR T N yes no y0 y1 y2 a k c er w' ∧ Below w.heap.size w w'
theorem gF_up {fit : List Rule → Bool} {L : List Rule} {n m : Nat} {c : List Rule} (h : gF fit L n = some c) (hm : n ≤ m) : gF fit L m = some c := by
  induction hm with
  | refl => exact h
  | step _ ih => rw [gF, ih]; rfl
def FVal (tb nb yb ob lb fb : Nat) : Value := .func (.func 15) #[] #[.pointer (some ⟨tb, 0, none⟩), .pointer (some ⟨nb, 0, none⟩), .pointer (some ⟨yb, 0, none⟩), .pointer (some ⟨ob, 0, none⟩), .pointer (some ⟨lb, 0, none⟩), .pointer (some ⟨fb, 0, none⟩)]
set_option maxHeartbeats 8000000 in
set_option maxRecDepth 100000 in
theorem gofE (T N : Int) (yes no : List (List Int)) (ya na : Option Addr) (yc nc : Nat) (w : World) (hy : Rd AnyB w (.sl (yes.map D.ints)) [.slice ya yes.length yc]) (hn : Rd AnyB w (.sl (no.map D.ints)) [.slice na no.length nc]) (hT : TabG w) :
    Calls Tryd.prog 4 #[.int .i64 T, .int .i64 N, .slice ya yes.length yc, .slice na no.length nc] w (GofPost T N yes no w) := by
  obtain ⟨PST, HP⟩ := nameIt (GofPost T N yes no w)
  rw [HP.out]
  obtain ⟨w1, HW1⟩ := nameIt (((((w.alloc (.cells #[.int .i64 T] 3)).alloc (.cells #[.int .i64 N] 3)).alloc (.cells #[.slice ya yes.length yc] 22)).alloc (.cells #[.slice na no.length nc] 22)).alloc (.cells #[.int .i64 0, .int .i64 0, .int .i64 0, .slice none 0 0] 25))
  have hb1 : Below w.heap.size w w1 := by rw [← HW1.out]; exact (((((Below.refl _ _).alloc (Nat.le_refl _) _).alloc (by simp) _).alloc (by simp; omega) _).alloc (by simp; omega) _).alloc (by simp; omega) _
  have bal : ∀ (W : World) (o : Obj), Below W.heap.size W (W.alloc o) := fun W o => (Below.refl _ _).alloc (Nat.le_refl _) _
  have XT : w1.heap[w.heap.size]? = some (.cells #[.int .i64 T] 3 (0, 0)) := by rw [← HW1.out]; exact bx_keep (bx_keep (bx_keep (bx_keep (bx_new _ _ _ rfl) (bal _ _)) (bal _ _)) (bal _ _)) (bal _ _)
  have XN : w1.heap[w.heap.size + 1]? = some (.cells #[.int .i64 N] 3 (0, 0)) := by rw [← HW1.out]; exact bx_keep (bx_keep (bx_keep (bx_new _ _ _ (by simp)) (bal _ _)) (bal _ _)) (bal _ _)
  have XY : w1.heap[w.heap.size + 1 + 1]? = some (.cells #[.slice ya yes.length yc] 22 (0, 0)) := by rw [← HW1.out]; exact bx_keep (bx_keep (bx_new _ _ _ (by simp)) (bal _ _)) (bal _ _)
  have XO : w1.heap[w.heap.size + 1 + 1 + 1]? = some (.cells #[.slice na no.length nc] 22 (0, 0)) := by rw [← HW1.out]; exact bx_keep (bx_new _ _ _ (by simp)) (bal _ _)
  have XR : w1.heap[w.heap.size + 1 + 1 + 1 + 1]? = some (.cells #[.int .i64 0, .int .i64 0, .int .i64 0, .slice none 0 0] 25 (0, 0)) := by rw [← HW1.out]; exact bx_new _ _ _ (by simp)
  have HB1 := Lib.hid hb1
  have HY := Lib.hid (hy.below hb1)
  have HN := Lib.hid (hn.below hb1)
  have HT := Lib.hid (hT.keep hb1)
  have hbig : w.heap.size ≤ w.heap.size + 1 + 1 + 1 + 1 := by omega
  have HFE : Hid (∀ er w' x0 x1 x2 x3, gErr T N yes no = er → er ≠ 0 → Below w1.heap.size w1 w' → PST (.returned (.tuple #[.agg #[.int .i64 0, .int .i64 0, .int .i64 0, .slice none 0 0], .int .i64 er])) ((((w'.setCell ⟨w.heap.size + 1 + 1 + 1 + 1, 0, none⟩ x0).setCell ⟨w.heap.size + 1 + 1 + 1 + 1, 1, none⟩ x1).setCell ⟨w.heap.size + 1 + 1 + 1 + 1, 2, none⟩ x2).setCell ⟨w.heap.size + 1 + 1 + 1 + 1, 3, none⟩ x3)) := by
    intro er w' x0 x1 x2 x3 h1 h2 h3
    rw [← HP.out]
    exact ⟨0, 0, 0, none, 0, 0, er, rfl, .inl ⟨by rw [h1]; exact h2, h1.symm, rfl, rfl, rfl, rfl, rfl, rfl⟩, below_box4 (hb1.trans (h3.mono hb1.size)) hbig _ _ _ _⟩
  have HF5 : Hid (∀ w' x0 x1 x2 x3, gErr T N yes no = 0 → gF (fitG T N yes no) (LR T.toNat N.toNat) 4 = none → Below w1.heap.size w1 w' → PST (.returned (.tuple #[.agg #[.int .i64 0, .int .i64 0, .int .i64 0, .slice none 0 0], .int .i64 5])) ((((w'.setCell ⟨w.heap.size + 1 + 1 + 1 + 1, 0, none⟩ x0).setCell ⟨w.heap.size + 1 + 1 + 1 + 1, 1, none⟩ x1).setCell ⟨w.heap.size + 1 + 1 + 1 + 1, 2, none⟩ x2).setCell ⟨w.heap.size + 1 + 1 + 1 + 1, 3, none⟩ x3)) := by
    intro w' x0 x1 x2 x3 h1 h2 h3
    rw [← HP.out]
    exact ⟨0, 0, 0, none, 0, 0, 5, rfl, .inr ⟨h1, .inl ⟨h2, rfl, rfl, rfl, rfl, rfl, rfl, rfl⟩⟩, below_box4 (hb1.trans (h3.mono hb1.size)) hbig _ _ _ _⟩
  have HF0 : Hid (∀ (r : List Rule) a c w' x0 x1 x2 x3, gErr T N yes no = 0 → gF (fitG T N yes no) (LR T.toNat N.toNat) 4 = some r → Rd (fun k => w1.heap.size ≤ k) w' (.sl (r.map Rule.d)) [.slice a r.length c] → Below w1.heap.size w1 w' → PST (.returned (.tuple #[.agg #[.int .i64 T, .int .i64 N, .int .i64 0, .slice a r.length c], .int .i64 0])) ((((w'.setCell ⟨w.heap.size + 1 + 1 + 1 + 1, 0, none⟩ x0).setCell ⟨w.heap.size + 1 + 1 + 1 + 1, 1, none⟩ x1).setCell ⟨w.heap.size + 1 + 1 + 1 + 1, 2, none⟩ x2).setCell ⟨w.heap.size + 1 + 1 + 1 + 1, 3, none⟩ x3)) := by
    intro r a c w' x0 x1 x2 x3 h1 h2 h4 h3
    rw [← HP.out]
    exact ⟨T, N, 0, a, _, c, 0, rfl, .inr ⟨h1, .inr ⟨r, h2, rfl, rfl, rfl, rfl, rfl, (Rd.box4 h4 (by have := bx_lt XR; omega) x0 x1 x2 x3).any⟩⟩, below_box4 (hb1.trans (h3.mono hb1.size)) hbig _ _ _ _⟩
  clear HP
  have HGE1 : Hid (T < 1 ∨ 2 < T ∨ N < 1 ∨ 2 < N → gErr T N yes no = 1) := fun h => by unfold gErr; rw [if_pos h]
  have HGE2 : Hid (¬ (T < 1 ∨ 2 < T ∨ N < 1 ∨ 2 < N) → gErr T N yes no = chk T yes no) := fun h => by unfold gErr; rw [if_neg h]
  have HCK := Lib.hid (fun W (h : Below w1.heap.size w1 W) => chkE T yes no ya na yc nc W (HY.out.below h) (HN.out.below h))
  obtain ⟨yl, HYL⟩ := nameIt yes.length
  obtain ⟨nl, HNL⟩ := nameIt no.length
  rw [HYL.out, HNL.out] at HW1
  rw [HYL.out] at XY
  rw [HNL.out] at XO
  simp only [HYL.out, HNL.out] at HCK
  rw [HYL.out, HNL.out]
  obtain ⟨tb, HTB⟩ := nameIt w.heap.size
  obtain ⟨nb, HNB⟩ := nameIt (tb + 1)
  obtain ⟨yb, HYB⟩ := nameIt (nb + 1)
  obtain ⟨ob, HOB⟩ := nameIt (yb + 1)
  obtain ⟨rb, HRB⟩ := nameIt (ob + 1)
  rw [HTB.out] at XT
  rw [HTB.out, HNB.out] at XN
  rw [HTB.out, HNB.out, HYB.out] at XY
  rw [HTB.out, HNB.out, HYB.out, HOB.out] at XO
  rw [HTB.out, HNB.out, HYB.out, HOB.out, HRB.out] at XR
  simp only [HTB.out, HNB.out, HYB.out, HOB.out, HRB.out] at HFE HF5 HF0
  have HXT := Lib.hid XT
  have HXN := Lib.hid XN
  have HXY := Lib.hid XY
  have HXO := Lib.hid XO
  have HXR := Lib.hid XR
  clear XT XN XY XO XR hb1 hy hn hT hbig bal
  go_enter Tryd.func4, Tryd.ntmps4
  go_upto_region 1 with fail
  rw [HW1.out]
  simp only [HTB.out, HNB.out, HYB.out, HOB.out, HRB.out]
  clear HW1
  have x0 := bx_cells1 HXT.out
  have x1 := bx_cells1 HXN.out
  by_cases hbad : T < 1 ∨ 2 < T ∨ N < 1 ∨ 2 < N
  · have HGE := Lib.hid (HGE1.out hbad)
    have HRU := Lib.hid (Guess.rulesArg T N w1 hbad)
    clear hbad HGE1 HGE2
    go_wp2_with fail
    refine HRU.out.mono ?_
    intro e w2 hpost
    obtain ⟨v, rfl, hv, hb2⟩ := hpost
    obtain ⟨va, vc, rfl, -, -⟩ := hv.form
    have hs2 : rb < w2.heap.size := bx_lt (bx_keep HXR.out hb2)
    have HX2 := Lib.hid (bx_keep HXR.out hb2)
    obtain ⟨w3, HW3⟩ := nameIt (w2.alloc (.cells #[.slice va 0 vc] 23))
    have HB3 : Hid (Below w1.heap.size w1 w3) := hb2.trans (by rw [← HW3.out]; exact ((Below.refl _ _).alloc (Nat.le_refl _) _ : Below w2.heap.size w2 _).mono hb2.size)
    have HE := Lib.hid (fun x0 x1 x2 x3 => HFE.out 1 w3 x0 x1 x2 x3 HGE.out (by decide) HB3.out)
    clear hv hb2 x0 x1
    go_upto_region 2 with fail
    rw [HW3.out]
    obtain ⟨r0, r1, r2, r3⟩ := bx_cells4 (bx_keep HXR.out HB3.out)
    obtain ⟨f0, f1, f2, f3⟩ := bx_free4 (bx_keep HXR.out HB3.out)
    go_wp2_with fail
    refine bodyPost_ret (v := .tuple #[.agg #[.int .i64 0, .int .i64 0, .int .i64 0, .slice none 0 0], .int .i64 1]) (by simp [results, Tryd.results4, go_sem, r0, r1, r2, r3]) rfl ?_
    exact HE.out _ _ _ _
  · have HGE := Lib.hid (HGE2.out hbad)
    obtain ⟨t, rfl⟩ : ∃ t : Nat, T = (t : Int) := ⟨T.toNat, by omega⟩
    obtain ⟨n, rfl⟩ : ∃ n : Nat, N = (n : Int) := ⟨N.toNat, by omega⟩
    have ht1 : 1 ≤ t := by omega
    have ht2 : t ≤ 2 := by omega
    have hn1 : 1 ≤ n := by omega
    have hn2 : n ≤ 2 := by omega
    have HRU := Lib.hid (Guess.rulesE t n w1 ht1 ht2 hn1 hn2)
    clear hbad HGE1 HGE2
    go_wp2_with fail
    refine HRU.out.mono ?_
    intro e w2 hpost
    obtain ⟨v, rfl, hv, hb2⟩ := hpost
    have hv' : Rd AnyB w2 (.sl ((LR t n).map Rule.d)) [v] := hv
    have hlen := LR_len (t := t) ht2 hn2
    have hpos := LR_pos (t := t) hn1
    have HLC : Hid (∀ p : List Rule, p.Sublist (LR t n) → p.length ≤ 3 → checkG ⟨(t : Int), (n : Int), 0, p⟩ = 0) := fun p h1 h2 => LR_check ht1 ht2 hn1 hn2 h1 h2
    have HLR4 : Hid (∀ r ∈ LR t n, r.right.length ≤ 4) := fun r hr => by have := ((LR_ok ht1 ht2 hn1 hn2).2 r hr).2.2.1; omega
    simp only [Int.toNat_natCast] at HF0 HF5
    obtain ⟨L, HL⟩ := nameIt (LR t n)
    rw [HL.out] at hv' hlen hpos HLC HLR4
    simp only [HL.out] at HF0 HF5
    clear hv
    obtain ⟨b, off, lc, rfl⟩ : ∃ b off cap, v = .slice (some ⟨b, off, none⟩) L.length cap := by
      obtain ⟨a, c, rfl, _⟩ := hv'.form
      obtain ⟨b, off, vv, e, _⟩ := hv'.rule_at hpos
      exact ⟨b, off, c, by rw [e, List.length_map]⟩
    have HB2 := Lib.hid hb2
    have HV := Lib.hid hv'
    obtain ⟨ll, HLL⟩ := nameIt L.length
    rw [HLL.out] at HV hlen hpos
    rw [HLL.out]
    obtain ⟨w3, HW3⟩ := nameIt (w2.alloc (.cells #[.slice (some ⟨b, off, none⟩) ll lc] 23))
    have hb3 : Below w2.heap.size w2 w3 := by rw [← HW3.out]; exact (Below.refl _ _).alloc (Nat.le_refl _) _
    have HXL : Hid (w3.heap[w2.heap.size]? = some (.cells #[.slice (some ⟨b, off, none⟩) ll lc] 23 (0, 0))) := by rw [← HW3.out]; exact bx_new _ _ _ rfl
    have HB3 : Hid (Below w1.heap.size w1 w3) := HB2.out.trans (hb3.mono HB2.out.size)
    have HV3 := Lib.hid (HV.out.below hb3)
    have HC3 := Lib.hid (HCK.out w3 HB3.out)
    obtain ⟨lb, HLBN⟩ := nameIt w2.heap.size
    rw [HLBN.out] at HXL
    clear hv' hb2 hb3 x0 x1
    go_upto_region 2 with fail
    rw [HW3.out, HLBN.out]
    clear HW3
    have x0 := bx_cells1 (bx_keep HXT.out HB3.out)
    have x2 := bx_cells1 (bx_keep HXY.out HB3.out)
    have x3 := bx_cells1 (bx_keep HXO.out HB3.out)
    go_wp2_with fail
    refine HC3.out.mono ?_
    intro e w4 hpost
    obtain ⟨rfl, hb4⟩ := hpost
    have HB4 : Hid (Below w1.heap.size w1 w4) := HB3.out.trans (hb4.mono HB3.out.size)
    have HXL4 := Lib.hid (bx_keep HXL.out hb4)
    have HV4 := Lib.hid (HV3.out.below hb4)
    have HKO : Hid (chk (t : Int) yes no = 0 → wordOk (t : Int) yes ∧ wordOk (t : Int) no) := chk_ok
    obtain ⟨ck, HCKN⟩ := nameIt (chk (t : Int) yes no)
    rw [HCKN.out] at HGE HKO
    rw [HCKN.out]
    clear hb4 HXL HV3 HC3 x0 x2 x3
    by_cases hck : ck = 0
    · have hckb : (ck != 0) = false := by simpa using hck
      have hko := HKO.out hck
      rw [hck] at HGE
      obtain ⟨fb, HFB⟩ := nameIt w4.heap.size
      obtain ⟨w5, HW5⟩ := nameIt (w4.alloc (.cells #[FVal tb nb yb ob lb fb] 48))
      have hb5 : Below w4.heap.size w4 w5 := by rw [← HW5.out]; exact (Below.refl _ _).alloc (Nat.le_refl _) _
      have HXF : w5.heap[w4.heap.size]? = some (.cells #[FVal tb nb yb ob lb fb] 48 (0, 0)) := by rw [← HW5.out]; exact bx_new _ _ _ rfl
      have HB5 : Hid (Below w1.heap.size w1 w5) := HB4.out.trans (hb5.mono HB4.out.size)
      rw [HFB.out] at HXF
      have henv : OfEnv (t : Int) (n : Int) yes no L tb nb yb ob lb fb ya yc na nc b off lc w5 := by
        refine ⟨bx_cells1 (bx_keep HXT.out HB5.out), bx_cells1 (bx_keep HXN.out HB5.out), ?_, ?_, ?_, bx_cells1 HXF, HY.out.below HB5.out, HN.out.below HB5.out, ?_, HT.out.keep HB5.out⟩
        · rw [HYL.out]; exact bx_cells1 (bx_keep HXY.out HB5.out)
        · rw [HNL.out]; exact bx_cells1 (bx_keep HXO.out HB5.out)
        · rw [HLL.out]; exact bx_cells1 (bx_keep HXL4.out hb5)
        · rw [HLL.out]; exact HV4.out.below hb5
      have hof : ∀ k, OfC (t : Int) (n : Int) yes no L tb nb yb ob lb fb w5 k := by
        intro k
        induction k with
        | zero => exact of_zero henv hko.1 hko.2 HLC.out
        | succ k ih => exact of_succ henv (by rw [HLL.out]; omega) HLR4.out k ih
      have HOF : Hid (∀ (k : Nat) W, k ≤ 3 → Below w5.heap.size w5 W → Calls Tryd.prog 15 #[.int .i64 0, .int .i64 (k : Int), .slice none 0 0, .pointer (some ⟨tb, 0, none⟩), .pointer (some ⟨nb, 0, none⟩), .pointer (some ⟨yb, 0, none⟩), .pointer (some ⟨ob, 0, none⟩), .pointer (some ⟨lb, 0, none⟩), .pointer (some ⟨fb, 0, none⟩)] W (OfP (fitG (t : Int) (n : Int) yes no) k L [] (t : Int) (n : Int) (fun _ => False) W)) :=
        fun k W hk hb => hof k 0 [] none 0 (fun _ => False) W (Nat.zero_le _) (by simp; omega) (List.nil_sublist _) hb (fun _ h => h.elim) ⟨none, 0, [], rfl, by simp, by simp [maxLen], fun _ => rfl, fun i hi => by simp at hi, rfl⟩
      have HFX : Hid (∀ W, Below w5.heap.size w5 W → W.cell? ⟨fb, 0, none⟩ = some (FVal tb nb yb ob lb fb)) := fun W h => bx_cells1 (bx_keep HXF h)
      have HCP : Hid (∀ (r : List Rule) a c W, r.Sublist L → r.length ≤ 3 → Rd AnyB W (.sl (r.map Rule.d)) [.slice a r.length c] → Calls Tryd.prog 18 #[.agg #[.int .i64 (t : Int), .int .i64 (n : Int), .int .i64 0, .slice a r.length c]] W (CopyG ⟨(t : Int), (n : Int), 0, r⟩ W)) :=
        fun r a c W h1 h2 h3 => copyG ⟨(t : Int), (n : Int), 0, r⟩ (fun x hx => HLR4.out x (h1.subset hx)) (by show r.length ≤ 100; omega) a c W h3
      have HSUB : Hid (∀ k r, fF (fitG (t : Int) (n : Int) yes no) k L [] = some r → r.Sublist L ∧ r.length = k) := fun k r h => by
        obtain ⟨h1, h2, _⟩ := fF_sub k 0 [] r (Nat.zero_le _) (List.nil_sublist _) (by rw [List.drop_zero]; exact h)
        exact ⟨h1, by simpa using h2⟩
      have HG0 : Hid (gF (fitG (t : Int) (n : Int) yes no) L 0 = none) := rfl
      have HGN : Hid (∀ k, gF (fitG (t : Int) (n : Int) yes no) L (k + 1) = (gF (fitG (t : Int) (n : Int) yes no) L k).or (fF (fitG (t : Int) (n : Int) yes no) k L [])) := fun k => rfl
      obtain ⟨fit, HFT⟩ := nameIt (fitG (t : Int) (n : Int) yes no)
      rw [HFT.out] at HG0 HF0 HF5
      simp only [HFT.out] at HOF HGN HSUB
      have eg15 : ∀ args w, (callFunc 15 args).run Tryd.prog w = .ok (.enter 15 args) w := fun _ _ => by kernel_rfl
      unfold FVal at HFX HW5
      clear hb5 HXF henv hof hko hck
      go_wp2_with fail
      rw [HFB.out, HW5.out]
      clear HW5
      go_loopg [14, 15, 16, 36] 4 (fun gg v14 v15 v16 v36 wr => ∃ k : Nat, k ≤ 4 ∧ 4 - k ≤ gg ∧ v36 = .int .i64 (k : Int) ∧ Hid (gF fit L k = none) ∧ Hid (Below w5.heap.size w5 wr))
      case atStart => exact ⟨0, by omega, by omega, rfl, HG0, Below.refl _ _⟩
      case round =>
        clear HG0
        obtain ⟨k, hk, hgg, rfl, HGK, HBR⟩ := hrel
        obtain ⟨wr, rfl⟩ : ∃ ww : World, ww = wr := ⟨_, rfl⟩
        by_cases hk4 : k < 4
        · have hk4' : (k : Int) < 4 := by omega
          have x0 := HFX.out wr HBR.out
          have HC := Lib.hid (HOF.out k wr (by omega) HBR.out)
          have HGN1 := Lib.hid (HGN.out k)
          go_wp2_with fail
          with_reducible refine HC.out.mono ?_
          rintro e w6 ⟨y0, y1, y2, sa, sk, sc, fl, rfl, hor, hb6⟩
          have HOR := Lib.hid hor
          have HB6 : Hid (Below w5.heap.size w5 w6) := HBR.out.trans (hb6.mono HBR.out.size)
          obtain ⟨w7, HW7⟩ := nameIt (w6.alloc (.cells #[.int .i64 y0, .int .i64 y1, .int .i64 y2, .slice sa sk sc] 25))
          have hb7 : Below w6.heap.size w6 w7 := by rw [← HW7.out]; exact (Below.refl _ _).alloc (Nat.le_refl _) _
          have HX7 : Hid (w7.heap[w6.heap.size]? = some (.cells #[.int .i64 y0, .int .i64 y1, .int .i64 y2, .slice sa sk sc] 25 (0, 0))) := by rw [← HW7.out]; exact bx_new _ _ _ rfl
          have HB7 : Hid (Below w5.heap.size w5 w7) := HB6.out.trans (hb7.mono HB6.out.size)
          have HOR7 := Lib.hid (HOR.out.keep hb7)
          obtain ⟨gb, HGB⟩ := nameIt w6.heap.size
          rw [HGB.out] at HX7
          clear hor hb6 hb7 HC x0 HOR
          go_upto_region 13 with fail
          rw [HW7.out, HGB.out]
          clear HW7
          cases fl with
          | true =>
            obtain ⟨r, h2, rfl, rfl, rfl, rfl, h7⟩ : ∃ r, fF fit k L [] = some r ∧ y0 = (t : Int) ∧ y1 = (n : Int) ∧ y2 = 0 ∧ r.length = sk ∧ Rd (fun k => ¬ (fun _ => False) k) w7 (.sl (r.map Rule.d)) [.slice sa sk sc] := by
              rcases HOR7.out with ⟨_, h⟩ | ⟨h, _⟩
              · exact h
              · cases h
            obtain ⟨hs1, hs2⟩ := HSUB.out k r h2
            have HCR := Lib.hid (HCP.out r sa sc w7 hs1 (by omega) h7.any)
            have HG4 : Hid (gF fit L 4 = some r) := gF_up (n := k + 1) (by rw [HGN1.out, HGK.out, h2]; rfl) (by omega)
            have hsz5 : w1.heap.size ≤ w7.heap.size := by have := HB5.out.size; have := HB7.out.size; omega
            obtain ⟨x0, x1, x2, x3⟩ := bx_cells4 HX7.out
            clear h2 hs1 hs2 h7 HOR7
            obtain ⟨rl, HRLN⟩ := nameIt r.length
            rw [HRLN.out] at HCR x3
            rw [HRLN.out]
            go_wp2_with fail
            refine HCR.out.mono ?_
            intro e w8 hpost
            obtain ⟨a8, c8, rfl, hr8, hb8⟩ := hpost
            have HB8 : Hid (Below w1.heap.size w1 w8) := HB5.out.trans ((HB7.out.trans (hb8.mono HB7.out.size)).mono HB5.out.size)
            have HE := Lib.hid (fun x0 x1 x2 x3 => HF0.out r a8 c8 w8 x0 x1 x2 x3 HGE.out HG4.out (hr8.mono fun k hk _ => by omega) HB8.out)
            dsimp only
            rw [HRLN.out]
            rw [HRLN.out] at HE
            clear hr8 hb8 HCR x0 x1 x2 x3
            obtain ⟨r0, r1, r2, r3⟩ := bx_cells4 (bx_keep HXR.out HB8.out)
            obtain ⟨f0, f1, f2, f3⟩ := bx_free4 (bx_keep HXR.out HB8.out)
            go_wp2_with fail
            refine bodyPost_ret (v := .tuple #[.agg #[.int .i64 (t : Int), .int .i64 (n : Int), .int .i64 0, .slice a8 rl c8], .int .i64 0]) (by simp [results, Tryd.results4, go_sem, r0, r1, r2, r3]) rfl ?_
            exact HE.out _ _ _ _
          | false =>
            have HGK1 : Hid (gF fit L (k + 1) = none) := by
              show _ = _
              rcases HOR7.out with ⟨h, _⟩ | ⟨_, h⟩
              · cases h
              · rw [HGN1.out, HGK.out, h]; rfl
            go_wp2_with fail
            go_roundg (4 - (k + 1))
            case measure => omega
            case rel => exact ⟨k + 1, by omega, by omega, by go_num, HGK1, HB7⟩
        · have hk4' : ¬ (k : Int) < 4 := by omega
          obtain rfl : k = 4 := by omega
          have HBW : Hid (Below w1.heap.size w1 wr) := HB5.out.trans (HBR.out.mono HB5.out.size)
          have HE := Lib.hid (fun x0 x1 x2 x3 => HF5.out wr x0 x1 x2 x3 HGE.out HGK.out HBW.out)
          obtain ⟨r0, r1, r2, r3⟩ := bx_cells4 (bx_keep HXR.out HBW.out)
          obtain ⟨f0, f1, f2, f3⟩ := bx_free4 (bx_keep HXR.out HBW.out)
          go_wp2_with fail
          refine bodyPost_ret (v := .tuple #[.agg #[.int .i64 0, .int .i64 0, .int .i64 0, .slice none 0 0], .int .i64 5]) (by simp [results, Tryd.results4, go_sem, r0, r1, r2, r3]) rfl ?_
          exact HE.out _ _ _ _
    · have hckb : (ck != 0) = true := by simpa using hck
      have HE := Lib.hid (fun x0 x1 x2 x3 => HFE.out ck w4 x0 x1 x2 x3 HGE.out hck HB4.out)
      clear hck
      obtain ⟨r0, r1, r2, r3⟩ := bx_cells4 (bx_keep HXR.out HB4.out)
      obtain ⟨f0, f1, f2, f3⟩ := bx_free4 (bx_keep HXR.out HB4.out)
      go_wp2_with fail
      refine bodyPost_ret (v := .tuple #[.agg #[.int .i64 0, .int .i64 0, .int .i64 0, .slice none 0 0], .int .i64 ck]) (by simp [results, Tryd.results4, go_sem, r0, r1, r2, r3]) rfl ?_
      exact HE.out _ _ _ _
end Gs
end Go.Proofs.YthnkgmlhpefldaaDoor
namespace Go.Proofs.YthnkgmlhpefldaaDoor
open Go.RowKit

/-- a block that is known whole is a row -/
theorem own_of_block {w : World} {g : Nat} {e : TypeId} {size n : Nat} {cur : Array Value} (h : w.heap[g]? = some (.cells cur e (0, 0))) (hn : cur.size = n * size) (hm : n ≤ maxLen) : w.ownsRow 0 e size (.slice (some ⟨g, 0, none⟩) n n) n cur.toList :=
  ⟨by simpa using hn, .inr ⟨_, n, cur, rfl, Nat.zero_le _, h, Nat.le_refl _, hm, hn, by rw [← hn]; exact List.take_of_length_le (by simp)⟩⟩
end Go.Proofs.YthnkgmlhpefldaaDoor
