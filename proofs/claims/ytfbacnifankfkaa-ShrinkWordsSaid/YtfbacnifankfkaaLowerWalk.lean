/- The contract of shrink.Lower, for whatever condition of words. -/
import Derived.Test.YtfbacnifankfkaaLowWalk
import Derived.Test.YtfbacnifankfkaaPreds
namespace Go.Proofs.Ytfbacnifankfkaa
open Go.RowKit

def badT (x : Int) : Bool := decide (x < 0) || decide (8 ≤ x)
def lowerErr (F : List Int → Bool) (l : List Int) : Int := if 60 < l.length then 2 else if l.any badT then 1 else if F l then 0 else 7
def lowerRes (F : List Int → Bool) (l : List Int) : List Int := if lowerErr F l = 0 then lowered F (sm l + 1) l else []
def LowerPost (F : List Int → Bool) (l : List Int) (w : World) (e : Ending) (w' : World) : Prop :=
  ∃ v, e = .returned (.tuple #[v, .int .i64 (lowerErr F l)]) ∧ Sl w' v (ints (lowerRes F l)) ∧ Below w.heap.size w w'
theorem small_of {l : List Int} (h : l.any badT = false) : small l := by
  intro x hx
  have := List.any_eq_false.1 h x hx
  simp [badT] at this
  omega

set_option maxHeartbeats 1000000 in
theorem badTE (x : Int) (w : World) : Calls Try.prog 105 #[.int .i64 x] w fun e w' => e = .returned (.bool (badT x)) ∧ Below w.heap.size w w' := by
  by_cases h : x < 0
  · have h1 : decide (x < 0) = true := by simpa using h
    go_enter Try.func105, Try.ntmps105
    go_wp2
    go_ret
    exact ⟨by simp [badT, h], Below.refl _ _⟩
  · have h1 : decide (x < 0) = false := by simpa using h
    go_enter Try.func105, Try.ntmps105
    go_wp2
    go_ret
    exact ⟨by simp [badT]; omega, Below.refl _ _⟩

/-- the state of the loop -/
structure LowRel (F : List Int → Bool) (l0 : List Int) (w : World) (l : List Int) (m : Nat) (v u : Value) (wr : World) : Prop where
  sl : Sl wr v (ints l)
  nx : Sl wr u (ints ((lowOne F l).getD []))
  le : l.length ≤ 60
  sm : small l
  lm : Go.Proofs.Ytfbacnifankfkaa.sm l < m
  eq : lowered F m l = lowered F (Go.Proofs.Ytfbacnifankfkaa.sm l0 + 1) l0
  bel : Below w.heap.size w wr

set_option maxHeartbeats 1000000 in
set_option maxRecDepth 100000 in
theorem lowerE (g : Nat) (lb : Array Value) (F : List Int → Bool) (a : Option Addr) (cap : Nat) (l : List Int) (w : World) (eg : ∀ args w, (callFunc g args).run Try.prog w = .ok (.enter g args) w)
    (hf : FailsAt g lb F w) (hl : Sl w (.slice a l.length cap) (ints l)) :
    Calls Try.prog 66 #[.slice a l.length cap, .func (.func g) #[] lb] w (LowerPost F l w) := by
  have HL := Lib.hid hl
  have HF := Lib.hid hf
  have HG := Lib.hid eg
  have hc := hl.len.2
  unfold maxLen at hc
  obtain ⟨hc1, hc2⟩ := hc
  clear hl hf
  by_cases hlen : 60 < l.length
  · have HE : Hid (lowerErr F l = 2) := by show _ = _; simp [lowerErr, hlen]
    have hlen' : 60 < (l.length : Int) := by omega
    go_enter Try.func66, Try.ntmps66
    go_wp2
    go_ret2
    refine ⟨_, (by rw [HE.out]; rfl), ?_, Below.refl _ _⟩
    rw [lowerRes, HE.out, if_neg (by decide)]
    exact sl_nil _
  have hlen' : ¬ 60 < (l.length : Int) := by omega
  go_enter Try.func66, Try.ntmps66
  go_wp2_with fail
  refine (containsFunc 105 #[] badT _ _ l w (fun _ _ => by kernel_rfl) (fun W x _ _ => badTE x W) HL.out).mono ?_
  rintro e w0 ⟨rfl, hb0⟩
  have HB0 := Lib.hid hb0
  clear hb0
  cases hbad : l.any badT with
  | true =>
    have HE : Hid (lowerErr F l = 1) := by show _ = _; simp [lowerErr, hlen, hbad]
    clear hbad
    go_wp2
    go_ret2
    refine ⟨_, (by rw [HE.out]; rfl), ?_, HB0.out⟩
    rw [lowerRes, HE.out, if_neg (by decide)]
    exact sl_nil _
  | false =>
  have HSM := Lib.hid (small_of hbad)
  have HBD := Lib.hid hbad
  clear hbad
  go_wp2_with fail
  refine (clone_int _ l w0 (HL.out.keep HB0.out) (by omega)).mono ?_
  rintro e w1 ⟨a1, c1, rfl, ho, hb1⟩
  have HO1 := Lib.hid (sl_of_own ho)
  have HB1 := Lib.hid (HB0.out.trans (hb1.mono HB0.out.size))
  clear ho hb1
  go_wp2_with fail
  refine (HF.out w1 _ l HB1.out HO1.out).mono ?_
  rintro e w2 ⟨rfl, hb2⟩
  have HB2 := Lib.hid (HB1.out.trans (hb2.mono HB1.out.size))
  clear hb2 HB1 HO1
  cases hFl : F l with
  | false =>
    have HE : Hid (lowerErr F l = 7) := by show _ = _; simp [lowerErr, hlen, hFl, HBD.out]
    clear hFl
    go_wp2
    go_ret2
    refine ⟨_, (by rw [HE.out]; rfl), ?_, HB2.out⟩
    rw [lowerRes, HE.out, if_neg (by decide)]
    exact sl_nil _
  | true =>
    have HE : Hid (lowerErr F l = 0) := by show _ = _; simp [lowerErr, hlen, hFl, HBD.out]
    clear hFl
    go_wp2_with fail
    refine (clone_int _ l w2 (HL.out.keep HB2.out) (by omega)).mono ?_
    rintro e w3 ⟨a3, c3, rfl, ho, hb3⟩
    have HO3 := Lib.hid (sl_of_own ho)
    have HB3 := Lib.hid (HB2.out.trans (hb3.mono HB2.out.size))
    clear ho hb3 HB2
    go_wp2_with fail
    refine (lowE g lb F a3 c3 l w3 HG.out (HF.out.later HB3.out) HO3.out (by omega) HSM.out).mono ?_
    rintro e w4 ⟨v4, rfl, hs4, hb4⟩
    obtain ⟨q, HQ⟩ : ∃ q, Hid ((lowOne F l).isSome = q) := ⟨_, rfl⟩
    have HR : Hid (LowRel F l w l (sm l + 1) (.slice a3 l.length c3) v4 w4) := ⟨HO3.out.keep hb4, hs4, by omega, HSM.out, by omega, rfl, HB3.out.trans (hb4.mono HB3.out.size)⟩
    rw [HQ.out]
    clear hs4 hb4 HB3 HO3
    go_wp2
    go_loopg [0, 6, 7] (sm l) (fun gg v0 v6 v7 wr => ∃ (x : List Int) (m : Nat) (a : Option Addr) (cap : Nat) (q : Bool), sm x ≤ gg ∧ v0 = .slice a x.length cap ∧ v7 = .bool q ∧ Hid ((lowOne F x).isSome = q) ∧ Hid (LowRel F l w x m (.slice a x.length cap) v6 wr))
    case atStart => exact ⟨l, _, a3, c3, q, by omega, rfl, rfl, HQ, HR⟩
    case round =>
      clear HR HQ
      obtain ⟨x, m, ax, cx, q, hg, rfl, rfl, HQ, HR⟩ := hrel
      cases q with
      | true =>
        obtain ⟨y, hy⟩ := Option.isSome_iff_exists.1 HQ.out
        obtain ⟨hless, hsmy, hleny⟩ := lowOne_less HR.out.sm hy
        obtain ⟨m', hm'⟩ : ∃ m', m = m' + 1 := ⟨m - 1, by have := HR.out.lm; omega⟩
        have hny := HR.out.nx
        rw [hy] at hny
        obtain ⟨ay, cy, hvy⟩ := hny.form
        have hyl : (ints ((some y).getD [])).length = y.length := by simp [ints]
        rw [hyl] at hvy
        have HNY := Lib.hid hny
        have HY := Lib.hid hy
        have HM := Lib.hid hm'
        subst hvy
        clear hny hy hm' hyl
        have hx := HR.out.le
        have HLY := Lib.hid hleny
        have hly2 : y.length ≤ 60 := by omega
        clear hleny
        go_wp2_with fail
        refine (lowE g lb F ay cy y _ HG.out (HF.out.later HR.out.bel) HNY.out hly2 hsmy).mono ?_
        rintro e w4 ⟨v4, rfl, hs4, hb4⟩
        obtain ⟨q', HQ'⟩ : ∃ q', Hid ((lowOne F y).isSome = q') := ⟨_, rfl⟩
        have HR' : Hid (LowRel F l w y m' (.slice ay y.length cy) v4 w4) := ⟨HNY.out.keep hb4, hs4, hly2, hsmy, by have h1 := HR.out.lm; have h2 := HM.out; omega, by rw [← HR.out.eq, HM.out, lowered_some HY.out], HR.out.bel.trans (hb4.mono HR.out.bel.size)⟩
        rw [HQ'.out]
        clear hs4 hb4
        go_wp2
        go_roundg (sm y)
        case measure => omega
        case rel => exact ⟨y, m', ay, cy, q', by omega, rfl, rfl, HQ', HR'⟩
      | false =>
        have HD : Hid (lowered F (sm l + 1) l = x) := by
          show _ = _
          rw [← HR.out.eq]
          exact lowered_none (Option.not_isSome_iff_eq_none.1 (by rw [HQ.out]; decide))
        go_wp2
        go_ret2
        refine ⟨_, (by rw [HE.out]; rfl), ?_, HR.out.bel⟩
        rw [lowerRes, HE.out, if_pos rfl, HD.out]
        exact HR.out.sl
end Go.Proofs.Ytfbacnifankfkaa
