/- The contracts of shrink.Word and of Shrunk, for whatever condition of words. -/
import Derived.Test.YtfbacnifankfkaaShrink
import Derived.Deep.RegionLaw
import Derived.Deep.RegionWith
import Derived.StillTailTactics
import Derived.Shelf.Abstract
import Derived.Deep.LoopGhost
import Derived.Deep.DeepCutAuto
import Derived.Deep.Cut
namespace Go.Proofs.Ytfbacnifankfkaa
open Go.RowKit

/-- a condition of words, as a function value: it reads, and lays what it lays beside what lies -/
def FailsAt (g : Nat) (lb : Array Value) (F : List Int → Bool) (w : World) : Prop :=
  ∀ (W : World) (v : Value) (l : List Int), Below w.heap.size w W → Sl W v (ints l) → Calls Try.prog g (#[v] ++ lb) W fun e w' => e = .returned (.bool (F l)) ∧ Below W.heap.size W w'
theorem FailsAt.later {g : Nat} {lb : Array Value} {F : List Int → Bool} {w W : World} (h : FailsAt g lb F w) (hb : Below w.heap.size w W) : FailsAt g lb F W :=
  fun W' v l hb' hv => h W' v l (hb.trans (hb'.mono hb.size)) hv

def wordErr (F : List Int → Bool) (l : List Int) : Int := if 60 < l.length then 2 else if F l then 0 else 7
def wordRes (F : List Int → Bool) (l : List Int) : List Int := if wordErr F l = 0 then shrunk F 61 l else []
def WordPost (F : List Int → Bool) (l : List Int) (w : World) (e : Ending) (w' : World) : Prop :=
  ∃ v, e = .returned (.tuple #[v, .int .i64 (wordErr F l)]) ∧ Sl w' v (ints (wordRes F l)) ∧ Below w.heap.size w w'

theorem sl_nil (w : World) : Sl w (.slice none 0 0) (ints []) := sl_of_own (B := 0) (e := 3) (World.ownsRow_nil _ _ _ _)

theorem del_flatten (l : List Int) (i : Nat) : [l.take i, l.drop (i + 1)].flatten = del l i := by simp [del]

theorem concat2d (w : World) (g : Nat) (e : TypeId) (v1 v2 : Value) (l1 l2 : List Int) (hg : g = w.heap.size) (h1 : Sl w v1 (ints l1)) (h2 : Sl w v2 (ints l2)) (hb : lens [l1, l2] * 8 ≤ 140737488355328) :
    Calls Try.prog 102 #[.slice (some ⟨g, 0, none⟩) 2 2] (w.alloc (.cells #[v1, v2] e)).drew (NewInts [l1, l2].flatten w) := by
  have hB : Below w.heap.size w (w.alloc (.cells #[v1, v2] e)).drew := ((Below.refl _ _).alloc (Nat.le_refl _) _).drew
  have hs : Sl (w.alloc (.cells #[v1, v2] e)).drew (.slice (some ⟨g, 0, none⟩) [v1, v2].length 2) [v1, v2] := sl_lit (v := #[v1, v2]) hg (by simp [maxLen])
  refine (concat_int (some ⟨g, 0, none⟩) 2 [v1, v2] [l1, l2] _ hs rfl ?_ hb).mono ?_
  · intro i hi
    simp at hi
    match i, hi with
    | 0, _ => exact h1.keep hB
    | 1, _ => exact h2.keep hB
  · rintro e w' ⟨a, c, rfl, ho, hb⟩
    exact ⟨a, c, rfl, ho.mono hB.size, hB.trans (hb.mono hB.size)⟩

/-- the state of the loop -/
structure WordRel (F : List Int → Bool) (l0 : List Int) (w : World) (l : List Int) (i m : Nat) (v : Value) (wr : World) : Prop where
  sl : Sl wr v (ints l)
  le : l.length ≤ 60
  il : i ≤ l.length
  lm : l.length < m
  eq : shrunk F m l = shrunk F 61 l0
  no : ∀ j, j < i → F (del l j) = false
  bel : Below w.heap.size w wr

set_option maxHeartbeats 1000000 in
set_option maxRecDepth 100000 in
theorem wordE (g : Nat) (lb : Array Value) (F : List Int → Bool) (a : Option Addr) (cap : Nat) (l : List Int) (w : World) (eg : ∀ args w, (callFunc g args).run Try.prog w = .ok (.enter g args) w)
    (hf : FailsAt g lb F w) (hl : Sl w (.slice a l.length cap) (ints l)) :
    Calls Try.prog 62 #[.slice a l.length cap, .func (.func g) #[] lb] w (WordPost F l w) := by
  have HL := Lib.hid hl
  have HF := Lib.hid hf
  have hc := hl.len.2
  unfold maxLen at hc
  obtain ⟨hc1, hc2⟩ := hc
  clear hl hf
  by_cases hlen : 60 < l.length
  · have HE : Hid (wordErr F l = 2) := by show _ = _; simp [wordErr, hlen]
    have hlen' : 60 < (l.length : Int) := by omega
    go_enter Try.func62, Try.ntmps62
    go_wp2
    go_ret2
    refine ⟨_, (by rw [HE.out]; rfl), ?_, Below.refl _ _⟩
    rw [wordRes, HE.out, if_neg (by decide)]
    exact sl_nil _
  have hlen' : ¬ 60 < (l.length : Int) := by omega
  go_enter Try.func62, Try.ntmps62
  go_wp2_with fail
  refine (clone_int _ l w HL.out (by omega)).mono ?_
  rintro e w1 ⟨a1, c1, rfl, ho, hb1⟩
  have HO1 := Lib.hid (sl_of_own ho)
  have HB1 := Lib.hid hb1
  clear ho hb1
  go_wp2_with fail
  refine (HF.out w1 _ l HB1.out HO1.out).mono ?_
  rintro e w2 ⟨rfl, hb2⟩
  have HB2 := Lib.hid (HB1.out.trans (hb2.mono HB1.out.size))
  clear hb2 HB1 HO1
  cases hFl : F l with
  | false =>
    have HE : Hid (wordErr F l = 7) := by show _ = _; simp [wordErr, hlen, hFl]
    clear hFl
    go_wp2
    go_ret2
    refine ⟨_, (by rw [HE.out]; rfl), ?_, HB2.out⟩
    rw [wordRes, HE.out, if_neg (by decide)]
    exact sl_nil _
  | true =>
    have HE : Hid (wordErr F l = 0) := by show _ = _; simp [wordErr, hlen, hFl]
    clear hFl
    go_wp2_with fail
    refine (clone_int _ l w2 (HL.out.keep HB2.out) (by omega)).mono ?_
    rintro e w3 ⟨a3, c3, rfl, ho, hb3⟩
    have HR : Hid (WordRel F l w l 0 61 (.slice a3 l.length c3) w3) := ⟨sl_of_own ho, by omega, by omega, by omega, rfl, fun j hj => by omega, HB2.out.trans (hb3.mono HB2.out.size)⟩
    clear ho hb3 HB2
    go_wp2
    go_loopg [0, 6, 7] (l.length * 62) (fun gg v0 v6 _ wr => ∃ (x : List Int) (i m : Nat) (a : Option Addr) (cap : Nat), x.length * 61 + (x.length - i) ≤ gg ∧ v0 = .slice a x.length cap ∧ v6 = .int .i64 i ∧ Hid (WordRel F l w x i m (.slice a x.length cap) wr))
    case atStart => exact ⟨l, 0, 61, a3, c3, by omega, rfl, rfl, HR⟩
    case round =>
      clear HR
      obtain ⟨x, i, m, ax, cx, hg, rfl, rfl, HR⟩ := hrel
      have hx := HR.out.le
      have hix := HR.out.il
      have hcx := HR.out.sl.len.2
      unfold maxLen at hcx
      obtain ⟨hcx1, hcx2⟩ := hcx
      by_cases hlt : i < x.length
      · have hlt' : (i : Int) < (x.length : Int) := by omega
        obtain ⟨k, HK⟩ : ∃ k, Hid (k = i + 1) := ⟨_, rfl⟩
        have s1 : IntKind.i64.wrap ((i : Int) + 1) = (k : Int) := by rw [IntWalk.i64_in _ (by omega), HK.out]; omega
        have h1 : (i : Int) ≤ (cx : Int) := by omega
        have h2 : (k : Int) ≤ (x.length : Int) := by rw [HK.out]; omega
        obtain ⟨vs, HVS, HSL⟩ : ∃ vs, Hid (vs = Value.slice (if cx = k then ax else ax.map fun x => x.add k) (x.length - k) (cx - k)) ∧ Hid (Sl wr vs (ints (x.drop (i + 1)))) := by
          refine ⟨_, rfl, ?_⟩
          rw [HK.out]
          have e : ints (x.drop (i + 1)) = ((ints x).drop (i + 1)).take (x.length - (i + 1)) := by rw [List.take_of_length_le (by simp [ints])]; simp [ints]
          rw [e]
          exact HR.out.sl.part hlt (Nat.le_refl _)
        have HST : Hid (Sl wr (.slice ax i cx) (ints (x.take i))) := by
          have e : ints (x.take i) = (ints x).take i := by simp [ints]
          rw [e]; exact HR.out.sl.start (by omega)
        have HLN : Hid (lens [x.take i, x.drop (i + 1)] * 8 ≤ 140737488355328) := by
          show _ ≤ _
          simp [lens]; omega
        obtain ⟨z, HZ⟩ : ∃ z, Hid (del x i = z) := ⟨_, rfl⟩
        have hzl : z.length + 1 = x.length := by rw [← HZ.out]; exact del_len x i hlt
        by_cases hct : cx = k
        all_goals
          first | (rw [if_pos hct] at HVS; subst hct; rw [show x.length - cx = 0 by omega, Nat.sub_self] at HVS) | rw [if_neg hct] at HVS
          go_upto_region 8 with fail
          refine wp_region_still_tail 7 (by kernel_rfl) (by kernel_rfl) ?_
          simp only [List.take_succ_cons, List.take_zero, List.drop_succ_cons, List.drop_zero]
          change wpStill _ _ (World.drew _) _ _ _
          repeat still_step
          refine wpStill_nil ?_
          change wpList _ _ _ _ _ (World.drew _)
          go_wp2_with fail
          refine (concat2d wr _ _ _ _ (x.take i) (x.drop (i + 1)) rfl HST.out (by have h := HSL.out; rw [HVS.out] at h; exact h) HLN.out).mono ?_
          rw [del_flatten, HZ.out]
          rintro e w4 ⟨a4, c4, rfl, ho4, hb4⟩
          have HO4 := Lib.hid (sl_of_own ho4)
          have HB4 := Lib.hid hb4
          clear ho4 hb4
          go_wp2_with fail
          refine (clone_int _ z w4 HO4.out (by omega)).mono ?_
          rintro e w5 ⟨a5, c5, rfl, ho5, hb5⟩
          have HO5 := Lib.hid (sl_of_own ho5)
          have HO5' := Lib.hid (HO4.out.keep hb5)
          have HB5 := Lib.hid (HB4.out.trans (hb5.mono HB4.out.size))
          clear ho5 hb5 HO4 HB4
          go_wp2_with fail
          refine (HF.out w5 _ z (HR.out.bel.trans (HB5.out.mono HR.out.bel.size)) HO5.out).mono ?_
          rintro e w6 ⟨rfl, hb6⟩
          have HO6 := Lib.hid (HO5'.out.keep hb6)
          have HB6 := Lib.hid (HB5.out.trans (hb6.mono HB5.out.size))
          clear hb6 HO5 HO5' HB5
          cases hFz : F z with
          | true =>
            have HN : Hid (∀ m', m = m' + 1 → shrunk F m' z = shrunk F 61 l) := by
              intro m' e
              rw [← HR.out.eq, e, ← HZ.out, shrunk_hit hlt (by rw [HZ.out]; exact hFz) HR.out.no]
            have hm := HR.out.lm
            clear hFz
            go_wp2
            go_roundg (z.length * 62)
            case measure => omega
            case rel => exact ⟨z, 0, m - 1, a4, c4, by omega, rfl, rfl, HO6.out, by omega, by omega, by omega, HN.out _ (by omega), fun j hj => by omega, HR.out.bel.trans (HB6.out.mono HR.out.bel.size)⟩
          | false =>
            have HN : Hid (∀ j, j < i + 1 → F (del x j) = false) := by
              intro j hj
              by_cases e : j = i
              · rw [e, HZ.out]; exact hFz
              · exact HR.out.no j (by omega)
            clear hFz
            go_wp2
            go_roundg (x.length * 61 + (x.length - (i + 1)))
            case measure => omega
            case rel => exact ⟨x, i + 1, m, ax, _, by omega, rfl, by have h := HK.out; simp; omega, HR.out.sl.keep HB6.out, by omega, by omega, HR.out.lm, HR.out.eq, HN.out, HR.out.bel.trans (HB6.out.mono HR.out.bel.size)⟩
      · have HD : Hid (shrunk F 61 l = x) := by
          show _ = _
          rw [← HR.out.eq]
          exact shrunk_end fun j hj => HR.out.no j (by omega)
        have hlt' : ¬ (i : Int) < (x.length : Int) := by omega
        go_wp2
        go_ret2
        refine ⟨_, (by rw [HE.out]; rfl), ?_, HR.out.bel⟩
        rw [wordRes, HE.out, if_pos rfl, HD.out]
        exact HR.out.sl
end Go.Proofs.Ytfbacnifankfkaa
