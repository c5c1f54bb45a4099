/- The contracts of lower, Lower and Lowered, for whatever condition of words. -/
import Derived.Test.YtfbacnifankfkaaShrunkWalk
namespace Go.Proofs.Ytfbacnifankfkaa
open Go.RowKit

theorem own_set {w : World} {B g n cap : Nat} {e : TypeId} {xs : List Value} (h : w.ownsRow B e 1 (.slice (some ⟨g, 0, none⟩) n cap) n xs) {i : Nat} (v : Value) :
    (w.setCell ⟨g, i, none⟩ v).ownsRow B e 1 (.slice (some ⟨g, 0, none⟩) n cap) n (xs.set i v) := by
  obtain ⟨hl, h2⟩ := h
  refine ⟨by simpa using hl, .inr ?_⟩
  rcases h2 with ⟨h, _⟩ | ⟨g', cap', cur, hv, hg, hh, hn, hc, hs, ht⟩
  · cases h
  · cases hv
    refine ⟨g, cap, cur.setIfInBounds i v, rfl, hg, ?_, hn, hc, by simpa using hs, ?_⟩
    · simp [World.setCell, Array.getElem?_modify, hh]
    · rw [Array.toList_setIfInBounds, List.take_set, ht]

theorem own_block {w : World} {B n : Nat} {e : TypeId} {v : Value} {xs : List Value} (h : w.ownsRow B e 1 v n xs) (hn : 0 < n) :
    ∃ g cap cur, v = .slice (some ⟨g, 0, none⟩) n cap ∧ B ≤ g ∧ g < w.heap.size ∧ n ≤ cap ∧ cap ≤ maxLen ∧ w.heap[g]? = some (.cells cur e (0, 0)) ∧ cap = cur.size := by
  rcases h.2 with ⟨_, h⟩ | ⟨g', cap', cur, hv, hg, hh, hn, hc, hs, ht⟩
  · omega
  · exact ⟨g', cap', cur, hv, hg, (Array.getElem?_eq_some_iff.1 hh).1, hn, hc, hh, by omega⟩

theorem ints_set (l : List Int) (i : Nat) (s : Int) : (ints l).set i (.int .i64 s) = ints (l.set i s) := by simp [ints, List.map_set]

def LowPost (F : List Int → Bool) (l : List Int) (w : World) (e : Ending) (w' : World) : Prop :=
  ∃ v, e = .returned (.tuple #[v, .bool (lowOne F l).isSome]) ∧ Sl w' v (ints ((lowOne F l).getD [])) ∧ Below w.heap.size w w'

theorem getD_nat {l : List Int} (hl : small l) {i : Nat} (hi : i < l.length) : ∃ T : Nat, T ≤ 7 ∧ l.getD i 0 = (T : Int) ∧ l[i] = (T : Int) := by
  have := hl l[i] (List.getElem_mem hi)
  refine ⟨l[i].toNat, by omega, ?_, by omega⟩
  simp [List.getD, hi]; omega

set_option maxHeartbeats 1000000 in
set_option maxRecDepth 100000 in
theorem lowE (g : Nat) (lb : Array Value) (F : List Int → Bool) (a : Option Addr) (cap : Nat) (l : List Int) (w : World) (eg : ∀ args w, (callFunc g args).run Try.prog w = .ok (.enter g args) w)
    (hf : FailsAt g lb F w) (hl : Sl w (.slice a l.length cap) (ints l)) (hx : l.length ≤ 60) (hsm : small l) :
    Calls Try.prog 106 #[.slice a l.length cap, .func (.func g) #[] lb] w (LowPost F l w) := by
  have HL := Lib.hid hl
  have HF := Lib.hid hf
  have HS := Lib.hid hsm
  have hc := hl.len.2
  unfold maxLen at hc
  obtain ⟨hcx1, hcx2⟩ := hc
  clear hl hf hsm
  go_enter Try.func106, Try.ntmps106
  go_wp2
  go_loopg [12] l.length (fun gg v12 wr => ∃ (i : Nat), i ≤ l.length ∧ l.length - i ≤ gg ∧ v12 = .int .i64 i ∧ Hid (Below w.heap.size w wr) ∧ Hid (∀ j, j < i → lowAt F l j = none))
  case atStart => exact ⟨0, by omega, by omega, rfl, Below.refl _ _, fun j hj => by omega⟩
  case round =>
    obtain ⟨i, hix, hg, rfl, HB, HN⟩ := hrel
    by_cases hlt : i < l.length
    · have hlt' : (i : Int) < (l.length : Int) := by omega
      obtain ⟨T, hT, ht1, ht2⟩ := getD_nat HS.out hlt
      have HT1 := Lib.hid ht1
      obtain ⟨ba, oa, hae, hca⟩ := (HL.out.keep HB.out).at hlt
      have c1 := hca i (by rw [ints_len]; exact hlt)
      rw [ints_get, ht2] at c1
      subst hae
      clear hca ht1 ht2
      go_wp2
      go_loopg [18] T (fun gg v18 wq => ∃ (s : Nat), s ≤ T ∧ T - s ≤ gg ∧ v18 = .int .i64 s ∧ Hid (Below w.heap.size w wq) ∧ Hid (∀ j : Nat, j < s → F (l.set i j) = false))
      case atStart => exact ⟨0, by omega, by omega, rfl, HB, fun j hj => by omega⟩
      case round =>
        clear HB c1
        obtain ⟨s, hs, hgs, rfl, HB, HNS⟩ := hrel
        by_cases hst : s < T
        · have hst' : (s : Int) < (T : Int) := by omega
          go_wp2_with fail
          refine (clone_int _ l _ (HL.out.keep HB.out) (by omega)).mono ?_
          rintro e w1 ⟨a1, k1, rfl, ho1, hb1⟩
          obtain ⟨g1, k1', cur, hv, hbg, hgs, hk1, hk2, hcells, hcur⟩ := own_block ho1 (by omega)
          cases hv
          unfold maxLen at hk2
          have cc : ∃ u, w1.cell? ⟨g1, 0 + i, none⟩ = some u := by
            refine ⟨cur[i]'(by omega), ?_⟩
            simp [World.cell?, hcells]
          obtain ⟨u, cu⟩ := cc
          have cfz : w1.frozen? ⟨g1, 0 + i, none⟩ = false := by simp [World.frozen?, hcells]
          have HO1 := Lib.hid (own_set ho1 (i := i) (.int .i64 s))
          have HB1 : Hid (Below w.heap.size w (w1.setCell ⟨g1, i, none⟩ (.int .i64 s))) := HB.out.trans ((hb1.mono HB.out.size).setCell (p := ⟨g1, i, none⟩) (by have := HB.out.size; simp; omega) _)
          rw [Nat.zero_add] at cu cfz
          clear ho1 hb1 hcells hcur hbg
          rw [ints_set] at HO1
          obtain ⟨z, HZ⟩ : ∃ z, Hid (l.set i (s : Int) = z) := ⟨_, rfl⟩
          rw [HZ.out] at HO1
          have hzl : z.length ≤ 60 := by rw [← HZ.out]; simpa using hx
          go_wp2_with fail
          refine (clone_int _ z _ (sl_of_own HO1.out) (by omega)).mono ?_
          rintro e w5 ⟨a5, c5, rfl, ho5, hb5⟩
          have HO5 := Lib.hid (sl_of_own ho5)
          have HO5' := Lib.hid ((sl_of_own HO1.out).keep hb5)
          have HB5 := Lib.hid (HB1.out.trans (hb5.mono HB1.out.size))
          clear ho5 hb5 HO1 HB1 cu cfz
          go_wp2_with fail
          refine (HF.out w5 _ z HB5.out HO5.out).mono ?_
          rintro e w6 ⟨rfl, hb6⟩
          have HO6 := Lib.hid (HO5'.out.keep hb6)
          have HB6 := Lib.hid (HB5.out.trans (hb6.mono HB5.out.size))
          clear hb6 HO5 HO5' HB5
          cases hFz : F z with
          | true =>
            have HE : Hid (lowOne F l = some z) := by
              show _ = _
              rw [← HZ.out]
              exact lowOne_some hlt HN.out (lowAt_some (by rw [HT1.out]; simpa using hst) (by rw [HZ.out]; exact hFz) HNS.out)
            clear hFz
            go_wp2
            go_ret2
            refine ⟨_, (by rw [HE.out]; rfl), ?_, HB6.out⟩
            rw [HE.out]
            exact HO6.out
          | false =>
            have HN2 : Hid (∀ j : Nat, j < s + 1 → F (l.set i j) = false) := by
              intro j hj
              by_cases e : j = s
              · rw [e, HZ.out]; exact hFz
              · exact HNS.out j (by omega)
            clear hFz
            go_wp2
            go_roundg (T - (s + 1))
            case measure => omega
            case rel => exact ⟨s + 1, by omega, by omega, by go_num, HB6, HN2⟩
        · have hst' : ¬ (s : Int) < (T : Int) := by omega
          have HN2 : Hid (∀ j, j < i + 1 → lowAt F l j = none) := by
            intro j hj
            by_cases e : j = i
            · rw [e]
              refine lowAt_none fun q hq => HNS.out q ?_
              rw [HT1.out] at hq
              simp at hq; omega
            · exact HN.out j (by omega)
          go_wp2
          go_roundg (l.length - (i + 1))
          case measure => omega
          case rel => exact ⟨i + 1, by omega, by omega, by go_num, HB, HN2⟩
    · have hlt' : ¬ (i : Int) < (l.length : Int) := by omega
      have HE : Hid (lowOne F l = none) := lowOne_none fun j hj => HN.out j (by omega)
      go_wp2
      go_ret2
      refine ⟨_, (by rw [HE.out]; rfl), ?_, HB.out⟩
      rw [HE.out]
      exact sl_nil _
end Go.Proofs.Ytfbacnifankfkaa
