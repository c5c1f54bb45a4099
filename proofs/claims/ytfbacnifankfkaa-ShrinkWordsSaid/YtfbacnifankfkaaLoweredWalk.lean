/- The contract of Lowered, for whatever condition of words. -/
import Derived.Test.YtfbacnifankfkaaLowWalk
namespace Go.Proofs.Ytfbacnifankfkaa
open Go.RowKit

set_option maxHeartbeats 1000000 in
set_option maxRecDepth 100000 in
theorem loweredE (g : Nat) (lb : Array Value) (F : List Int → Bool) (eg : ∀ args w, (callFunc g args).run Try.prog w = .ok (.enter g args) w) (m : Nat) : ∀ (a : Option Addr) (cap : Nat) (l : List Int) (w : World),
    FailsAt g lb F w → Sl w (.slice a l.length cap) (ints l) → l.length ≤ 60 → small l → sm l < m →
    Calls Try.prog 70 #[.slice a l.length cap, .func (.func g) #[] lb] w (SlPost (lowered F m l) w) := by
  induction m with
  | zero => intro a cap x w _ _ _ _ h; exact absurd h (Nat.not_lt_zero _)
  | succ m ih =>
  intro a cap l w hf hl hx hsm hm
  have HL := Lib.hid hl
  have HF := Lib.hid hf
  have HS := Lib.hid hsm
  have IH := Lib.hid ih
  have hc := hl.len.2
  unfold maxLen at hc
  obtain ⟨hcx1, hcx2⟩ := hc
  clear hl hf hsm ih
  go_enter Try.func70, Try.ntmps70
  go_wp2
  go_loopg [10] l.length (fun gg v10 wr => ∃ (i : Nat), i ≤ l.length ∧ l.length - i ≤ gg ∧ v10 = .int .i64 i ∧ Hid (Below w.heap.size w wr) ∧ Hid (∀ j, j < i → lowAt F l j = none))
  case atStart => exact ⟨0, by omega, by omega, rfl, Below.refl _ _, fun j hj => by omega⟩
  case round =>
    obtain ⟨i, hix, hg, rfl, HB, HN⟩ := hrel
    by_cases hlt : i < l.length
    · have hlt' : (i : Int) < (l.length : Int) := by omega
      obtain ⟨T, hT, ht1, ht2⟩ := getD_nat HS.out hlt
      have HT1 := Lib.hid ht1
      have HT2 := Lib.hid ht2
      clear ht1 ht2
      go_wp2
      go_loopg [6] T (fun gg v6 wq => ∃ (s : Nat), s ≤ T ∧ T - s ≤ gg ∧ v6 = .int .i64 s ∧ Hid (Below w.heap.size w wq) ∧ Hid (∀ j : Nat, j < s → F (l.set i j) = false))
      case atStart => exact ⟨0, by omega, by omega, rfl, HB, fun j hj => by omega⟩
      case round =>
        clear HB
        obtain ⟨s, hs, hgs, rfl, HB, HNS⟩ := hrel
        obtain ⟨ba, oa, hae, hca⟩ := (HL.out.keep HB.out).at hlt
        have c1 := hca i (by rw [ints_len]; exact hlt)
        rw [ints_get, HT2.out] at c1
        subst hae
        clear hca
        by_cases hst : s < T
        · have hst' : (s : Int) < (T : Int) := by omega
          go_wp2_with fail
          refine (clone_int _ l _ (HL.out.keep HB.out) (by omega)).mono ?_
          rintro e w1 ⟨a1, k1, rfl, ho1, hb1⟩
          obtain ⟨g1, k1', cur, hv, hbg, hgs, hk1, hk2, hcells, hcur⟩ := own_block ho1 (by omega)
          cases hv
          unfold maxLen at hk2
          have cc : ∃ u, w1.cell? ⟨g1, 0 + i, none⟩ = some u := by
            refine ⟨cur[i]'(by omega), ?_⟩
            simp [World.cell?, hcells]
          obtain ⟨u, cu⟩ := cc
          have cfz : w1.frozen? ⟨g1, 0 + i, none⟩ = false := by simp [World.frozen?, hcells]
          have HO1 := Lib.hid (own_set ho1 (i := i) (.int .i64 s))
          have HB1 : Hid (Below w.heap.size w (w1.setCell ⟨g1, i, none⟩ (.int .i64 s))) := HB.out.trans ((hb1.mono HB.out.size).setCell (p := ⟨g1, i, none⟩) (by have := HB.out.size; simp; omega) _)
          rw [Nat.zero_add] at cu cfz
          clear ho1 hb1 hcells hcur hbg c1
          rw [ints_set] at HO1
          obtain ⟨z, HZ⟩ : ∃ z, Hid (l.set i (s : Int) = z) := ⟨_, rfl⟩
          rw [HZ.out] at HO1
          have hzl : l.length = z.length := by rw [← HZ.out]; simp
          have HS1 := Lib.hid (sl_of_own HO1.out)
          rw [hzl] at HS1
          have HZL := Lib.hid hzl
          have hzl2 : z.length ≤ 60 := by omega
          clear hzl
          go_wp2_with fail
          refine (HF.out _ _ z HB1.out (by have h := HS1.out; rw [← HZL.out] at h; exact h)).mono ?_
          rintro e w6 ⟨rfl, hb6⟩
          have HO6 := Lib.hid (HS1.out.keep hb6)
          have HB6 := Lib.hid (HB1.out.trans (hb6.mono HB1.out.size))
          clear hb6 HO1 HB1 cu cfz
          cases hFz : F z with
          | true =>
            have HA : Hid (lowAt F l i = some s) := lowAt_some (by rw [HT1.out]; simpa using hst) (by rw [HZ.out]; exact hFz) HNS.out
            have HE : Hid (lowOne F l = some z) := by
              show _ = _
              rw [← HZ.out]
              exact lowOne_some hlt HN.out HA.out
            obtain ⟨hless, hsmz, _⟩ := lowOne_less HS.out HE.out
            clear hFz
            go_wp2_with fail
            rw [HZL.out]
            refine (IH.out _ _ z w6 (HF.out.later HB6.out) HO6.out hzl2 hsmz (by omega)).mono ?_
            rintro e w7 ⟨v7, rfl, hs7, hb7⟩
            have HS7 := Lib.hid hs7
            have HB7 := Lib.hid (HB6.out.trans (hb7.mono HB6.out.size))
            clear hs7 hb7
            go_wp2
            go_ret
            exact ⟨_, rfl, by rw [lowered_some HE.out]; exact HS7.out, HB7.out⟩
          | false =>
            have HN2 : Hid (∀ j : Nat, j < s + 1 → F (l.set i j) = false) := by
              intro j hj
              by_cases e : j = s
              · rw [e, HZ.out]; exact hFz
              · exact HNS.out j (by omega)
            clear hFz
            go_wp2
            go_roundg (T - (s + 1))
            case measure => omega
            case rel => exact ⟨s + 1, by omega, by omega, by go_num, HB6, HN2⟩
        · have hst' : ¬ (s : Int) < (T : Int) := by omega
          have HN2 : Hid (∀ j, j < i + 1 → lowAt F l j = none) := by
            intro j hj
            by_cases e : j = i
            · rw [e]
              refine lowAt_none fun q hq => HNS.out q ?_
              rw [HT1.out] at hq
              simp at hq; omega
            · exact HN.out j (by omega)
          go_wp2
          go_roundg (l.length - (i + 1))
          case measure => omega
          case rel => exact ⟨i + 1, by omega, by omega, by go_num, HB, HN2⟩
    · have hlt' : ¬ (i : Int) < (l.length : Int) := by omega
      have HE : Hid (lowOne F l = none) := lowOne_none fun j hj => HN.out j (by omega)
      go_wp2_with fail
      refine (clone_int _ l wr (HL.out.keep HB.out) (by omega)).mono ?_
      rintro e w3 ⟨a3, c3, rfl, ho, hb3⟩
      have HS3 := Lib.hid (sl_of_own ho)
      have HB3 := Lib.hid (HB.out.trans (hb3.mono HB.out.size))
      clear ho hb3
      go_wp2
      go_ret
      exact ⟨_, rfl, by rw [lowered_none HE.out]; exact HS3.out, HB3.out⟩
end Go.Proofs.Ytfbacnifankfkaa
