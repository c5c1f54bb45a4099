/- slices.Compact at occurrences, in a row of the call's own. -/
import Derived.Test.YthkdeljlhplkgaaAttrSort
import Derived.Lib.SlicesCompact
import Derived.BigQuiet
import Derived.Deep.LoopGhost
namespace Go.Proofs.Ythkdeljlhplkgaa
open Go.RowKit
namespace At
open Go.Lib (compactUpTo keeps CompInv)

def CpI (w : World) (g cap n : Nat) (dk : Array Ref) (wr : World) : Prop :=
  ∃ cr, wr.heap[g]? = some (.cells cr 30 (0, 0)) ∧ cr.size = cap * 2 ∧ n ≤ cap ∧ (∀ j, j < n → cr[j * 2]? = some (.int .i64 dk[j]!.at') ∧ cr[j * 2 + 1]? = some (.int .i64 dk[j]!.attr)) ∧ w.grownBy wr (some g)

theorem CpI.drewN {w wr : World} {g cap n : Nat} {dk : Array Ref} (h : CpI w g cap n dk wr) (q : Nat) : CpI w g cap n dk (wr.drewN q) := by
  obtain ⟨cr, h1, h2, h3, h4, h5⟩ := h
  exact ⟨cr, h1, h2, h3, h4, ⟨h5.os, h5.tape, h5.output, h5.size, h5.block⟩⟩
theorem CpI.cells {w wr : World} {g cap n : Nat} {dk : Array Ref} (h : CpI w g cap n dk wr) {j : Nat} (hj : j < n) :
    wr.cell? ⟨g, j * 2, none⟩ = some (.int .i64 dk[j]!.at') ∧ wr.cell? ⟨g, j * 2 + 1, none⟩ = some (.int .i64 dk[j]!.attr) ∧ wr.frozen? ⟨g, j * 2, none⟩ = false ∧ wr.frozen? ⟨g, j * 2 + 1, none⟩ = false := by
  obtain ⟨cr, h1, h2, h3, h4, h5⟩ := h
  obtain ⟨e1, e2⟩ := h4 j hj
  refine ⟨by simp [World.cell?, h1, e1], by simp [World.cell?, h1, e2], by simp [World.frozen?, h1], by simp [World.frozen?, h1]⟩
theorem CpI.set {w wr : World} {g cap n : Nat} {dk : Array Ref} (h : CpI w g cap n dk wr) {k : Nat} (hk : k < n) (hn : dk.size = n) (x : Ref) :
    CpI w g cap n (dk.setIfInBounds k x) ((wr.setCell ⟨g, k * 2, none⟩ (.int .i64 x.at')).setCell ⟨g, k * 2 + 1, none⟩ (.int .i64 x.attr)) := by
  obtain ⟨cr, h1, h2, h3, h4, h5⟩ := h
  refine ⟨(cr.setIfInBounds (k * 2) (.int .i64 x.at')).setIfInBounds (k * 2 + 1) (.int .i64 x.attr), by simp [World.setCell, Array.getElem?_modify, h1], by simpa using h2, h3, fun j hj => ?_, ?_⟩
  · obtain ⟨e1, e2⟩ := h4 j hj
    simp only [Array.getElem?_setIfInBounds, Array.size_setIfInBounds]
    by_cases e : k = j
    · subst e
      rw [Go.Sort.getElem!_set_same dk k x (by omega)]
      rw [if_neg (by omega), if_pos rfl, if_pos (by omega), if_pos rfl, if_pos (by omega)]
      exact ⟨rfl, rfl⟩
    · rw [Go.Sort.getElem!_set_other dk k j x (by omega)]
      rw [if_neg (by omega), if_neg (by omega), if_neg (by omega), if_neg (by omega)]
      exact ⟨e1, e2⟩
  · exact grown_trans (grown_trans h5 (grown_cell _ _ _)) (grown_cell _ _ _)

theorem zeros_len (m : Nat) : (Builtin.zeroCells #[Value.int .i64 0, .int .i64 0] m).toList.length = m * 2 := by simp [Builtin.zeroCells]
theorem zeros_size (m : Nat) : (Builtin.zeroCells #[Value.int .i64 0, .int .i64 0] m).size = m * 2 := by simp [Builtin.zeroCells]
theorem zeros_ones (m : Nat) : ∀ v ∈ (Builtin.zeroCells #[Value.int .i64 0, .int .i64 0] m).toList, v.oneCell' = true := by
  intro v hv
  simp [Builtin.zeroCells] at hv
  obtain ⟨i, _, rfl⟩ := hv
  rcases (show i % 2 = 0 ∨ i % 2 = 1 by omega) with e | e <;> rw [e] <;> rfl

theorem clear_refs {w wr : World} {g cap n : Nat} {dk : Array Ref} (h : CpI w g cap n dk wr) {k : Nat} (hk : k < n) :
    ∃ w2, (∀ ty c, (Builtin.clear_ #[36] ty #[.slice (some ⟨g, k * 2, none⟩) (n - k) c]).run Try.prog wr = .ok (.tuple #[]) w2) ∧ CpI w g cap k dk w2 := by
  obtain ⟨cr, h1, h2, h3, h4, h5⟩ := h
  have hst := run_storeCells_at (P := Try.prog) g (k * 2) 30 (Builtin.zeroCells #[Value.int .i64 0, .int .i64 0] (n - k)).toList 0 cr wr h1 (by rw [zeros_len, h2]; omega) (zeros_ones _)
  refine ⟨wr.setRow g (cr.toList.take (k * 2 + 0) ++ (Builtin.zeroCells #[Value.int .i64 0, .int .i64 0] (n - k)).toList ++ cr.toList.drop (k * 2 + 0 + (Builtin.zeroCells #[Value.int .i64 0, .int .i64 0] (n - k)).toList.length)).toArray, fun ty c => ?_, ?_⟩
  · obtain ⟨m, hm⟩ : ∃ m, n - k = m + 1 := ⟨n - k - 1, by omega⟩
    rw [hm] at hst ⊢
    simp [Builtin.clear_, run_underlying Try.underlying36, Try.zeroValue30, Value.cells, hst]
  · refine ⟨_, setRow_heap _ _ _ _ _ _ h1, by simp [zeros_size, h2]; omega, by omega, fun j hj => ?_, grown_trans h5 (grown_setRow _ _ _)⟩
    obtain ⟨e1, e2⟩ := h4 j (by omega)
    simp only [List.getElem?_toArray, List.append_assoc]
    rw [List.getElem?_append_left (by simp [h2]; omega), List.getElem?_append_left (by simp [h2]; omega), List.getElem?_take_of_lt (by omega), List.getElem?_take_of_lt (by omega), Array.getElem?_toList, Array.getElem?_toList]
    exact ⟨e1, e2⟩

theorem CpI.row {w wr : World} {g cap n B : Nat} {dk : Array Ref} (h : CpI w g cap n dk wr) (hB : B ≤ g) (hc : cap ≤ maxLen) (l : List Ref) (hl : l.length = n) (he : ∀ j, j < n → l[j]? = some dk[j]!) :
    wr.ownsRow B 30 2 (.slice (some ⟨g, 0, none⟩) n cap) n (refC l) := by
  obtain ⟨cr, h1, h2, h3, h4, h5⟩ := h
  refine ⟨by rw [refC_len, hl], .inr ⟨g, cap, cr, rfl, hB, h1, h3, hc, h2, ?_⟩⟩
  apply List.ext_getElem?
  intro t
  by_cases ht : t < n * 2
  · rw [List.getElem?_take_of_lt ht, Array.getElem?_toList]
    have hk : t / 2 < l.length := by omega
    obtain ⟨c0, c1⟩ := refC_at l (t / 2) hk
    obtain ⟨e0, e1⟩ := h4 (t / 2) (by omega)
    have hx := he (t / 2) (by omega)
    rw [List.getElem?_eq_getElem hk] at hx
    have hx2 := Option.some.inj hx
    rcases (show t % 2 = 0 ∨ t % 2 = 1 by omega) with e | e
    · rw [show t / 2 * 2 = t by omega] at c0 e0
      rw [c0, e0, hx2]
    · rw [show t / 2 * 2 + 1 = t by omega] at c1 e1
      rw [c1, e1, hx2]
  · rw [List.getElem?_eq_none (by simp; omega), List.getElem?_eq_none (by rw [refC_len]; omega)]
theorem CpI.start {w : World} {g cap n B : Nat} {l : List Ref} (h : w.ownsRow B 30 2 (.slice (some ⟨g, 0, none⟩) n cap) n (refC l)) (hl : l.length = n) : CpI w g cap n l.toArray w := by
  rcases h.2 with ⟨hv, _⟩ | ⟨g', cap', cur, hv, hg, hh, hnc, hcm, hcs, htk⟩
  · simp at hv
  · obtain ⟨rfl, rfl⟩ : g = g' ∧ cap = cap' := by simpa using hv
    refine ⟨cur, hh, hcs, hnc, fun j hj => ?_, ⟨rfl, rfl, rfl, Nat.le_refl _, fun _ _ _ => rfl⟩⟩
    obtain ⟨c0, c1⟩ := refC_at l j (by omega)
    have hx : l.toArray[j]! = l[j]'(by omega) := by rw [getElem!_pos _ _ (by simp; omega)]; simp
    rw [hx, ← c0, ← c1, ← htk, List.getElem?_take_of_lt (by omega), List.getElem?_take_of_lt (by omega), Array.getElem?_toList, Array.getElem?_toList]
    exact ⟨rfl, rfl⟩

def CompactPost (B : Nat) (l : List Ref) (u : Value) (w : World) (e : Ending) (w' : World) : Prop :=
  ∃ u', e = .returned u' ∧ w'.ownsRow B 30 2 u' (Lib.compact l).length (refC (Lib.compact l)) ∧ w.grownBy w' u.ownBlock

set_option maxHeartbeats 4000000 in
set_option maxRecDepth 100000 in
theorem compactRef (B : Nat) (l : List Ref) (u : Value) (w : World) (hown : w.ownsRow B 30 2 u l.length (refC l)) (hl : l.length ≤ 100000) :
    Calls Try.prog 18 #[u] w (CompactPost B l u w) := by
  have HALL : Hid (∀ wr, w.grownBy wr u.ownBlock → wr.ownsRow B 30 2 u l.length (refC l) → (∀ j, j < l.length → keeps l.toArray j = true) → CompactPost B l u w (.returned u) wr) := by
    intro wr h1 h2 h3
    have e := Lib.compact_all l h3
    exact ⟨u, rfl, by rw [e]; exact h2, h1⟩
  obtain ⟨a, cap, hu, hc1, hc2⟩ := own_len hown
  obtain ⟨n, HN⟩ := nameIt l.length
  by_cases h2 : l.length < 2
  · have hE := Lib.hid (HALL.out w ⟨rfl, rfl, rfl, Nat.le_refl _, fun _ _ _ => rfl⟩ hown (fun j hj => Lib.keeps_lt_one _ j (by omega)))
    unfold maxLen at hc2
    subst hu
    rw [HN.out] at h2 hc1 hl hE ⊢
    have h2' : (n : Int) < 2 := by omega
    clear hown
    go_enter Try.func18, Try.ntmps18
    go_wp2_with fail
    go_ret
    exact hE.out
  · have hown2 := hown
    rcases hown2.2 with ⟨hv, h0⟩ | ⟨g, cap', cur, hv, hg, hh, hnc, hcm, hcs, htk⟩
    · omega
    rw [hu] at hv
    obtain ⟨rfl, rfl⟩ : a = some ⟨g, 0, none⟩ ∧ cap = cap' := by simpa using hv
    have HST : Hid (CpI w g cap n l.toArray w) := by
      have h := hown
      rw [hu, HN.out] at h
      exact CpI.start h HN.out
    have HEND : Hid (∀ kk dk wr, CpI w g cap kk dk wr → CompInv l.toArray n kk dk → CompactPost B l u w (.returned (.slice (some ⟨g, 0, none⟩) kk cap)) wr) := by
      intro kk dk wr h1 h3
      have hlen : (Lib.compact l).length = kk := by unfold Lib.compact; rw [HN.out]; exact h3.len
      refine ⟨_, rfl, ?_, ?_⟩
      · rw [hlen]
        exact h1.row hg hcm _ hlen (fun j hj => by unfold Lib.compact; rw [HN.out]; exact h3.low j hj)
      · rw [hu]
        obtain ⟨_, _, _, _, _, h5⟩ := h1
        exact h5
    have HSAME : Hid (∀ wr, CpI w g cap n l.toArray wr → (∀ j, j < n → keeps l.toArray j = true) → CompactPost B l u w (.returned (.slice (some ⟨g, 0, none⟩) n cap)) wr) := by
      intro wr h1 h3
      have e : Lib.compact l = l := Lib.compact_all l (by rw [HN.out]; exact h3)
      refine ⟨_, rfl, ?_, ?_⟩
      · rw [e, HN.out]
        exact h1.row hg hcm _ HN.out (fun j hj => by rw [getElem!_pos _ _ (by simp [HN.out]; exact hj)]; simp)
      · rw [hu]
        obtain ⟨_, _, _, _, _, h5⟩ := h1
        exact h5
    have hdsz : Hid (l.toArray.size = n) := by show _ = _; simp [HN.out]
    subst hu
    rw [HN.out] at h2 hl hnc ⊢
    obtain ⟨d, HD⟩ := nameIt l.toArray
    rw [HD.out] at HST hdsz
    simp only [HD.out] at HEND HSAME
    obtain ⟨PST, HP⟩ := nameIt (CompactPost B l (.slice (some ⟨g, 0, none⟩) n cap) w)
    simp only [HN.out] at HEND HSAME
    have HEND2 : Hid (∀ kk dk wr, CpI w g cap kk dk wr → CompInv d n kk dk → PST (.returned (.slice (some ⟨g, 0, none⟩) kk cap)) wr) := by
      intro kk dk wr h1 h3; rw [← HP.out]; exact HEND.out kk dk wr h1 h3
    have HSAME2 : Hid (∀ wr, CpI w g cap n d wr → (∀ j, j < n → keeps d j = true) → PST (.returned (.slice (some ⟨g, 0, none⟩) n cap)) wr) := by
      intro wr h1 h3; rw [← HP.out]; exact HSAME.out wr h1 h3
    rw [HP.out]
    have h2' : ¬ (n : Int) < 2 := by omega
    unfold maxLen at hcm
    clear hown hown2 hc2 hc1 hh hcs htk hv HALL HEND HSAME
    have HK1 : Hid (∀ j, j < 1 → keeps d j = true) := Lib.keeps_lt_one d
    go_enter Try.func18, Try.ntmps18
    go_wp2_with fail
    go_loopg [3] n (fun gg v3 wr => ∃ k : Nat, 1 ≤ k ∧ k ≤ n ∧ n - k ≤ gg ∧ v3 = .int .i64 k ∧ Hid (CpI w g cap n d wr) ∧ Hid (∀ j, j < k → keeps d j = true))
    case atStart => exact ⟨1, by omega, by omega, by omega, rfl, HST, HK1⟩
    case round =>
      clear HST HK1
      obtain ⟨k, hk1, hk, hgk, rfl, HC, HA⟩ := hrel
      by_cases hlt : k < n
      · have hlt' : (k : Int) < (n : Int) := by omega
        have hk0 : (0 : Int) ≤ (k : Int) := by omega
        obtain ⟨c0, c1, -, -⟩ := HC.out.cells hlt
        obtain ⟨d0, d1, -, -⟩ := HC.out.cells (show k - 1 < n by omega)
        have HKP : Hid (d[k]! ≠ d[k - 1]! → keeps d k = true) := fun h => Lib.keeps_pos h
        have HKN : Hid (d[k]! = d[k - 1]! → keeps d k = false) := fun h => Lib.keeps_neg (by omega) h
        obtain ⟨x, HX⟩ := nameIt d[k]!
        obtain ⟨y, HY⟩ := nameIt d[k - 1]!
        rw [HX.out] at c0 c1
        rw [HY.out] at d0 d1
        rw [HX.out, HY.out] at HKP HKN
        obtain ⟨xa, xi⟩ := x
        obtain ⟨ya, yi⟩ := y
        simp only at c0 c1 d0 d1
        have hw1 : IntKind.i64.wrap ((k : Int) - 1) = (k : Int) - 1 := IntWalk.i64_in _ (by omega)
        have ht1 : ((k : Int) - 1).toNat = k - 1 := by omega
        have hp0 : (0 : Int) ≤ (k : Int) - 1 := by omega
        have hp1 : (k : Int) - 1 < (n : Int) := by omega
        have HNEXT : Hid (∀ q, (⟨xa, xi⟩ : Ref) ≠ ⟨ya, yi⟩ → CpI w g cap n d (wr.drewN q) ∧ ∀ j, j < k + 1 → keeps d j = true) := by
          intro q hne
          refine ⟨HC.out.drewN q, fun j hj => ?_⟩
          by_cases e : j = k
          · rw [e]; exact HKP.out hne
          · exact HA.out j (by omega)
        by_cases g1 : xa = ya
        · by_cases g2 : xi = yi
          · subst g1 g2
            have HKF := Lib.hid (HKN.out rfl)
            clear HKP HKN HNEXT
            go_upto_region 6 with fail
            go_quiet (fail)
            have HS2 : Hid (∀ q, CpI w g cap n d (wr.drewN q)) := fun q => HC.out.drewN q
            have HCS : Hid (CompInv d (k + 1) k d) := CompInv.start HA.out HKF.out
            have hkn : k ≤ n := hk
            have hkc : k ≤ cap := by omega
            clear c0 c1 d0 d1 hw1 ht1 hp0 hp1
            go_wp2_with fail
            go_loopg [3, 5] n (fun gg v3 v5 wr => ∃ (kk k2 : Nat) (dk : Array Ref), v3 = .int .i64 kk ∧ v5 = .int .i64 k2 ∧ 1 ≤ k2 ∧ k + k2 ≤ n ∧ n - (k + k2) ≤ gg ∧ Hid (CpI w g cap n dk wr) ∧ Hid (CompInv d (k + k2) kk dk))
            case atStart => exact ⟨k, 1, d, rfl, rfl, by omega, by omega, by omega, HS2.out _, HCS⟩
            case round =>
              clear HS2 HCS HKF
              obtain ⟨kk, k2, dk, rfl, rfl, h21, h22, hg2, HD2, HI⟩ := hrel
              have hkk : kk < k + k2 := HI.out.lt
              have hdk : dk.size = n := by rw [HI.out.size]; exact hdsz.out
              by_cases hlt2 : k + k2 < n
              · have hlt2' : (k2 : Int) < ((n - k : Nat) : Int) := by omega
                have hk20 : (0 : Int) ≤ (k2 : Int) := by omega
                have hkk0 : (0 : Int) ≤ (kk : Int) := by omega
                have hkk1 : (kk : Int) < (n : Int) := by omega
                obtain ⟨c0, c1, -, -⟩ := HD2.out.cells hlt2
                obtain ⟨d0, d1, -, -⟩ := HD2.out.cells (show k + k2 - 1 < n by omega)
                obtain ⟨o0, o1, f0, f1⟩ := HD2.out.cells (show kk < n by omega)
                rw [HI.out.high _ (by omega)] at c0 c1
                rw [HI.out.high _ (by omega)] at d0 d1
                have HKP : Hid (d[k + k2]! ≠ d[k + k2 - 1]! → keeps d (k + k2) = true) := fun h => Lib.keeps_pos h
                have HKN : Hid (d[k + k2]! = d[k + k2 - 1]! → keeps d (k + k2) = false) := fun h => Lib.keeps_neg (by omega) h
                have HSK : Hid (keeps d (k + k2) = false → CompInv d (k + (k2 + 1)) kk dk) := fun h => HI.out.skip h
                have HKE : Hid (keeps d (k + k2) = true → CompInv d (k + (k2 + 1)) (kk + 1) (dk.setIfInBounds kk d[k + k2]!)) := fun h => HI.out.keep (by rw [hdsz.out]; exact hlt2) h
                rw [show (k + k2) * 2 = k * 2 + k2 * 2 by omega] at c0 c1
                rw [show (k + k2 - 1) * 2 = k * 2 + (k2 - 1) * 2 by omega] at d0 d1
                obtain ⟨x, HX2⟩ := nameIt d[k + k2]!
                obtain ⟨y, HY2⟩ := nameIt d[k + k2 - 1]!
                obtain ⟨v0, HV0⟩ := nameIt dk[kk]!.at'
                obtain ⟨v1, HV1⟩ := nameIt dk[kk]!.attr
                rw [HX2.out] at c0 c1 HKE
                rw [HY2.out] at d0 d1
                rw [HX2.out, HY2.out] at HKP HKN
                rw [HV0.out] at o0
                rw [HV1.out] at o1
                obtain ⟨xb, xj⟩ := x
                obtain ⟨yb, yj⟩ := y
                simp only at c0 c1 d0 d1
                have hw1 : IntKind.i64.wrap ((k2 : Int) - 1) = (k2 : Int) - 1 := IntWalk.i64_in _ (by omega)
                have ht1 : ((k2 : Int) - 1).toNat = k2 - 1 := by omega
                have hp0 : (0 : Int) ≤ (k2 : Int) - 1 := by omega
                have hp1 : (k2 : Int) - 1 < ((n - k : Nat) : Int) := by omega
                have HDQ : Hid (∀ q, CpI w g cap n dk (wr.drewN q)) := fun q => HD2.out.drewN q
                have HSET : Hid (∀ q, CpI w g cap n (dk.setIfInBounds kk ⟨xb, xj⟩) (((wr.drewN q).setCell ⟨g, kk * 2, none⟩ (.int .i64 xb)).setCell ⟨g, kk * 2 + 1, none⟩ (.int .i64 xj))) := fun q => (HD2.out.drewN q).set (x := ⟨xb, xj⟩) (by omega) hdk
                by_cases e1 : xb = yb
                · by_cases e2 : xj = yj
                  · subst e1 e2
                    have HE := Lib.hid (HSK.out (HKN.out rfl))
                    clear HKP HKN HSK HKE o0 o1 f0 f1 HSET
                    go_upto_region 11 with fail
                    go_quiet (fail)
                    go_wp2_with fail
                    go_roundg (n - (k + (k2 + 1)))
                    case measure => omega
                    case rel => exact ⟨kk, k2 + 1, dk, rfl, by go_num, by omega, by omega, by omega, HDQ.out _, HE⟩
                  · have e2' : (xj == yj) = false := by rw [beq_eq_false_iff_ne]; exact e2
                    have HE := Lib.hid (HKE.out (HKP.out (fun h => e2 (by injection h))))
                    subst e1
                    clear e2 HKP HKN HSK HKE
                    go_upto_region 11 with fail
                    go_quiet (fail)
                    go_wp2_with fail
                    go_roundg (n - (k + (k2 + 1)))
                    case measure => omega
                    case rel => exact ⟨kk + 1, k2 + 1, _, by go_num, by go_num, by omega, by omega, by omega, HSET.out _, HE⟩
                · have e1' : (xb == yb) = false := by rw [beq_eq_false_iff_ne]; exact e1
                  have HE := Lib.hid (HKE.out (HKP.out (fun h => e1 (by injection h))))
                  clear e1 HKP HKN HSK HKE
                  go_upto_region 11 with fail
                  go_quiet (fail)
                  go_wp2_with fail
                  go_roundg (n - (k + (k2 + 1)))
                  case measure => omega
                  case rel => exact ⟨kk + 1, k2 + 1, _, by go_num, by go_num, by omega, by omega, by omega, HSET.out _, HE⟩
              · have hend : k + k2 = n := by omega
                have hlt2' : ¬ (k2 : Int) < ((n - k : Nat) : Int) := by omega
                have hkk0 : (0 : Int) ≤ (kk : Int) := by omega
                have hkk1 : (kk : Int) ≤ (n : Int) := by omega
                have hkk2 : kk ≤ cap := by omega
                have hkk3 : (kk : Int) ≤ (cap : Int) := by omega
                obtain ⟨w2, hcl, hC2⟩ := clear_refs HD2.out (show kk < n by omega)
                have hI := HI.out
                rw [hend] at hI
                have HE := Lib.hid (HEND2.out kk dk w2 hC2 hI)
                clear hC2 hI
                go_wp2_with fail
                exact HE.out
          · have g2' : (xi == yi) = false := by rw [beq_eq_false_iff_ne]; exact g2
            have HE := Lib.hid (fun q => HNEXT.out q (fun h => g2 (by injection h)))
            subst g1
            clear g2 HNEXT HKP HKN
            go_upto_region 6 with fail
            go_quiet (fail)
            go_wp2_with fail
            go_roundg (n - (k + 1))
            case measure => omega
            case rel => exact ⟨k + 1, by omega, by omega, by omega, by go_num, (HE.out _).1, (HE.out 0).2⟩
        · have g1' : (xa == ya) = false := by rw [beq_eq_false_iff_ne]; exact g1
          have HE := Lib.hid (fun q => HNEXT.out q (fun h => g1 (by injection h)))
          clear g1 HNEXT HKP HKN
          go_upto_region 6 with fail
          go_quiet (fail)
          go_wp2_with fail
          go_roundg (n - (k + 1))
          case measure => omega
          case rel => exact ⟨k + 1, by omega, by omega, by omega, by go_num, (HE.out _).1, (HE.out 0).2⟩
      · have hkn : k = n := by omega
        subst hkn
        have hE := Lib.hid (HSAME2.out wr HC.out HA.out)
        have hlt' : ¬ (k : Int) < (k : Int) := by omega
        go_wp2_with fail
        exact hE.out
end At
end Go.Proofs.Ythkdeljlhplkgaa
