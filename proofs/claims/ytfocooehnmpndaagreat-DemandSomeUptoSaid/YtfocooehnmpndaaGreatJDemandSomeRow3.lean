/- slices.Compact at occurrences, in a row of the call's own. The contracts of slices.Index, Contains and Equal of occurrences. The contract of attr.Refs. Plain: the nodes of a tree by numbers, the instances of attributes, and their values. Which trees are valid, in plain Lean: two ways to say it. The contract of the reference's exprs. The contract of the reference's Mentioned. The contract of attr.there. -/
import Derived.Test.YtfocooehnmpndaaGreatJDemandSomeRow2
import Derived.Lib.SlicesCompact
import Derived.BigQuiet
import Derived.Deep.LoopGhost
import Derived.Test.YtfocooehnmpndaaGreatJDemandSomeRow1
import Derived.Deep.CutBlock
import Derived.Deep.RegionHeld3
import Derived.IntWalk
namespace Go.Proofs.YtfocooehnmpndaaGreat
open Go.RowKit
namespace At
open Go.Lib (compactUpTo keeps CompInv)
def CpI (w : World) (g cap n : Nat) (dk : Array Ref) (wr : World) : Prop :=
  ∃ cr, wr.heap[g]? = some (.cells cr 83 (0, 0)) ∧ cr.size = cap * 2 ∧ n ≤ cap ∧ (∀ j, j < n → cr[j * 2]? = some (.int .i64 dk[j]!.at') ∧ cr[j * 2 + 1]? = some (.int .i64 dk[j]!.attr)) ∧ w.grownBy wr (some g)
theorem CpI.drewN {w wr : World} {g cap n : Nat} {dk : Array Ref} (h : CpI w g cap n dk wr) (q : Nat) : CpI w g cap n dk (wr.drewN q) := by
  obtain ⟨cr, h1, h2, h3, h4, h5⟩ := h
  exact ⟨cr, h1, h2, h3, h4, ⟨h5.os, h5.tape, h5.output, h5.size, h5.block⟩⟩
theorem CpI.cells {w wr : World} {g cap n : Nat} {dk : Array Ref} (h : CpI w g cap n dk wr) {j : Nat} (hj : j < n) :
    wr.cell? ⟨g, j * 2, none⟩ = some (.int .i64 dk[j]!.at') ∧ wr.cell? ⟨g, j * 2 + 1, none⟩ = some (.int .i64 dk[j]!.attr) ∧ wr.frozen? ⟨g, j * 2, none⟩ = false ∧ wr.frozen? ⟨g, j * 2 + 1, none⟩ = false := by
  obtain ⟨cr, h1, h2, h3, h4, h5⟩ := h
  obtain ⟨e1, e2⟩ := h4 j hj
  refine ⟨by simp [World.cell?, h1, e1], by simp [World.cell?, h1, e2], by simp [World.frozen?, h1], by simp [World.frozen?, h1]⟩
theorem CpI.set {w wr : World} {g cap n : Nat} {dk : Array Ref} (h : CpI w g cap n dk wr) {k : Nat} (hk : k < n) (hn : dk.size = n) (x : Ref) :
    CpI w g cap n (dk.setIfInBounds k x) ((wr.setCell ⟨g, k * 2, none⟩ (.int .i64 x.at')).setCell ⟨g, k * 2 + 1, none⟩ (.int .i64 x.attr)) := by
  obtain ⟨cr, h1, h2, h3, h4, h5⟩ := h
  refine ⟨(cr.setIfInBounds (k * 2) (.int .i64 x.at')).setIfInBounds (k * 2 + 1) (.int .i64 x.attr), by simp [World.setCell, Array.getElem?_modify, h1], by simpa using h2, h3, fun j hj => ?_, ?_⟩
  · obtain ⟨e1, e2⟩ := h4 j hj
    simp only [Array.getElem?_setIfInBounds, Array.size_setIfInBounds]
    by_cases e : k = j
    · subst e
      rw [Go.Sort.getElem!_set_same dk k x (by omega)]
      rw [if_neg (by omega), if_pos rfl, if_pos (by omega), if_pos rfl, if_pos (by omega)]
      exact ⟨rfl, rfl⟩
    · rw [Go.Sort.getElem!_set_other dk k j x (by omega)]
      rw [if_neg (by omega), if_neg (by omega), if_neg (by omega), if_neg (by omega)]
      exact ⟨e1, e2⟩
  · exact grown_trans (grown_trans h5 (grown_cell _ _ _)) (grown_cell _ _ _)
theorem zeros_len (m : Nat) : (Builtin.zeroCells #[Value.int .i64 0, .int .i64 0] m).toList.length = m * 2 := by simp [Builtin.zeroCells]
theorem zeros_size (m : Nat) : (Builtin.zeroCells #[Value.int .i64 0, .int .i64 0] m).size = m * 2 := by simp [Builtin.zeroCells]
theorem zeros_ones (m : Nat) : ∀ v ∈ (Builtin.zeroCells #[Value.int .i64 0, .int .i64 0] m).toList, v.oneCell' = true := by
  intro v hv
  simp [Builtin.zeroCells] at hv
  obtain ⟨i, _, rfl⟩ := hv
  rcases (show i % 2 = 0 ∨ i % 2 = 1 by omega) with e | e <;> rw [e] <;> rfl
theorem clear_refs {w wr : World} {g cap n : Nat} {dk : Array Ref} (h : CpI w g cap n dk wr) {k : Nat} (hk : k < n) :
    ∃ w2, (∀ ty c, (Builtin.clear_ #[159] ty #[.slice (some ⟨g, k * 2, none⟩) (n - k) c]).run Tryz.prog wr = .ok (.tuple #[]) w2) ∧ CpI w g cap k dk w2 := by
  obtain ⟨cr, h1, h2, h3, h4, h5⟩ := h
  have hst := run_storeCells_at (P := Tryz.prog) g (k * 2) 83 (Builtin.zeroCells #[Value.int .i64 0, .int .i64 0] (n - k)).toList 0 cr wr h1 (by rw [zeros_len, h2]; omega) (zeros_ones _)
  refine ⟨wr.setRow g (cr.toList.take (k * 2 + 0) ++ (Builtin.zeroCells #[Value.int .i64 0, .int .i64 0] (n - k)).toList ++ cr.toList.drop (k * 2 + 0 + (Builtin.zeroCells #[Value.int .i64 0, .int .i64 0] (n - k)).toList.length)).toArray, fun ty c => ?_, ?_⟩
  · obtain ⟨m, hm⟩ : ∃ m, n - k = m + 1 := ⟨n - k - 1, by omega⟩
    rw [hm] at hst ⊢
    simp [Builtin.clear_, run_underlying Tryz.underlying159, Tryz.zeroValue83, Value.cells, hst]
  · refine ⟨_, setRow_heap _ _ _ _ _ _ h1, by simp [zeros_size, h2]; omega, by omega, fun j hj => ?_, grown_trans h5 (grown_setRow _ _ _)⟩
    obtain ⟨e1, e2⟩ := h4 j (by omega)
    simp only [List.getElem?_toArray, List.append_assoc]
    rw [List.getElem?_append_left (by simp [h2]; omega), List.getElem?_append_left (by simp [h2]; omega), List.getElem?_take_of_lt (by omega), List.getElem?_take_of_lt (by omega), Array.getElem?_toList, Array.getElem?_toList]
    exact ⟨e1, e2⟩
theorem CpI.row {w wr : World} {g cap n B : Nat} {dk : Array Ref} (h : CpI w g cap n dk wr) (hB : B ≤ g) (hc : cap ≤ maxLen) (l : List Ref) (hl : l.length = n) (he : ∀ j, j < n → l[j]? = some dk[j]!) :
    wr.ownsRow B 83 2 (.slice (some ⟨g, 0, none⟩) n cap) n (refC l) := by
  obtain ⟨cr, h1, h2, h3, h4, h5⟩ := h
  refine ⟨by rw [refC_len, hl], .inr ⟨g, cap, cr, rfl, hB, h1, h3, hc, h2, ?_⟩⟩
  apply List.ext_getElem?
  intro t
  by_cases ht : t < n * 2
  · rw [List.getElem?_take_of_lt ht, Array.getElem?_toList]
    have hk : t / 2 < l.length := by omega
    obtain ⟨c0, c1⟩ := refC_at l (t / 2) hk
    obtain ⟨e0, e1⟩ := h4 (t / 2) (by omega)
    have hx := he (t / 2) (by omega)
    rw [List.getElem?_eq_getElem hk] at hx
    have hx2 := Option.some.inj hx
    rcases (show t % 2 = 0 ∨ t % 2 = 1 by omega) with e | e
    · rw [show t / 2 * 2 = t by omega] at c0 e0
      rw [c0, e0, hx2]
    · rw [show t / 2 * 2 + 1 = t by omega] at c1 e1
      rw [c1, e1, hx2]
  · rw [List.getElem?_eq_none (by simp; omega), List.getElem?_eq_none (by rw [refC_len]; omega)]
theorem CpI.start {w : World} {g cap n B : Nat} {l : List Ref} (h : w.ownsRow B 83 2 (.slice (some ⟨g, 0, none⟩) n cap) n (refC l)) (hl : l.length = n) : CpI w g cap n l.toArray w := by
  rcases h.2 with ⟨hv, _⟩ | ⟨g', cap', cur, hv, hg, hh, hnc, hcm, hcs, htk⟩
  · simp at hv
  · obtain ⟨rfl, rfl⟩ : g = g' ∧ cap = cap' := by simpa using hv
    refine ⟨cur, hh, hcs, hnc, fun j hj => ?_, ⟨rfl, rfl, rfl, Nat.le_refl _, fun _ _ _ => rfl⟩⟩
    obtain ⟨c0, c1⟩ := refC_at l j (by omega)
    have hx : l.toArray[j]! = l[j]'(by omega) := by rw [getElem!_pos _ _ (by simp; omega)]; simp
    rw [hx, ← c0, ← c1, ← htk, List.getElem?_take_of_lt (by omega), List.getElem?_take_of_lt (by omega), Array.getElem?_toList, Array.getElem?_toList]
    exact ⟨rfl, rfl⟩
def CompactPost (B : Nat) (l : List Ref) (u : Value) (w : World) (e : Ending) (w' : World) : Prop :=
  ∃ u', e = .returned u' ∧ w'.ownsRow B 83 2 u' (Lib.compact l).length (refC (Lib.compact l)) ∧ w.grownBy w' u.ownBlock
set_option maxHeartbeats 4000000 in
set_option maxRecDepth 100000 in
theorem compactRef (B : Nat) (l : List Ref) (u : Value) (w : World) (hown : w.ownsRow B 83 2 u l.length (refC l)) (hl : l.length ≤ 100000) :
    Calls Tryz.prog 126 #[u] w (CompactPost B l u w) := by
  have HALL : Hid (∀ wr, w.grownBy wr u.ownBlock → wr.ownsRow B 83 2 u l.length (refC l) → (∀ j, j < l.length → keeps l.toArray j = true) → CompactPost B l u w (.returned u) wr) := by
    intro wr h1 h2 h3
    have e := Lib.compact_all l h3
    exact ⟨u, rfl, by rw [e]; exact h2, h1⟩
  obtain ⟨a, cap, hu, hc1, hc2⟩ := own_len hown
  obtain ⟨n, HN⟩ := nameIt l.length
  by_cases h2 : l.length < 2
  · have hE := Lib.hid (HALL.out w ⟨rfl, rfl, rfl, Nat.le_refl _, fun _ _ _ => rfl⟩ hown (fun j hj => Lib.keeps_lt_one _ j (by omega)))
    unfold maxLen at hc2
    subst hu
    rw [HN.out] at h2 hc1 hl hE ⊢
    have h2' : (n : Int) < 2 := by omega
    clear hown
    go_enter Tryz.func126, Tryz.ntmps126
    go_wp2_with fail
    go_ret
    exact hE.out
  · have hown2 := hown
    rcases hown2.2 with ⟨hv, h0⟩ | ⟨g, cap', cur, hv, hg, hh, hnc, hcm, hcs, htk⟩
    · omega
    rw [hu] at hv
    obtain ⟨rfl, rfl⟩ : a = some ⟨g, 0, none⟩ ∧ cap = cap' := by simpa using hv
    have HST : Hid (CpI w g cap n l.toArray w) := by
      have h := hown
      rw [hu, HN.out] at h
      exact CpI.start h HN.out
    have HEND : Hid (∀ kk dk wr, CpI w g cap kk dk wr → CompInv l.toArray n kk dk → CompactPost B l u w (.returned (.slice (some ⟨g, 0, none⟩) kk cap)) wr) := by
      intro kk dk wr h1 h3
      have hlen : (Lib.compact l).length = kk := by unfold Lib.compact; rw [HN.out]; exact h3.len
      refine ⟨_, rfl, ?_, ?_⟩
      · rw [hlen]
        exact h1.row hg hcm _ hlen (fun j hj => by unfold Lib.compact; rw [HN.out]; exact h3.low j hj)
      · rw [hu]
        obtain ⟨_, _, _, _, _, h5⟩ := h1
        exact h5
    have HSAME : Hid (∀ wr, CpI w g cap n l.toArray wr → (∀ j, j < n → keeps l.toArray j = true) → CompactPost B l u w (.returned (.slice (some ⟨g, 0, none⟩) n cap)) wr) := by
      intro wr h1 h3
      have e : Lib.compact l = l := Lib.compact_all l (by rw [HN.out]; exact h3)
      refine ⟨_, rfl, ?_, ?_⟩
      · rw [e, HN.out]
        exact h1.row hg hcm _ HN.out (fun j hj => by rw [getElem!_pos _ _ (by simp [HN.out]; exact hj)]; simp)
      · rw [hu]
        obtain ⟨_, _, _, _, _, h5⟩ := h1
        exact h5
    have hdsz : Hid (l.toArray.size = n) := by show _ = _; simp [HN.out]
    subst hu
    rw [HN.out] at h2 hl hnc ⊢
    obtain ⟨d, HD⟩ := nameIt l.toArray
    rw [HD.out] at HST hdsz
    simp only [HD.out] at HEND HSAME
    obtain ⟨PST, HP⟩ := nameIt (CompactPost B l (.slice (some ⟨g, 0, none⟩) n cap) w)
    simp only [HN.out] at HEND HSAME
    have HEND2 : Hid (∀ kk dk wr, CpI w g cap kk dk wr → CompInv d n kk dk → PST (.returned (.slice (some ⟨g, 0, none⟩) kk cap)) wr) := by
      intro kk dk wr h1 h3; rw [← HP.out]; exact HEND.out kk dk wr h1 h3
    have HSAME2 : Hid (∀ wr, CpI w g cap n d wr → (∀ j, j < n → keeps d j = true) → PST (.returned (.slice (some ⟨g, 0, none⟩) n cap)) wr) := by
      intro wr h1 h3; rw [← HP.out]; exact HSAME.out wr h1 h3
    rw [HP.out]
    have h2' : ¬ (n : Int) < 2 := by omega
    unfold maxLen at hcm
    clear hown hown2 hc2 hc1 hh hcs htk hv HALL HEND HSAME
    have HK1 : Hid (∀ j, j < 1 → keeps d j = true) := Lib.keeps_lt_one d
    go_enter Tryz.func126, Tryz.ntmps126
    go_wp2_with fail
    go_loopg [3] n (fun gg v3 wr => ∃ k : Nat, 1 ≤ k ∧ k ≤ n ∧ n - k ≤ gg ∧ v3 = .int .i64 k ∧ Hid (CpI w g cap n d wr) ∧ Hid (∀ j, j < k → keeps d j = true))
    case atStart => exact ⟨1, by omega, by omega, by omega, rfl, HST, HK1⟩
    case round =>
      clear HST HK1
      obtain ⟨k, hk1, hk, hgk, rfl, HC, HA⟩ := hrel
      by_cases hlt : k < n
      · have hlt' : (k : Int) < (n : Int) := by omega
        have hk0 : (0 : Int) ≤ (k : Int) := by omega
        obtain ⟨c0, c1, -, -⟩ := HC.out.cells hlt
        obtain ⟨d0, d1, -, -⟩ := HC.out.cells (show k - 1 < n by omega)
        have HKP : Hid (d[k]! ≠ d[k - 1]! → keeps d k = true) := fun h => Lib.keeps_pos h
        have HKN : Hid (d[k]! = d[k - 1]! → keeps d k = false) := fun h => Lib.keeps_neg (by omega) h
        obtain ⟨x, HX⟩ := nameIt d[k]!
        obtain ⟨y, HY⟩ := nameIt d[k - 1]!
        rw [HX.out] at c0 c1
        rw [HY.out] at d0 d1
        rw [HX.out, HY.out] at HKP HKN
        obtain ⟨xa, xi⟩ := x
        obtain ⟨ya, yi⟩ := y
        simp only at c0 c1 d0 d1
        have hw1 : IntKind.i64.wrap ((k : Int) - 1) = (k : Int) - 1 := IntWalk.i64_in _ (by omega)
        have ht1 : ((k : Int) - 1).toNat = k - 1 := by omega
        have hp0 : (0 : Int) ≤ (k : Int) - 1 := by omega
        have hp1 : (k : Int) - 1 < (n : Int) := by omega
        have HNEXT : Hid (∀ q, (⟨xa, xi⟩ : Ref) ≠ ⟨ya, yi⟩ → CpI w g cap n d (wr.drewN q) ∧ ∀ j, j < k + 1 → keeps d j = true) := by
          intro q hne
          refine ⟨HC.out.drewN q, fun j hj => ?_⟩
          by_cases e : j = k
          · rw [e]; exact HKP.out hne
          · exact HA.out j (by omega)
        by_cases g1 : xa = ya
        · by_cases g2 : xi = yi
          · subst g1 g2
            have HKF := Lib.hid (HKN.out rfl)
            clear HKP HKN HNEXT
            go_upto_region 6 with fail
            go_quiet (fail)
            have HS2 : Hid (∀ q, CpI w g cap n d (wr.drewN q)) := fun q => HC.out.drewN q
            have HCS : Hid (CompInv d (k + 1) k d) := CompInv.start HA.out HKF.out
            have hkn : k ≤ n := hk
            have hkc : k ≤ cap := by omega
            clear c0 c1 d0 d1 hw1 ht1 hp0 hp1
            go_wp2_with fail
            go_loopg [3, 5] n (fun gg v3 v5 wr => ∃ (kk k2 : Nat) (dk : Array Ref), v3 = .int .i64 kk ∧ v5 = .int .i64 k2 ∧ 1 ≤ k2 ∧ k + k2 ≤ n ∧ n - (k + k2) ≤ gg ∧ Hid (CpI w g cap n dk wr) ∧ Hid (CompInv d (k + k2) kk dk))
            case atStart => exact ⟨k, 1, d, rfl, rfl, by omega, by omega, by omega, HS2.out _, HCS⟩
            case round =>
              clear HS2 HCS HKF
              obtain ⟨kk, k2, dk, rfl, rfl, h21, h22, hg2, HD2, HI⟩ := hrel
              have hkk : kk < k + k2 := HI.out.lt
              have hdk : dk.size = n := by rw [HI.out.size]; exact hdsz.out
              by_cases hlt2 : k + k2 < n
              · have hlt2' : (k2 : Int) < ((n - k : Nat) : Int) := by omega
                have hk20 : (0 : Int) ≤ (k2 : Int) := by omega
                have hkk0 : (0 : Int) ≤ (kk : Int) := by omega
                have hkk1 : (kk : Int) < (n : Int) := by omega
                obtain ⟨c0, c1, -, -⟩ := HD2.out.cells hlt2
                obtain ⟨d0, d1, -, -⟩ := HD2.out.cells (show k + k2 - 1 < n by omega)
                obtain ⟨o0, o1, f0, f1⟩ := HD2.out.cells (show kk < n by omega)
                rw [HI.out.high _ (by omega)] at c0 c1
                rw [HI.out.high _ (by omega)] at d0 d1
                have HKP : Hid (d[k + k2]! ≠ d[k + k2 - 1]! → keeps d (k + k2) = true) := fun h => Lib.keeps_pos h
                have HKN : Hid (d[k + k2]! = d[k + k2 - 1]! → keeps d (k + k2) = false) := fun h => Lib.keeps_neg (by omega) h
                have HSK : Hid (keeps d (k + k2) = false → CompInv d (k + (k2 + 1)) kk dk) := fun h => HI.out.skip h
                have HKE : Hid (keeps d (k + k2) = true → CompInv d (k + (k2 + 1)) (kk + 1) (dk.setIfInBounds kk d[k + k2]!)) := fun h => HI.out.keep (by rw [hdsz.out]; exact hlt2) h
                rw [show (k + k2) * 2 = k * 2 + k2 * 2 by omega] at c0 c1
                rw [show (k + k2 - 1) * 2 = k * 2 + (k2 - 1) * 2 by omega] at d0 d1
                obtain ⟨x, HX2⟩ := nameIt d[k + k2]!
                obtain ⟨y, HY2⟩ := nameIt d[k + k2 - 1]!
                obtain ⟨v0, HV0⟩ := nameIt dk[kk]!.at'
                obtain ⟨v1, HV1⟩ := nameIt dk[kk]!.attr
                rw [HX2.out] at c0 c1 HKE
                rw [HY2.out] at d0 d1
                rw [HX2.out, HY2.out] at HKP HKN
                rw [HV0.out] at o0
                rw [HV1.out] at o1
                obtain ⟨xb, xj⟩ := x
                obtain ⟨yb, yj⟩ := y
                simp only at c0 c1 d0 d1
                have hw1 : IntKind.i64.wrap ((k2 : Int) - 1) = (k2 : Int) - 1 := IntWalk.i64_in _ (by omega)
                have ht1 : ((k2 : Int) - 1).toNat = k2 - 1 := by omega
                have hp0 : (0 : Int) ≤ (k2 : Int) - 1 := by omega
                have hp1 : (k2 : Int) - 1 < ((n - k : Nat) : Int) := by omega
                have HDQ : Hid (∀ q, CpI w g cap n dk (wr.drewN q)) := fun q => HD2.out.drewN q
                have HSET : Hid (∀ q, CpI w g cap n (dk.setIfInBounds kk ⟨xb, xj⟩) (((wr.drewN q).setCell ⟨g, kk * 2, none⟩ (.int .i64 xb)).setCell ⟨g, kk * 2 + 1, none⟩ (.int .i64 xj))) := fun q => (HD2.out.drewN q).set (x := ⟨xb, xj⟩) (by omega) hdk
                by_cases e1 : xb = yb
                · by_cases e2 : xj = yj
                  · subst e1 e2
                    have HE := Lib.hid (HSK.out (HKN.out rfl))
                    clear HKP HKN HSK HKE o0 o1 f0 f1 HSET
                    go_upto_region 11 with fail
                    go_quiet (fail)
                    go_wp2_with fail
                    go_roundg (n - (k + (k2 + 1)))
                    case measure => omega
                    case rel => exact ⟨kk, k2 + 1, dk, rfl, by go_num, by omega, by omega, by omega, HDQ.out _, HE⟩
                  · have e2' : (xj == yj) = false := by rw [beq_eq_false_iff_ne]; exact e2
                    have HE := Lib.hid (HKE.out (HKP.out (fun h => e2 (by injection h))))
                    subst e1
                    clear e2 HKP HKN HSK HKE
                    go_upto_region 11 with fail
                    go_quiet (fail)
                    go_wp2_with fail
                    go_roundg (n - (k + (k2 + 1)))
                    case measure => omega
                    case rel => exact ⟨kk + 1, k2 + 1, _, by go_num, by go_num, by omega, by omega, by omega, HSET.out _, HE⟩
                · have e1' : (xb == yb) = false := by rw [beq_eq_false_iff_ne]; exact e1
                  have HE := Lib.hid (HKE.out (HKP.out (fun h => e1 (by injection h))))
                  clear e1 HKP HKN HSK HKE
                  go_upto_region 11 with fail
                  go_quiet (fail)
                  go_wp2_with fail
                  go_roundg (n - (k + (k2 + 1)))
                  case measure => omega
                  case rel => exact ⟨kk + 1, k2 + 1, _, by go_num, by go_num, by omega, by omega, by omega, HSET.out _, HE⟩
              · have hend : k + k2 = n := by omega
                have hlt2' : ¬ (k2 : Int) < ((n - k : Nat) : Int) := by omega
                have hkk0 : (0 : Int) ≤ (kk : Int) := by omega
                have hkk1 : (kk : Int) ≤ (n : Int) := by omega
                have hkk2 : kk ≤ cap := by omega
                have hkk3 : (kk : Int) ≤ (cap : Int) := by omega
                obtain ⟨w2, hcl, hC2⟩ := clear_refs HD2.out (show kk < n by omega)
                have hI := HI.out
                rw [hend] at hI
                have HE := Lib.hid (HEND2.out kk dk w2 hC2 hI)
                clear hC2 hI
                go_wp2_with fail
                exact HE.out
          · have g2' : (xi == yi) = false := by rw [beq_eq_false_iff_ne]; exact g2
            have HE := Lib.hid (fun q => HNEXT.out q (fun h => g2 (by injection h)))
            subst g1
            clear g2 HNEXT HKP HKN
            go_upto_region 6 with fail
            go_quiet (fail)
            go_wp2_with fail
            go_roundg (n - (k + 1))
            case measure => omega
            case rel => exact ⟨k + 1, by omega, by omega, by omega, by go_num, (HE.out _).1, (HE.out 0).2⟩
        · have g1' : (xa == ya) = false := by rw [beq_eq_false_iff_ne]; exact g1
          have HE := Lib.hid (fun q => HNEXT.out q (fun h => g1 (by injection h)))
          clear g1 HNEXT HKP HKN
          go_upto_region 6 with fail
          go_quiet (fail)
          go_wp2_with fail
          go_roundg (n - (k + 1))
          case measure => omega
          case rel => exact ⟨k + 1, by omega, by omega, by omega, by go_num, (HE.out _).1, (HE.out 0).2⟩
      · have hkn : k = n := by omega
        subst hkn
        have hE := Lib.hid (HSAME2.out wr HC.out HA.out)
        have hlt' : ¬ (k : Int) < (k : Int) := by omega
        go_wp2_with fail
        exact hE.out
end At
end Go.Proofs.YtfocooehnmpndaaGreat
namespace Go.Proofs.YtfocooehnmpndaaGreat
open Go.RowKit
namespace At
theorem Ref.d_cells (l : List Ref) : ∀ d ∈ l.map Ref.d, d.cells = 2 := by
  intro d hd
  simp at hd
  obtain ⟨t, _, rfl⟩ := hd
  simp [Ref.d, D.cells, D.cellsAll]
theorem Rd.ref_at {S : Nat → Prop} {w : World} {l : List Ref} {a : Option Addr} {n cap i : Nat} (h : Rd S w (.sl (l.map Ref.d)) [.slice a n cap]) (hi : i < l.length) :
    ∃ b off, a = some ⟨b, off, none⟩ ∧ S b ∧ b < w.heap.size ∧ w.cell? ⟨b, off + i * 2, none⟩ = some (.int .i64 l[i].at') ∧ w.cell? ⟨b, off + i * 2 + 1, none⟩ = some (.int .i64 l[i].attr) := by
  obtain ⟨b, off, cs, ha, hS, hlt, hr, hl, hc⟩ := h.at (Ref.d_cells l) (by decide) (i := i) (by simpa using hi)
  simp at hr
  have h2 := Rd.ref hr
  subst h2
  exact ⟨b, off, ha, hS, hlt, by simpa using hc 0 (by simp), by simpa [Nat.add_assoc] using hc 1 (by simp)⟩
theorem rdAll_refs {S : Nat → Prop} {w : World} : ∀ l : List Ref, RdAll S w (l.map Ref.d) (refC l)
  | [] => by simp [RdAll, refC]
  | x :: l => ⟨[.int .i64 x.at', .int .i64 x.attr], refC l, by simp [refC], rd_ref x, rdAll_refs l⟩
theorem Ref.ext' {x y : Ref} : x = y ↔ x.at' = y.at' ∧ x.attr = y.attr := by
  cases x with | mk u v => cases y with | mk u' v' => simp
def idxR (l : List Ref) (x : Ref) : Int := if x ∈ l then (l.findIdx (fun y => decide (x = y)) : Int) else -1
theorem idxR_ge (l : List Ref) (x : Ref) : decide (0 ≤ idxR l x) = decide (x ∈ l) := by
  unfold idxR
  by_cases h : x ∈ l
  · rw [if_pos h]; simp [h]
  · rw [if_neg h]; simp [h]
theorem idxR_hit {l : List Ref} {x : Ref} {i : Nat} (hi : i < l.length) (h : l[i] = x) (hn : ∀ j (h : j < l.length), j < i → l[j] ≠ x) : idxR l x = i := by
  unfold idxR
  rw [if_pos (by rw [← h]; exact List.getElem_mem hi)]
  have : l.findIdx (fun y => decide (x = y)) = i := by
    rw [List.findIdx_eq hi]
    exact ⟨by simp [h], fun j hj => by simpa using fun e => hn j (by omega) hj e.symm⟩
  rw [this]
theorem idxR_none {l : List Ref} {x : Ref} (hn : ∀ j (h : j < l.length), l[j] ≠ x) : idxR l x = -1 := by
  unfold idxR
  rw [if_neg]
  intro h
  obtain ⟨j, hj, e⟩ := List.getElem_of_mem h
  exact hn j hj e
set_option maxHeartbeats 2000000 in
set_option maxRecDepth 100000 in
theorem indexRef (l : List Ref) (x : Ref) (a : Option Addr) (cap : Nat) (w : World) (hl : Rd AnyB w (.sl (l.map Ref.d)) [.slice a l.length cap]) :
    Calls Tryz.prog 127 #[.slice a l.length cap, .agg #[.int .i64 x.at', .int .i64 x.attr]] w fun e w' => e = .returned (.int .i64 (idxR l x)) ∧ Below w.heap.size w w' := by
  have HL := Lib.hid hl
  have hc := hl.bounds.2
  unfold maxLen at hc
  obtain ⟨hc1, hc2⟩ := hc
  obtain ⟨w0, HW0⟩ := nameIt (w.alloc (.cells #[.int .i64 x.at', .int .i64 x.attr] 83))
  have HB0 : Hid (Below w.heap.size w w0) := by rw [← HW0.out]; exact (Below.refl _ _).alloc (Nat.le_refl _) _
  have X0 : Hid (w0.heap[w.heap.size]? = some (.cells #[.int .i64 x.at', .int .i64 x.attr] 83 (0, 0))) := by rw [← HW0.out]; exact bx_new _ _ _ rfl
  have HXE : Hid (∀ y : Ref, y = x ↔ y.at' = x.at' ∧ y.attr = x.attr) := fun y => Ref.ext'
  obtain ⟨xa, HXA⟩ := nameIt x.at'
  obtain ⟨xi, HXI⟩ := nameIt x.attr
  simp only [HXA.out, HXI.out] at HXE
  rw [HXA.out, HXI.out] at HW0 X0 ⊢
  have HB00 := Lib.hid (Below.refl w0.heap.size w0)
  have HN0 : Hid (∀ j (h : j < l.length), j < 0 → l[j] ≠ x) := fun j _ h => by omega
  clear hl
  go_enter Tryz.func127, Tryz.ntmps127
  go_upto_region 1 with fail
  rw [HW0.out]
  go_wp2_with fail
  go_loopg [8] l.length (fun gg v8 wr => ∃ i : Nat, i ≤ l.length ∧ l.length - i ≤ gg ∧ v8 = .int .i64 i ∧ Hid (Below w0.heap.size w0 wr) ∧ Hid (∀ j (h : j < l.length), j < i → l[j] ≠ x))
  case atStart => exact ⟨0, by omega, by omega, rfl, HB00, HN0⟩
  case round =>
    clear HB00 HN0
    obtain ⟨i, hi, hg, rfl, HB, HN⟩ := hrel
    by_cases hlt : i < l.length
    · have hlt' : (i : Int) < (l.length : Int) := by omega
      have hi0 : (0 : Int) ≤ (i : Int) := by omega
      obtain ⟨b, off, hae, -, -, c0, c1⟩ := Rd.ref_at (HL.out.below (HB0.out.trans (HB.out.mono HB0.out.size))) hlt
      have HXI2 := Lib.hid (HXE.out l[i])
      have HHIT := Lib.hid (fun (h : l[i] = x) => idxR_hit hlt h HN.out)
      have HNX := Lib.hid (fun (h : l[i] ≠ x) => show ∀ j (h : j < l.length), j < i + 1 → l[j] ≠ x from fun j h1 h2 => by
        by_cases e : j = i
        · subst e; exact h
        · exact HN.out j h1 (by omega))
      obtain ⟨y, HY⟩ := nameIt (l[i]'hlt)
      rw [HY.out] at c0 c1 HXI2
      simp only [HY.out] at HHIT HNX
      obtain ⟨ya, HYA⟩ := nameIt y.at'
      obtain ⟨yi, HYI⟩ := nameIt y.attr
      rw [HYA.out] at c0
      rw [HYI.out] at c1
      rw [HYA.out, HYI.out] at HXI2
      obtain ⟨x0, x1⟩ := bx_cells2 (bx_keep X0.out HB.out)
      subst hae
      by_cases g1 : ya = xa
      · by_cases g2 : yi = xi
        · have HE := Lib.hid (HHIT.out (HXI2.out.2 ⟨g1, g2⟩))
          subst g1 g2
          go_upto_region 4 with fail
          go_quiet (fail)
          go_wp2_with fail
          go_ret
          exact ⟨by rw [HE.out]; rfl, HB0.out.trans ((HB.out.trans ((below_drewN _ _).mono HB.out.size)).mono HB0.out.size)⟩
        · have g2' : (xi == yi) = false := by rw [beq_eq_false_iff_ne]; exact fun h => g2 h.symm
          have HE := Lib.hid (HNX.out (fun h => g2 (HXI2.out.1 h).2))
          subst g1
          clear g2
          go_upto_region 4 with fail
          go_quiet (fail)
          go_wp2_with fail
          go_roundg (l.length - (i + 1))
          case measure => omega
          case rel => exact ⟨i + 1, by omega, by omega, by go_num, HB.out.trans ((below_drewN _ _).mono HB.out.size), HE⟩
      · have g1' : (xa == ya) = false := by rw [beq_eq_false_iff_ne]; exact fun h => g1 h.symm
        have HE := Lib.hid (HNX.out (fun h => g1 (HXI2.out.1 h).1))
        clear g1
        go_upto_region 4 with fail
        go_quiet (fail)
        go_wp2_with fail
        go_roundg (l.length - (i + 1))
        case measure => omega
        case rel => exact ⟨i + 1, by omega, by omega, by go_num, HB.out.trans ((below_drewN _ _).mono HB.out.size), HE⟩
    · have hlt' : ¬ (i : Int) < (l.length : Int) := by omega
      have HE : Hid (idxR l x = -1) := idxR_none fun j hj => HN.out j hj (by omega)
      go_wp2_with fail
      go_ret
      exact ⟨by rw [HE.out]; rfl, HB0.out.trans (HB.out.mono HB0.out.size)⟩
set_option maxHeartbeats 1000000 in
theorem containsRef (l : List Ref) (x : Ref) (a : Option Addr) (cap : Nat) (w : World) (hl : Rd AnyB w (.sl (l.map Ref.d)) [.slice a l.length cap]) :
    Calls Tryz.prog 109 #[.slice a l.length cap, .agg #[.int .i64 x.at', .int .i64 x.attr]] w fun e w' => e = .returned (.bool (decide (x ∈ l))) ∧ Below w.heap.size w w' := by
  obtain ⟨w0, HW0⟩ := nameIt (w.alloc (.cells #[.int .i64 x.at', .int .i64 x.attr] 83))
  have HB0 : Hid (Below w.heap.size w w0) := by rw [← HW0.out]; exact (Below.refl _ _).alloc (Nat.le_refl _) _
  have X0 : Hid (w0.heap[w.heap.size]? = some (.cells #[.int .i64 x.at', .int .i64 x.attr] 83 (0, 0))) := by rw [← HW0.out]; exact bx_new _ _ _ rfl
  have HC := Lib.hid (indexRef l x a cap w0 (hl.below HB0.out))
  have HGE := Lib.hid (idxR_ge l x)
  obtain ⟨xa, HXA⟩ := nameIt x.at'
  obtain ⟨xi, HXI⟩ := nameIt x.attr
  obtain ⟨rs, HRS⟩ := nameIt (decide (x ∈ l))
  rw [HRS.out] at HGE
  rw [HXA.out, HXI.out] at HW0 X0 HC ⊢
  rw [HRS.out]
  obtain ⟨x0, x1⟩ := bx_cells2 X0.out
  clear hl
  go_enter Tryz.func109, Tryz.ntmps109
  go_upto_region 1 with fail
  rw [HW0.out]
  go_wp2_with fail
  refine HC.out.mono ?_
  rintro e w1 ⟨rfl, hb⟩
  have HB := Lib.hid hb
  clear hb
  go_wp2_with fail
  go_ret
  exact ⟨by rw [← HGE.out]; rfl, HB0.out.trans (HB.out.mono HB0.out.size)⟩
end At
end Go.Proofs.YtfocooehnmpndaaGreat
namespace Go.Proofs.YtfocooehnmpndaaGreat
open Go.RowKit
namespace At
def refsS (x : Expr) : List Ref := Lib.compact (sortR (refsOf x))
def RefsPost (x : Expr) (w : World) (e : Ending) (w' : World) : Prop := ∃ v, e = .returned v ∧ Rd AnyB w' (.sl ((refsS x).map Ref.d)) [v] ∧ Below w.heap.size w w'
set_option maxHeartbeats 4000000 in
set_option maxRecDepth 100000 in
theorem refsE (x : Expr) (v : Value) (w : World) (hbig : x.size ≤ 100000) (hv : Rd AnyB w (.sl (x.args.map Expr.d)) [v]) :
    Calls Tryz.prog 107 #[.agg #[.int .i64 x.kind, .int .i64 x.n, .int .i64 x.ref.at', .int .i64 x.ref.attr, v]] w (RefsPost x w) := by
  obtain ⟨a, cap, rfl, hc1, hc2⟩ := hv.form
  rw [List.length_map] at hc1 hv ⊢
  unfold maxLen at hc2
  obtain ⟨w0, HW0⟩ := nameIt ((w.alloc (.cells #[.int .i64 x.kind, .int .i64 x.n, .int .i64 x.ref.at', .int .i64 x.ref.attr, .slice a x.args.length cap] 86)).alloc (.cells #[.slice none 0 0] 159))
  have HSZ : Hid (w0.heap.size = w.heap.size + 2) := by show _ = _; rw [← HW0.out]; simp
  have HB0 : Hid (Below w.heap.size w w0) := by rw [← HW0.out]; exact ((Below.refl _ _).alloc (Nat.le_refl _) _).alloc (by simp) _
  have X0 : Hid (w0.heap[w.heap.size]? = some (.cells #[.int .i64 x.kind, .int .i64 x.n, .int .i64 x.ref.at', .int .i64 x.ref.attr, .slice a x.args.length cap] 86 (0, 0))) := by
    rw [← HW0.out]; exact bx_keep (bx_new _ _ _ rfl) ((Below.refl _ _).alloc (Nat.le_refl _) _)
  have X1 : Hid (w0.heap[w.heap.size + 1]? = some (.cells #[.slice none 0 0] 159 (0, 0))) := by
    rw [← HW0.out]; exact bx_new _ _ _ (by simp)
  obtain ⟨F, HFn⟩ := nameIt (Value.func (.func 123) #[] #[.pointer (some ⟨w.heap.size + 1, 0, none⟩), .pointer (some ⟨w0.heap.size, 0, none⟩)])
  have HI : Hid (∀ W, Below w0.heap.size w0 W → W.heap[w0.heap.size]? = some (.cells #[F] 199 (0, 0)) → RfI w (w.heap.size + 1) w0.heap.size (w0.heap.size + 1) [] (.slice none 0 0) W) := by
    intro W hb hx
    have h1 := (Array.getElem?_eq_some_iff.1 hx).1
    rw [← HFn.out] at hx
    have hw0 := HSZ.out
    exact ⟨HB0.out.trans (hb.mono HB0.out.size), by omega, bx_keep X1.out hb, hx, World.ownsRow_nil _ _ _ _⟩
  have HC : Hid (∀ W, RfI w (w.heap.size + 1) w0.heap.size (w0.heap.size + 1) [] (.slice none 0 0) W → _) := fun W h => gatherE w (w.heap.size + 1) w0.heap.size (w0.heap.size + 1) x.size x _ [] _ W (Nat.le_refl _) h hv (by simp; omega)
  have HLR : Hid ((refsOf x).length ≤ 100000) := Nat.le_trans (refsOf_len x) hbig
  have HFIN : Hid (∀ u W, Rd AnyB W (.sl ((Lib.compact (sortR (refsOf x))).map Ref.d)) [u] → Below w.heap.size w W → RefsPost x w (.returned u) W) := fun u W h1 h2 => ⟨u, rfl, h1, h2⟩
  obtain ⟨L, HL⟩ := nameIt (refsOf x)
  rw [HL.out] at HLR HFIN
  simp only [HL.out] at HC
  obtain ⟨PST, HP⟩ := nameIt (RefsPost x w)
  simp only [HP.out] at HFIN
  rw [HP.out]
  obtain ⟨q0, HQ0⟩ := nameIt x.kind
  obtain ⟨q1, HQ1⟩ := nameIt x.n
  obtain ⟨q2, HQ2⟩ := nameIt x.ref.at'
  obtain ⟨q3, HQ3⟩ := nameIt x.ref.attr
  obtain ⟨qn, HQN⟩ := nameIt x.args.length
  rw [HQ0.out, HQ1.out, HQ2.out, HQ3.out, HQN.out] at HW0 X0 ⊢
  simp only [HQ0.out, HQ1.out, HQ2.out, HQ3.out, HQN.out] at HC
  obtain ⟨x0, x1, x2, x3, x4⟩ := bx_cells5 X0.out
  have hlt0 : w.heap.size < w0.heap.size := by have := HSZ.out; omega
  clear hv
  go_enter Tryz.func107, Tryz.ntmps107
  go_upto_region 2 with fail
  rw [HW0.out]
  go_wp2_with fail
  rw [HFn.out]
  have hb1 := (Below.refl w0.heap.size w0).alloc (Nat.le_refl _) (.cells #[F] 199)
  refine (HC.out _ (HI.out _ hb1 (bx_new _ _ _ rfl))).mono ?_
  rintro e w1 ⟨rfl, u1, h1⟩
  simp only [List.nil_append] at h1
  have HF := Lib.hid h1
  have c0 := bx_cells1 h1.obox
  obtain ⟨a1, cap1, hu1, -, -⟩ := own_len h1.own
  have HS := Lib.hid (sortRef (w0.heap.size + 1) L u1 w1 h1.own HLR.out)
  clear h1 hb1 HC HI x0 x1 x2 x3 x4
  have HU1 := Lib.hid hu1
  obtain ⟨N, HN⟩ := nameIt L.length
  rw [HN.out] at hu1
  subst hu1
  go_wp2_with fail
  refine HS.out.mono ?_
  rintro e w2 ⟨rfl, ho2, hg2⟩
  have HO2 := Lib.hid ho2
  have hobk : (Value.slice a1 N cap1).ownBlock ≠ some (w.heap.size + 1) := fun e => by
    have := (HF.out.own.lt _ e).1
    have := HSZ.out
    omega
  have c2 : w2.cell? ⟨w.heap.size + 1, 0, none⟩ = some (.slice a1 N cap1) := hg2.cell c0 (fun e => hobk e.symm)
  have HCM := Lib.hid (compactRef (w0.heap.size + 1) (sortR L) (.slice a1 N cap1) w2 (by rw [sortR_len]; exact ho2) (by rw [sortR_len]; exact HLR.out))
  have HB2 : Hid (Below w.heap.size w w2) := HF.out.bel.grown hg2 HF.out.bel.size (fun k e => by
    have := (HF.out.own.lt _ e).1
    have := HSZ.out
    omega)
  have HOB : Hid (∀ k, (Value.slice a1 N cap1).ownBlock = some k → w.heap.size ≤ k) := fun k e => by
    have := (HF.out.own.lt _ e).1
    have := HSZ.out
    omega
  clear ho2 hg2 c0 hobk HS
  go_wp2_with fail
  refine HCM.out.mono ?_
  rintro e w3 ⟨u3, rfl, ho3, hg3⟩
  have hE := Lib.hid (HFIN.out u3 w3 (rd_of_own ho3 (rdAll_refs _) (by simp) (fun _ _ => trivial)) (HB2.out.grown hg3 HB2.out.size HOB.out))
  obtain ⟨a3, cap3, hu3, -, -⟩ := own_len ho3
  obtain ⟨N3, HN3⟩ := nameIt (Lib.compact (sortR L)).length
  rw [HN3.out] at hu3
  subst hu3
  clear ho3 hg3 HCM c2
  go_wp2_with fail
  exact hE.out
end At
end Go.Proofs.YtfocooehnmpndaaGreat
namespace Go.Proofs.YtfocooehnmpndaaGreat
open Go.RowKit
namespace Dm
open At (Ref worth worthL enodes refsS)
structure Nd where
  rule : Int
  up : Int
  pos : Int
  kids : List Int
  deriving DecidableEq
mutual
def tsz : Tree → Nat
  | .node _ _ ks => 1 + tszL ks
def tszL : List Tree → Nat
  | [] => 0
  | k :: ks => tsz k + tszL ks
end
theorem tsz_eq (t : Tree) : tsz t = 1 + tszL t.kids := by cases t; rw [tsz]; rfl
theorem tszL_append : ∀ (a b : List Tree), tszL (a ++ b) = tszL a + tszL b
  | [], b => by simp [tszL]
  | x :: a, b => by simp [tszL, tszL_append a b]; omega
def starts : Nat → List Tree → List Int
  | _, [] => []
  | s, k :: ks => (s : Int) :: starts (s + tsz k) ks
mutual
def numT : Tree → Nat → Int → Int → List Nd
  | .node r _ ks, s, up, pos => ⟨r, up, pos, starts (s + 1) ks⟩ :: numL ks (s + 1) s 1
def numL : List Tree → Nat → Int → Int → List Nd
  | [], _, _, _ => []
  | k :: ks, s, up, pos => numT k s up pos ++ numL ks (s + tsz k) up (pos + 1)
end
mutual
theorem numT_len : ∀ (t : Tree) (s : Nat) (up pos : Int), (numT t s up pos).length = tsz t
  | .node r tm ks, s, up, pos => by rw [numT, tsz, List.length_cons, numL_len ks]; omega
theorem numL_len : ∀ (ks : List Tree) (s : Nat) (up pos : Int), (numL ks s up pos).length = tszL ks
  | [], _, _, _ => by rw [numL]; rfl
  | k :: ks, s, up, pos => by rw [numL, tszL, List.length_append, numT_len k, numL_len ks]
end
theorem starts_snoc : ∀ (ks : List Tree) (k : Tree) (s : Nat), starts s (ks ++ [k]) = starts s ks ++ [((s + tszL ks : Nat) : Int)]
  | [], k, s => by simp [starts, tszL]
  | x :: ks, k, s => by
    rw [List.cons_append, starts, starts, starts_snoc ks k, List.cons_append, tszL]
    congr 3
    omega
theorem numL_snoc : ∀ (ks : List Tree) (k : Tree) (s : Nat) (up pos : Int), numL (ks ++ [k]) s up pos = numL ks s up pos ++ numT k (s + tszL ks) up (pos + ks.length)
  | [], k, s, up, pos => by simp [numL, tszL]
  | x :: ks, k, s, up, pos => by
    rw [List.cons_append, numL, numL, numL_snoc ks k, List.append_assoc, tszL]
    congr 3
    · omega
    · simp; omega
def addK (L : List Nd) (up : Int) (n : Nat) : List Nd := if 0 ≤ up then L.modify up.toNat fun x => { x with kids := x.kids ++ [(n : Int)] } else L
theorem addK_len (L : List Nd) (up : Int) (n : Nat) : (addK L up n).length = L.length := by
  unfold addK; by_cases h : 0 ≤ up <;> simp [h]
def part (L : List Nd) (r up pos : Int) (ks : List Tree) : List Nd := L ++ ⟨r, up, pos, starts (L.length + 1) ks⟩ :: numL ks (L.length + 1) L.length 1
theorem part_len (L : List Nd) (r up pos : Int) (ks : List Tree) : (part L r up pos ks).length = L.length + 1 + tszL ks := by
  unfold part
  rw [List.length_append, List.length_cons, numL_len]; omega
theorem part_all (L : List Nd) (t : Tree) (up pos : Int) : part L t.rule up pos t.kids = L ++ numT t L.length up pos := by
  cases t with
  | node r tm ks => rw [numT]; rfl
theorem part_nil (L : List Nd) (r up pos : Int) : part L r up pos [] = L ++ [⟨r, up, pos, []⟩] := rfl
theorem modify_mid {α : Type} (f : α → α) (x : α) (M : List α) : ∀ (L : List α), (L ++ x :: M).modify L.length f = L ++ f x :: M
  | [] => rfl
  | y :: L => by rw [List.cons_append, List.length_cons, List.modify_succ_cons, modify_mid f x M L]; rfl
theorem part_snoc (L : List Nd) (r up pos : Int) (ks : List Tree) (k : Tree) : part L r up pos (ks ++ [k]) = addK (part L r up pos ks) L.length (part L r up pos ks).length ++ numT k (part L r up pos ks).length L.length (ks.length + 1) := by
  rw [part_len]
  unfold addK part
  rw [if_pos (by omega), Int.toNat_natCast, starts_snoc, numL_snoc, modify_mid]
  simp only [List.append_assoc, List.cons_append]
  rw [show (1 : Int) + (ks.length : Int) = (ks.length : Int) + 1 by omega]
abbrev Inst := Nat × Nat
def ndAt (L : List Nd) (n : Nat) : Nd := (L[n]?).getD ⟨0, -1, 0, []⟩
def attrsOf (al : List At.Attr) (non : Int) : List Nat := (List.range al.length).filter fun a => match al[a]? with | some x => x.non == non | none => false
def leftOf (g : Gram) (r : Int) : Int := ((g.rules[r.toNat]?).map Rule.left).getD 0
def attrsAt (g : Gram) (s : At.Sys) (L : List Nd) (n : Nat) : List Nat := if (ndAt L n).rule < 0 then [] else attrsOf s.attrs (leftOf g (ndAt L n).rule)
def allI (g : Gram) (s : At.Sys) (L : List Nd) : List Inst := (List.range L.length).flatMap fun n => (attrsAt g s L n).map fun a => (n, a)
def inhA (al : List At.Attr) (a : Nat) : Bool := ((al[a]?).map At.Attr.inh).getD false
def ownerI (s : At.Sys) (L : List Nd) (i : Inst) : Nat := if inhA s.attrs i.2 then (ndAt L i.1).up.toNat else i.1
def occI (s : At.Sys) (L : List Nd) (i : Inst) : Ref := if inhA s.attrs i.2 then ⟨(ndAt L i.1).pos, (i.2 : Int)⟩ else ⟨0, (i.2 : Int)⟩
def Expr0 : At.Expr := .node 0 0 ⟨0, 0⟩ []
def eqnOf (s : At.Sys) (rule : Int) (x : Ref) : At.Expr := ((s.eqs.find? fun q => decide (q.rule = rule ∧ q.to' = x)).map At.Eqn.is').getD Expr0
def exprI (s : At.Sys) (L : List Nd) (i : Inst) : At.Expr := eqnOf s (ndAt L (ownerI s L i)).rule (occI s L i)
def placeI (L : List Nd) (n : Nat) (r : Ref) : Inst := if r.at' = 0 then (n, r.attr.toNat) else ((((ndAt L n).kids[(r.at' - 1).toNat]?).getD 0).toNat, r.attr.toNat)
def needsI (s : At.Sys) (L : List Nd) (i : Inst) : List Inst := (refsS (exprI s L i)).map (placeI L (ownerI s L i))
inductive Vl (s : At.Sys) (L : List Nd) : Inst → Int → Prop where
  | mk (i : Inst) (f : Inst → Int) (h : ∀ j ∈ needsI s L i, Vl s L j (f j)) : Vl s L i (worth (fun r => f (placeI L (ownerI s L i) r)) (exprI s L i))
mutual
theorem worth_congr {get get' : Ref → Int} : ∀ (x : At.Expr), (∀ y ∈ enodes x, y.kind = 1 → get y.ref = get' y.ref) → worth get x = worth get' x
  | .node k n r l, h => by
    rw [At.worth_eq, At.worth_eq]
    show At.comb k n (get r) (worthL get l) = At.comb k n (get' r) (worthL get' l)
    rw [worthL_congr l (fun y hy => h y (by rw [At.enodes_eq]; exact List.mem_cons_of_mem _ hy))]
    by_cases hk : k = 1
    · have := h (.node k n r l) (by rw [At.enodes_eq]; exact List.mem_cons_self) hk
      rw [show get r = get' r from this]
    · unfold At.comb; simp [hk]
theorem worthL_congr {get get' : Ref → Int} : ∀ (l : List At.Expr), (∀ y ∈ At.enodesL l, y.kind = 1 → get y.ref = get' y.ref) → worthL get l = worthL get' l
  | [], _ => by rw [worthL, worthL]
  | x :: l, h => by
    rw [worthL, worthL, worth_congr x (fun y hy => h y (by rw [At.enodesL]; exact List.mem_append_left _ hy)), worthL_congr l (fun y hy => h y (by rw [At.enodesL]; exact List.mem_append_right _ hy))]
end
end Dm
end Go.Proofs.YtfocooehnmpndaaGreat
namespace Go.Proofs.YtfocooehnmpndaaGreat
def rootS (g : Gram) (t : Tree) : Sym := if t.rule < 0 then ⟨true, t.term⟩ else match g.rules[t.rule.toNat]? with | some r => ⟨false, r.left⟩ | none => ⟨true, t.term⟩
def kidOk (g : Gram) (k : Tree) (s : Sym) : Bool := decide (-1 ≤ k.rule) && (decide (k.rule < g.rules.length) && decide (rootS g k = s))
def kidsOk (g : Gram) (ks : List Tree) (l : List Sym) : Bool := decide (ks.length = l.length) && (List.zip ks l).all fun x => kidOk g x.1 x.2
def nodeOk (g : Gram) (t : Tree) : Bool :=
  if t.rule = -1 then decide (0 ≤ t.term) && (decide (t.term < g.terms) && decide (t.kids.length = 0))
  else if t.rule < 0 then false else match g.rules[t.rule.toNat]? with
    | none => false
    | some r => decide (t.term = 0) && kidsOk g t.kids r.right
def validT (g : Gram) (t : Tree) : Bool := (nodes t).all (nodeOk g)
def checkT (g : Gram) (t : Tree) : Int := if checkG g ≠ 0 then checkG g else if 5000 < (nodes t).length then 2 else if validT g t then 0 else 3
def label (g : Gram) (t : Tree) : Option Sym :=
  if t.rule = -1 ∧ t.kids.length = 0 ∧ 0 ≤ t.term ∧ t.term < g.terms then some ⟨true, t.term⟩
  else if t.rule < 0 ∨ t.term ≠ 0 then none else (g.rules[t.rule.toNat]?).map fun r => ⟨false, r.left⟩
def refNode (g : Gram) (t : Tree) : Bool :=
  (label g t).isSome && (decide (t.rule = -1) || ((t.kids.all fun k => (label g k).isSome) && match g.rules[t.rule.toNat]? with | some r => decide (t.kids.map (label g) = r.right.map some) | none => false))
theorem label_root {g : Gram} {t : Tree} {s : Sym} (h : label g t = some s) : rootS g t = s ∧ -1 ≤ t.rule ∧ t.rule < g.rules.length := by
  unfold label at h
  by_cases h1 : t.rule = -1 ∧ t.kids.length = 0 ∧ 0 ≤ t.term ∧ t.term < g.terms
  · rw [if_pos h1] at h
    simp at h
    subst h
    refine ⟨by simp [rootS, h1.1], by omega, by omega⟩
  · rw [if_neg h1] at h
    by_cases h2 : t.rule < 0 ∨ t.term ≠ 0
    · rw [if_pos h2] at h; simp at h
    · rw [if_neg h2] at h
      cases h3 : g.rules[t.rule.toNat]? with
      | none => rw [h3] at h; simp at h
      | some r =>
        rw [h3] at h
        simp at h
        subst h
        obtain ⟨h4, _⟩ := List.getElem?_eq_some_iff.1 h3
        refine ⟨?_, by omega, by omega⟩
        simp only [rootS, if_neg (show ¬ t.rule < 0 by omega), h3]
theorem nodeOk_label {g : Gram} {t : Tree} (h : nodeOk g t = true) : label g t = some (rootS g t) := by
  unfold nodeOk at h
  unfold label rootS
  by_cases h1 : t.rule = -1
  · rw [if_pos h1] at h
    simp at h
    rw [if_pos ⟨h1, by simp [h.2.2], h.1, h.2.1⟩, if_pos (by omega)]
  · rw [if_neg h1] at h
    by_cases h2 : t.rule < 0
    · rw [if_pos h2] at h; simp at h
    · rw [if_neg h2] at h
      cases h3 : g.rules[t.rule.toNat]? with
      | none => rw [h3] at h; simp at h
      | some r =>
        rw [h3] at h
        simp at h
        rw [if_neg (fun h4 => h1 h4.1), if_neg (by omega), if_neg h2]
        rfl
mutual
theorem kid_node : ∀ (t x k : Tree), x ∈ nodes t → x.rule ≠ -1 → k ∈ x.kids → k ∈ nodes t
  | .node r tm ks, x, k, hx, hr, hk => by
    rw [nodes] at hx ⊢
    rcases List.mem_cons.1 hx with rfl | hx
    · simp only [Tree.rule, Tree.kids] at hr hk
      rw [if_neg hr]
      exact List.mem_cons_of_mem _ (kid_mem ks k hk)
    · by_cases h : r = -1
      · rw [if_pos h] at hx; simp at hx
      · rw [if_neg h] at hx ⊢
        exact List.mem_cons_of_mem _ (kid_nodeL ks x k hx hr hk)
theorem kid_nodeL : ∀ (ks : List Tree) (x k : Tree), x ∈ nodesL ks → x.rule ≠ -1 → k ∈ x.kids → k ∈ nodesL ks
  | [], x, k, hx, _, _ => by simp [nodesL] at hx
  | y :: ks, x, k, hx, hr, hk => by
    rw [nodesL] at hx ⊢
    rcases List.mem_append.1 hx with h | h
    · exact List.mem_append_left _ (kid_node y x k h hr hk)
    · exact List.mem_append_right _ (kid_nodeL ks x k h hr hk)
theorem kid_mem : ∀ (ks : List Tree) (k : Tree), k ∈ ks → k ∈ nodesL ks
  | [], k, h => by simp at h
  | y :: ks, k, h => by
    rw [nodesL]
    rcases List.mem_cons.1 h with rfl | h
    · refine List.mem_append_left _ ?_
      rw [nodes_eq]; exact List.mem_cons_self
    · exact List.mem_append_right _ (kid_mem ks k h)
end
theorem kidsOk_map {g : Gram} : ∀ {ks : List Tree} {l : List Sym}, (∀ k ∈ ks, label g k = some (rootS g k)) → (kidsOk g ks l = true ↔ (∀ k ∈ ks, -1 ≤ k.rule ∧ k.rule < g.rules.length) ∧ ks.map (label g) = l.map some)
  | [], [], _ => by simp [kidsOk]
  | [], _ :: _, _ => by simp [kidsOk]
  | _ :: _, [], _ => by simp [kidsOk]
  | k :: ks, s :: l, h => by
    have ih := kidsOk_map (g := g) (ks := ks) (l := l) (fun x hx => h x (List.mem_cons_of_mem _ hx))
    have hk := h k List.mem_cons_self
    unfold kidsOk at ih ⊢
    simp only [List.length_cons, List.zip_cons_cons, List.all_cons, List.map_cons, Bool.and_eq_true, decide_eq_true_eq] at ih ⊢
    simp only [kidOk, Bool.and_eq_true, decide_eq_true_eq]
    rw [hk]
    constructor
    · rintro ⟨h1, ⟨h2, h3, h4⟩, h5⟩
      obtain ⟨h6, h7⟩ := ih.1 ⟨by omega, h5⟩
      refine ⟨fun x hx => ?_, by rw [h4, h7]⟩
      rcases List.mem_cons.1 hx with rfl | hx
      · exact ⟨h2, h3⟩
      · exact h6 x hx
    · rintro ⟨h1, h2⟩
      simp at h2
      obtain ⟨h3, h4⟩ := ih.2 ⟨fun x hx => h1 x (List.mem_cons_of_mem _ hx), h2.2⟩
      have h5 := h1 k List.mem_cons_self
      exact ⟨by omega, ⟨h5.1, h5.2, h2.1⟩, h4⟩
theorem valid_ref (g : Gram) (t : Tree) : validT g t = (nodes t).all (refNode g) := by
  rw [Bool.eq_iff_iff]
  unfold validT
  rw [List.all_eq_true, List.all_eq_true]
  constructor
  · intro h x hx
    have hl := nodeOk_label (h x hx)
    have hn := h x hx
    unfold refNode
    rw [hl]
    by_cases hr : x.rule = -1
    · simp [hr]
    · have hkl : ∀ k ∈ x.kids, label g k = some (rootS g k) := fun k hk => nodeOk_label (h k (kid_node t x k hx hr hk))
      unfold nodeOk at hn
      rw [if_neg hr] at hn
      by_cases h2 : x.rule < 0
      · rw [if_pos h2] at hn; simp at hn
      · rw [if_neg h2] at hn
        cases h3 : g.rules[x.rule.toNat]? with
        | none => rw [h3] at hn; simp at hn
        | some r =>
          rw [h3] at hn
          simp only [Bool.and_eq_true] at hn
          have h4 := ((kidsOk_map hkl).1 hn.2).2
          have h5 : (x.kids.all fun k => (label g k).isSome) = true := List.all_eq_true.2 fun k hk => by rw [hkl k hk]; rfl
          simp [hr, h4, h5]
  · intro h x hx
    have hn := h x hx
    unfold refNode at hn
    rw [Bool.and_eq_true] at hn
    obtain ⟨s, hs⟩ := Option.isSome_iff_exists.1 hn.1
    unfold nodeOk
    by_cases hr : x.rule = -1
    · rw [if_pos hr]
      unfold label at hs
      by_cases h1 : x.rule = -1 ∧ x.kids.length = 0 ∧ 0 ≤ x.term ∧ x.term < g.terms
      · simp only [h1.2.1, h1.2.2.1, h1.2.2.2]; rfl
      · rw [if_neg h1, if_pos (by omega)] at hs; simp at hs
    · rw [if_neg hr]
      unfold label at hs
      rw [if_neg (fun h1 => hr h1.1)] at hs
      by_cases h2 : x.rule < 0 ∨ x.term ≠ 0
      · rw [if_pos h2] at hs; simp at hs
      · rw [if_neg (by omega)]
        have hm := hn.2
        rw [Bool.or_eq_true] at hm
        rcases hm with hm | hm
        · simp at hm; exact absurd hm hr
        · cases h3 : g.rules[x.rule.toNat]? with
          | none => rw [h3] at hm; simp at hm
          | some r =>
            rw [h3] at hm
            simp only [Bool.and_eq_true, decide_eq_true_eq] at hm ⊢
            have hkl : ∀ k ∈ x.kids, label g k = some (rootS g k) := fun k hk => by
              obtain ⟨y, hy⟩ := Option.isSome_iff_exists.1 (List.all_eq_true.1 hm.1 k hk)
              rw [hy, (label_root hy).1]
            exact ⟨by omega, (kidsOk_map hkl).2 ⟨fun k hk => (label_root (hkl k hk)).2, hm.2⟩⟩
end Go.Proofs.YtfocooehnmpndaaGreat
namespace Go.Proofs.YtfocooehnmpndaaGreat
open Go.RowKit
namespace At
theorem elExpr : ElemT Tryz.prog 84 86 5 56 := ElemT.mk' (z := .agg #[.int .i64 0, .int .i64 0, .int .i64 0, .int .i64 0, .slice none 0 0]) Tryz.underlying84 (by kernel_rfl) rfl (by decide)
def ExprsPost (S0 : Nat → Prop) (x : Expr) (w : World) (e : Ending) (w' : World) : Prop :=
  ∃ v xs, e = .returned v ∧ w'.ownsRow w.heap.size 86 5 v x.size xs ∧ RdAll S0 w' ((enodes x).map Expr.d) xs ∧ Below w.heap.size w w'
structure ExI (S0 : Nat → Prop) (x : Expr) (w : World) (i n : Nat) (v : Value) (wr : World) : Prop where
  row : ∃ xs, wr.ownsRow w.heap.size 86 5 v n xs ∧ RdAll S0 wr ((x :: enodesL (x.args.take i)).map Expr.d) xs
  bel : Below w.heap.size w wr
  len : n = 1 + sizeL (x.args.take i)
set_option maxHeartbeats 4000000 in
set_option maxRecDepth 100000 in
theorem exprsE (S0 : Nat → Prop) : ∀ (m : Nat) (x : Expr) (v : Value) (w : World), x.size ≤ m → x.size ≤ 1048576 → (∀ k, S0 k → k < w.heap.size) → Rd S0 w (.sl (x.args.map Expr.d)) [v] →
    Calls Tryz.prog 69 #[.agg #[.int .i64 x.kind, .int .i64 x.n, .int .i64 x.ref.at', .int .i64 x.ref.attr, v]] w (ExprsPost S0 x w) := by
  intro m
  induction m with
  | zero => intro x v w hm; have := x.size_pos; omega
  | succ m ih =>
  intro x v w hm hM hS hv
  obtain ⟨a, cap, rfl, hc1, hc2⟩ := hv.form
  rw [List.length_map] at hc1 hv ⊢
  unfold maxLen at hc2
  have HV := Lib.hid hv
  have HM := Lib.hid hm
  have HM2 := Lib.hid hM
  have HS := Lib.hid hS
  have IH := Lib.hid ih
  have HSZ := Lib.hid x.size_eq
  have HNO := Lib.hid (enodes_eq x)
  obtain ⟨K, HKN⟩ := nameIt x.args
  rw [HKN.out] at hc1 HV HSZ HNO ⊢
  obtain ⟨w0, HW0⟩ := nameIt (w.alloc (.cells #[.int .i64 x.kind, .int .i64 x.n, .int .i64 x.ref.at', .int .i64 x.ref.attr, .slice a K.length cap] 86))
  have hb0 : Below w.heap.size w w0 := by rw [← HW0.out]; exact (Below.refl _ _).alloc (Nat.le_refl _) _
  have X0 : Hid (w0.heap[w.heap.size]? = some (.cells #[.int .i64 x.kind, .int .i64 x.n, .int .i64 x.ref.at', .int .i64 x.ref.attr, .slice a K.length cap] 86 (0, 0))) := by rw [← HW0.out]; exact bx_new _ _ _ rfl
  obtain ⟨w1, HW1⟩ := nameIt (w0.alloc (.cells #[.int .i64 x.kind, .int .i64 x.n, .int .i64 x.ref.at', .int .i64 x.ref.attr, .slice a K.length cap] 86))
  have hb1 : Below w0.heap.size w0 w1 := by rw [← HW1.out]; exact (Below.refl _ _).alloc (Nat.le_refl _) _
  have HB1 : Hid (Below w.heap.size w w1) := hb0.trans (hb1.mono hb0.size)
  have HI0 : Hid (ExI S0 x w 0 1 (.slice (some ⟨w0.heap.size, 0, none⟩) 1 1) w1) := by
    refine ⟨⟨_, own_of_blockB (n := 1) (by rw [← HW1.out]; exact bx_new _ _ _ rfl) hb0.size rfl (by simp [maxLen]), ?_⟩, HB1.out, by simp [sizeL]⟩
    simp only [List.take_zero, enodesL, List.map_cons, List.map_nil]
    exact RdAll.one (rd_expr (by rw [HKN.out]; exact HV.out.below HB1.out))
  have X1 := Lib.hid (bx_keep X0.out hb1)
  obtain ⟨q0, HQ0⟩ := nameIt x.kind
  obtain ⟨q1, HQ1⟩ := nameIt x.n
  obtain ⟨q2, HQ2⟩ := nameIt x.ref.at'
  obtain ⟨q3, HQ3⟩ := nameIt x.ref.attr
  rw [HQ0.out, HQ1.out, HQ2.out, HQ3.out] at X0 X1 HW0 HW1 ⊢
  obtain ⟨g0, HG0⟩ := nameIt w0.heap.size
  rw [HG0.out] at HI0
  obtain ⟨x0, x1, x2, x3, x4⟩ := bx_cells5 X0.out
  clear hm hM hS hv ih hb0 hb1
  go_enter Tryz.func69, Tryz.ntmps69
  go_upto_region 1 with fail
  rw [HW0.out]
  go_upto_region 2 with fail
  rw [HW1.out, HG0.out]
  clear x0 x1 x2 x3 x4
  obtain ⟨x0, x1, x2, x3, x4⟩ := bx_cells5 X1.out
  go_wp2_with fail
  clear x0 x1 x2 x3 x4
  go_loopg [3, 11] K.length (fun gg v3 v11 wr => ∃ (i n : Nat), i ≤ K.length ∧ K.length - i ≤ gg ∧ v11 = .int .i64 i ∧ Hid (ExI S0 x w i n v3 wr))
  case atStart => exact ⟨0, 1, by omega, by omega, rfl, HI0⟩
  case round =>
    clear HI0
    obtain ⟨i, n, hi, hg, rfl, HI⟩ := hrel
    by_cases hlt : i < K.length
    · have hlt' : (i : Int) < (K.length : Int) := by omega
      obtain ⟨b, off, v, hae, hSb, hbl, e0, e1, e2, e3, e4, hkid⟩ := Rd.arg (HV.out.below HI.out.bel) hlt
      obtain ⟨av, cv, rfl, -, -⟩ := hkid.form
      rw [List.length_map] at e4 hkid
      have hks : sizeL (K.take i) + K[i].size ≤ sizeL K := sizeL_kid hlt
      have hms : K[i].size ≤ m := by
        have h1 := HM.out
        rw [HSZ.out] at h1
        omega
      have hms2 : K[i].size ≤ 1048576 := by
        have h1 := HM2.out
        rw [HSZ.out] at h1
        omega
      have HLEN : Hid (n = 1 + sizeL (K.take i)) := by have h := HI.out.len; rw [HKN.out] at h; exact h
      have hnk : n + K[i].size ≤ 1048576 := by
        have h1 := HM2.out
        have h2 := HLEN.out
        rw [HSZ.out] at h1
        omega
      have HTK := Lib.hid (sizeL_take hlt)
      have HET := Lib.hid (enodesL_take hlt)
      obtain ⟨w2, HW2⟩ := nameIt (wr.alloc (.cells #[.int .i64 K[i].kind, .int .i64 K[i].n, .int .i64 K[i].ref.at', .int .i64 K[i].ref.attr, .slice av K[i].args.length cv] 86))
      have hb2 : Below wr.heap.size wr w2 := by rw [← HW2.out]; exact (Below.refl _ _).alloc (Nat.le_refl _) _
      have X2 : Hid (w2.heap[wr.heap.size]? = some (.cells #[.int .i64 K[i].kind, .int .i64 K[i].n, .int .i64 K[i].ref.at', .int .i64 K[i].ref.attr, .slice av K[i].args.length cv] 86 (0, 0))) := by rw [← HW2.out]; exact bx_new _ _ _ rfl
      have HB2 : Hid (Below w.heap.size w w2) := HI.out.bel.trans (hb2.mono HI.out.bel.size)
      have HIH := Lib.hid (IH.out K[i] _ w2 hms hms2 (fun k hk => Nat.lt_of_lt_of_le (HS.out k hk) HB2.out.size) (hkid.below hb2))
      obtain ⟨kid, HKI⟩ := nameIt (K[i]'hlt)
      rw [HKI.out] at e0 e1 e2 e3 e4 HIH HTK HET X2 HW2 hnk
      obtain ⟨p0, HP0⟩ := nameIt kid.kind
      obtain ⟨p1, HP1⟩ := nameIt kid.n
      obtain ⟨p2, HP2⟩ := nameIt kid.ref.at'
      obtain ⟨p3, HP3⟩ := nameIt kid.ref.attr
      obtain ⟨pn, HPN⟩ := nameIt kid.args.length
      rw [HP0.out, HP1.out, HP2.out, HP3.out, HPN.out] at HIH X2 HW2
      rw [HP0.out] at e0
      rw [HP1.out] at e1
      rw [HP2.out] at e2
      rw [HP3.out] at e3
      rw [HPN.out] at e4
      obtain ⟨ks, HKS⟩ := nameIt kid.size
      rw [HKS.out] at hnk HTK
      obtain ⟨xs, ho, hd⟩ := HI.out.row
      obtain ⟨ar, cr, hvr, hr1, hr2⟩ := own_len ho
      have HO := Lib.hid (own_keep ho hb2)
      have HD := Lib.hid (hd.below hb2)
      subst hae hvr
      obtain ⟨y0, y1, y2, y3, y4⟩ := bx_cells5 X2.out
      clear hkid hms hms2 ho hd hb2 hks
      go_upto_region 5 with fail
      rw [HW2.out]
      clear e0 e1 e2 e3 e4
      go_wp2_with fail
      refine HIH.out.mono ?_
      rintro e w3 ⟨v3, ys, rfl, ho3, hd3, hb3⟩
      rw [HKS.out] at ho3
      obtain ⟨a3, c3, rfl, h31, h32⟩ := own_len ho3
      have HO3 := Lib.hid ho3
      have HD3 := Lib.hid hd3
      have HB3 := Lib.hid hb3
      have HONE : Hid (∀ y ∈ ys, y.oneCell' = true) := RdAll.ones _ _ hd3
      clear ho3 hd3 hb3 y0 y1 y2 y3 y4
      go_wp2_with (refine wp_appRow elExpr (by rfl) _ _ (by rfl) (own_keep HO.out HB3.out) (by rfl) HO3.out (by rfl) HONE.out (by omega) (by unfold maxLen; omega) (Nat.le_trans HB2.out.size HB3.out.size) ?_; intro v4 w4 ho4 hg4 hat4; have HO4 := Lib.hid ho4; have HG4 := Lib.hid hg4; have HA4 := Lib.hid hat4; obtain ⟨a4, c4, rfl, h41, h42⟩ := own_len ho4; clear ho4 hg4 hat4)
      go_roundg (K.length - (i + 1))
      case measure => omega
      case rel =>
        refine ⟨i + 1, n + ks, by omega, by omega, by go_num, ⟨⟨xs ++ ys, HO4.out, ?_⟩, ?_, ?_⟩⟩
        · have h1 := HET.out
          rw [HKN.out, h1]
          rw [← List.cons_append, List.map_append]
          have hlt0 : ∀ k, S0 k → k < w.heap.size := HS.out
          have hblk : ∀ k, S0 k → k < w3.heap.size → S0 k ∧ w4.heap[k]? = w3.heap[k]? := fun k hk hl => ⟨hk, HG4.out.block k hl (fun e => by have := (HO.out.lt k e.symm).1; have := hlt0 k hk; omega)⟩
          refine RdAll.append (RdAll.keep hblk _ _ ?_) (RdAll.keep hblk _ _ HD3.out)
          have h2 := HD.out.below HB3.out
          rw [HKN.out] at h2
          exact h2
        · exact (HB2.out.trans (HB3.out.mono HB2.out.size)).grown HG4.out (Nat.le_trans HB2.out.size HB3.out.size) (fun k e => (HO.out.lt k e).1)
        · rw [HKN.out, HTK.out, HLEN.out]; omega
    · have hlt' : ¬ (i : Int) < (K.length : Int) := by omega
      have hte : K.take i = K := List.take_of_length_le (by omega)
      obtain ⟨xs, ho, hd⟩ := HI.out.row
      have hl := HI.out.len
      rw [HKN.out, hte] at hd hl
      obtain ⟨ar, cr, hvr, hr1, hr2⟩ := own_len ho
      have HO := Lib.hid ho
      have HD := Lib.hid hd
      have HL := Lib.hid hl
      subst hvr
      clear ho hd hl hte
      go_wp2_with fail
      go_ret
      exact ⟨_, xs, rfl, by rw [HSZ.out, ← HL.out]; exact HO.out, by rw [HNO.out]; exact HD.out, HI.out.bel⟩
end At
end Go.Proofs.YtfocooehnmpndaaGreat
namespace Go.Proofs.YtfocooehnmpndaaGreat
open Go.RowKit
namespace At
def ltR (z r : Ref) : Bool := decide (z.at' < r.at' ∨ (z.at' = r.at' ∧ z.attr < r.attr))
def posR (L : List Ref) (r : Ref) : Nat := L.findIdx fun z => !ltR z r
def insR (L : List Ref) (r : Ref) : List Ref := L.take (posR L r) ++ r :: L.drop (posR L r)
def mentStep (L : List Ref) (y : Expr) : List Ref := if y.kind ≠ 1 ∨ y.ref ∈ L then L else insR L y.ref
def mentS (x : Expr) : List Ref := (enodes x).foldl mentStep []
theorem posR_le (L : List Ref) (r : Ref) : posR L r ≤ L.length := List.findIdx_le_length
theorem posR_at {L : List Ref} {r : Ref} {i : Nat} (hi : i ≤ L.length) (h1 : ∀ j (h : j < L.length), j < i → ltR L[j] r = true) (h2 : ∀ h : i < L.length, ltR L[i] r = false) : posR L r = i := by
  unfold posR
  rcases Nat.lt_or_ge i L.length with hlt | hge
  · rw [List.findIdx_eq hlt]
    exact ⟨by simp [h2 hlt], fun j hj => by simp [h1 j (by omega) hj]⟩
  · have e : i = L.length := by omega
    rw [e, List.findIdx_eq_length]
    intro z hz
    obtain ⟨j, hj, rfl⟩ := List.getElem_of_mem hz
    simp [h1 j hj (by omega)]
theorem insR_len (L : List Ref) (r : Ref) : (insR L r).length = L.length + 1 := by
  unfold insR
  have := posR_le L r
  simp [List.length_take, List.length_drop]
  omega
theorem mentStep_len (L : List Ref) (y : Expr) : (mentStep L y).length ≤ L.length + 1 := by
  unfold mentStep
  split
  · omega
  · rw [insR_len]; exact Nat.le_refl _
theorem ment_take {N : List Expr} {k : Nat} (h : k < N.length) : (N.take (k + 1)).foldl mentStep [] = mentStep ((N.take k).foldl mentStep []) N[k] := by
  rw [List.take_succ_eq_append_getElem h, List.foldl_append]; rfl
theorem ment_len (N : List Expr) : ∀ k, ((N.take k).foldl mentStep []).length ≤ k := by
  intro k
  induction k with
  | zero => simp
  | succ k ih =>
    rcases Nat.lt_or_ge k N.length with h | h
    · rw [ment_take h]; exact Nat.le_trans (mentStep_len _ _) (by omega)
    · rw [List.take_of_length_le (by omega)] at ih ⊢; omega
structure MnI (w2 : World) (B : Nat) (L : List Ref) (u : Value) (wr : World) : Prop where
  own : wr.ownsRow B 83 2 u L.length (refC L)
  bel : Below w2.heap.size w2 wr
theorem MnI.keep {w2 : World} {B : Nat} {L : List Ref} {u : Value} {wr w' : World} (h : MnI w2 B L u wr) (hb : Below wr.heap.size wr w') : MnI w2 B L u w' := ⟨own_keep h.own hb, h.bel.trans (hb.mono h.bel.size)⟩
theorem MnI.rd {w2 : World} {B : Nat} {L : List Ref} {u : Value} {wr : World} (h : MnI w2 B L u wr) : Rd AnyB wr (.sl (L.map Ref.d)) [u] := rd_of_own h.own (rdAll_refs L) (by simp) (fun _ _ => trivial)
def MentPost (x : Expr) (w : World) (e : Ending) (w' : World) : Prop := ∃ v, e = .returned v ∧ Rd AnyB w' (.sl ((mentS x).map Ref.d)) [v] ∧ Below w.heap.size w w'
set_option maxHeartbeats 8000000 in
set_option maxRecDepth 100000 in
theorem mentE (x : Expr) (v : Value) (w : World) (hbig : x.size ≤ 100000) (hv : Rd AnyB w (.sl (x.args.map Expr.d)) [v]) :
    Calls Tryz.prog 85 #[.agg #[.int .i64 x.kind, .int .i64 x.n, .int .i64 x.ref.at', .int .i64 x.ref.attr, v]] w (MentPost x w) := by
  obtain ⟨a, cap, rfl, hc1, hc2⟩ := hv.form
  rw [List.length_map] at hc1 hv ⊢
  unfold maxLen at hc2
  obtain ⟨w0, HW0⟩ := nameIt (w.alloc (.cells #[.int .i64 x.kind, .int .i64 x.n, .int .i64 x.ref.at', .int .i64 x.ref.attr, .slice a x.args.length cap] 86))
  have HB0 : Hid (Below w.heap.size w w0) := by rw [← HW0.out]; exact (Below.refl _ _).alloc (Nat.le_refl _) _
  have X0 : Hid (w0.heap[w.heap.size]? = some (.cells #[.int .i64 x.kind, .int .i64 x.n, .int .i64 x.ref.at', .int .i64 x.ref.attr, .slice a x.args.length cap] 86 (0, 0))) := by rw [← HW0.out]; exact bx_new _ _ _ rfl
  have HXE := Lib.hid (exprsE (fun k => k < w0.heap.size) x.size x _ w0 (Nat.le_refl _) (by omega) (fun k h => h) ((hv.below HB0.out).mono (fun k _ h => h)))
  have HLE := Lib.hid (enodes_len x)
  have HFIN : Hid (∀ u W, Rd AnyB W (.sl (((enodes x).foldl mentStep []).map Ref.d)) [u] → Below w.heap.size w W → MentPost x w (.returned u) W) := fun u W h1 h2 => ⟨u, rfl, h1, h2⟩
  have HMT := Lib.hid (fun (k : Nat) (h : k < (enodes x).length) => @ment_take (enodes x) k h)
  have HML := Lib.hid (ment_len (enodes x))
  obtain ⟨q0, HQ0⟩ := nameIt x.kind
  obtain ⟨q1, HQ1⟩ := nameIt x.n
  obtain ⟨q2, HQ2⟩ := nameIt x.ref.at'
  obtain ⟨q3, HQ3⟩ := nameIt x.ref.attr
  obtain ⟨qn, HQN⟩ := nameIt x.args.length
  obtain ⟨sz, HSZ⟩ := nameIt x.size
  obtain ⟨N, HNN⟩ := nameIt (enodes x)
  rw [HQ0.out, HQ1.out, HQ2.out, HQ3.out, HQN.out] at HW0 X0 HXE ⊢
  rw [HNN.out, HSZ.out] at HLE
  rw [HNN.out] at HML HFIN
  simp only [HNN.out] at HMT
  rw [HSZ.out] at hbig
  obtain ⟨x0, x1, x2, x3, x4⟩ := bx_cells5 X0.out
  clear hv
  go_enter Tryz.func85, Tryz.ntmps85
  go_upto_region 1 with fail
  rw [HW0.out]
  go_wp2_with fail
  refine HXE.out.mono ?_
  rintro e w2 ⟨v2, xs2, rfl, ho2, hd2, hb2⟩
  rw [HSZ.out] at ho2
  rw [HNN.out] at hd2
  have HB2 : Hid (Below w.heap.size w w2) := HB0.out.trans (hb2.mono HB0.out.size)
  have HND : Hid (Rd AnyB w2 (.sl (N.map Expr.d)) [v2]) := rd_of_own ho2 hd2.any (by rw [List.length_map, HLE.out]) (fun _ _ => trivial)
  obtain ⟨a2, c2, rfl, -, -⟩ := own_len ho2
  have HI0 : Hid (MnI w2 w2.heap.size ((N.take 0).foldl mentStep []) (.slice none 0 0) w2) := ⟨World.ownsRow_nil _ _ _ _, Below.refl _ _⟩
  clear ho2 hd2 hb2 x0 x1 x2 x3 x4
  go_wp2_with fail
  go_loopg [3, 10] sz (fun gg v3 v10 wr => ∃ k : Nat, k ≤ sz ∧ sz - k ≤ gg ∧ v10 = .int .i64 k ∧ Hid (MnI w2 w2.heap.size ((N.take k).foldl mentStep []) v3 wr))
  case atStart => exact ⟨0, by omega, by omega, rfl, HI0⟩
  case round =>
    clear HI0
    obtain ⟨k, hk, hg, rfl, HI⟩ := hrel
    by_cases hlt : k < sz
    · have hlt' : (k : Int) < (sz : Int) := by omega
      have hkN : k < N.length := by rw [HLE.out]; exact hlt
      obtain ⟨wb, rfl⟩ : ∃ ww : World, ww = wr := ⟨_, rfl⟩
      obtain ⟨b, off, v, hae, -, hbl, e0, e1, e2, e3, e4, hkid⟩ := Rd.arg (HND.out.below HI.out.bel) hkN
      obtain ⟨av, cv, rfl, -, -⟩ := hkid.form
      rw [List.length_map] at e4 hkid
      have HST := Lib.hid (HMT.out k hkN)
      have hml := HML.out k
      obtain ⟨L, HL⟩ := nameIt ((N.take k).foldl mentStep [])
      rw [HL.out] at HI HST hml
      obtain ⟨y, HY⟩ := nameIt (N[k]'hkN)
      rw [HY.out] at e0 e1 e2 e3 e4 HST
      have HSM : Hid (mentStep L y = if y.kind ≠ 1 ∨ y.ref ∈ L then L else insR L y.ref) := rfl
      obtain ⟨w3, HW3⟩ := nameIt (wb.alloc (.cells #[.int .i64 y.kind, .int .i64 y.n, .int .i64 y.ref.at', .int .i64 y.ref.attr, .slice av y.args.length cv] 86))
      have hb3 : Below wb.heap.size wb w3 := by rw [← HW3.out]; exact (Below.refl _ _).alloc (Nat.le_refl _) _
      have X3 : Hid (w3.heap[wb.heap.size]? = some (.cells #[.int .i64 y.kind, .int .i64 y.n, .int .i64 y.ref.at', .int .i64 y.ref.attr, .slice av y.args.length cv] 86 (0, 0))) := by rw [← HW3.out]; exact bx_new _ _ _ rfl
      have HI3 := Lib.hid (HI.out.keep hb3)
      obtain ⟨ar, cr, hur, hr1, hr2⟩ := own_len HI3.out.own
      subst hur
      unfold maxLen at hr2
      have HCR := Lib.hid (containsRef L y.ref ar cr w3 (by have h := HI3.out.rd; exact h))
      have HRE : Hid (y.ref = ⟨y.ref.at', y.ref.attr⟩) := rfl
      have HINS := Lib.hid (fun (i : Nat) (hi : i ≤ L.length) (vb : Nat) (W : World) (h : MnI w2 w2.heap.size L (.slice ar L.length cr) W) (hvb : W.heap[vb]? = some (.cells #[.int .i64 y.ref.at', .int .i64 y.ref.attr] 83 (0, 0))) (hne : (Value.slice ar L.length cr).ownBlock ≠ some vb) => insertRef w2.heap.size L y.ref i hi (.slice ar L.length cr) vb W h.own hvb hne h.bel.size (by omega))
      have HLTR : Hid (∀ z : Ref, ltR z y.ref = decide (z.at' < y.ref.at' ∨ (z.at' = y.ref.at' ∧ z.attr < y.ref.attr))) := fun z => rfl
      have HPOS := Lib.hid (fun (i : Nat) (hi : i ≤ L.length) => @posR_at L y.ref i hi)
      have HINSR : Hid (insR L y.ref = L.take (posR L y.ref) ++ y.ref :: L.drop (posR L y.ref)) := rfl
      obtain ⟨p0, HP0⟩ := nameIt y.kind
      obtain ⟨p1, HP1⟩ := nameIt y.n
      obtain ⟨p2, HP2⟩ := nameIt y.ref.at'
      obtain ⟨p3, HP3⟩ := nameIt y.ref.attr
      obtain ⟨pn, HPN⟩ := nameIt y.args.length
      obtain ⟨rf, HRF⟩ := nameIt y.ref
      obtain ⟨ct, HCT⟩ := nameIt (decide (rf ∈ L))
      rw [HP0.out, HP1.out, HP2.out, HP3.out, HPN.out] at X3 HW3
      rw [HP0.out] at e0 HSM
      rw [HP1.out] at e1
      rw [HP2.out] at e2
      rw [HP3.out] at e3
      rw [HPN.out] at e4
      rw [HP2.out, HP3.out] at HCR
      rw [HRF.out, HCT.out] at HCR
      simp only [HP2.out, HP3.out] at HINS HLTR
      simp only [HRF.out] at HINS HLTR HPOS HINSR
      rw [HRF.out] at HSM
      obtain ⟨n, HLN⟩ := nameIt L.length
      have HLN' := Lib.hid HLN.out
      simp only [HLN.out] at HI3 HCR HINS HPOS
      rw [HLN.out] at hr1 hml
      have HBL3 : Hid (∀ j, (Value.slice ar n cr).ownBlock = some j → j < wb.heap.size) := fun j e => by
        have h := (HI.out.own.lt j (by rw [HLN.out]; exact e)).2
        exact h
      obtain ⟨x0, x1, x2, x3, x4⟩ := bx_cells5 X3.out
      subst hae
      clear hb3 hkid
      rw [HLN.out]
      go_upto_region 5 with fail
      rw [HW3.out]
      clear e0 e1 e2 e3 e4
      by_cases hk1 : p0 = 1
      · subst hk1
        go_wp2_with fail
        refine HCR.out.mono ?_
        rintro e w4 ⟨rfl, hb4⟩
        have HI4 : Hid (MnI w2 w2.heap.size L (.slice ar n cr) w4) := HI3.out.keep hb4
        have X4 := Lib.hid (bx_keep X3.out hb4)
        have HB34 := Lib.hid hb4
        clear hb4 x0 x1 x2 x3 x4
        cases ct with
        | true =>
          have hin : rf ∈ L := by simpa using HCT.out
          have HIN := Lib.hid hin
          clear hin
          have HEQ : Hid ((N.take (k + 1)).foldl mentStep [] = L) := by show _ = _; rw [HST.out, HSM.out, if_pos (.inr HIN.out)]
          go_wp2_with fail
          go_roundg (sz - (k + 1))
          case measure => omega
          case rel => exact ⟨k + 1, by omega, by omega, by go_num, by rw [HEQ.out]; exact HI4.out⟩
        | false =>
          have hin : ¬ rf ∈ L := by simpa using HCT.out
          have HEQ : Hid ((N.take (k + 1)).foldl mentStep [] = insR L rf) := by show _ = _; rw [HST.out, HSM.out, if_neg (by simpa using hin)]
          have HPL : Hid (posR L rf ≤ n) := by show _ ≤ _; rw [← HLN.out]; exact posR_le _ _
          have HJ0 : Hid (∀ j (h : j < L.length), j < 0 → ltR L[j] rf = true) := fun j _ h => by omega
          have HB44 := Lib.hid (Below.refl w4.heap.size w4)
          obtain ⟨ps, HPS⟩ := nameIt (posR L rf)
          rw [HPS.out] at HPL HINSR
          simp only [HPS.out] at HPOS
          clear hin
          go_upto_block 2 with fail
          go_cut [6] (fun t6 wx => t6 = .int .i64 (ps : Nat) ∧ Hid (Below w4.heap.size w4 wx))
          case first =>
            go_wp2_with fail
            go_loopg [6] n (fun gg v6 wr => ∃ i : Nat, i ≤ n ∧ n - i ≤ gg ∧ v6 = .int .i64 i ∧ Hid (∀ j (h : j < L.length), j < i → ltR L[j] rf = true) ∧ Hid (Below w4.heap.size w4 wr))
            case atStart => exact ⟨0, by omega, by omega, rfl, HJ0, HB44⟩
            case round =>
              clear HJ0 HB44
              obtain ⟨i, hi, hgi, rfl, HJ, HB5⟩ := hrel
              have hi0 : (0 : Int) ≤ (i : Int) := by omega
              by_cases hin : i < n
              · have hin' : decide ((i : Int) < (n : Int)) = true := by simpa using hin
                have hin2 : (i : Int) < (n : Int) := by omega
                have hiL : i < L.length := by rw [HLN.out]; exact hin
                obtain ⟨bz, oz, haz, -, -, c0, c1⟩ := Rd.ref_at (HI4.out.keep HB5.out).rd hiL
                have HLZ := Lib.hid (HLTR.out (L[i]'hiL))
                have HNX0 := Lib.hid (fun (h : ltR (L[i]'hiL) rf = true) => show ∀ j (h : j < L.length), j < i + 1 → ltR L[j] rf = true from fun j h1 h2 => by
                  by_cases e : j = i
                  · subst e; exact h
                  · exact HJ.out j h1 (by omega))
                have HPE0 := Lib.hid (fun (h : ltR (L[i]'hiL) rf = false) => HPOS.out i (by omega) (fun j h5 h6 => HJ.out j (by rw [HLN.out]; exact h5) h6) (fun _ => h))
                obtain ⟨z, HZ⟩ := nameIt (L[i]'hiL)
                rw [HZ.out] at c0 c1 HLZ
                simp only [HZ.out] at HNX0 HPE0
                obtain ⟨za, HZA⟩ := nameIt z.at'
                obtain ⟨zi, HZI⟩ := nameIt z.attr
                rw [HZA.out] at c0
                rw [HZI.out] at c1
                rw [HZA.out, HZI.out] at HLZ
                obtain ⟨x0, x1, x2, x3, x4⟩ := bx_cells5 (bx_keep X4.out HB5.out)
                subst haz
                by_cases h1 : za < p2
                · have h1' : decide (za < p2) = true := by simpa using h1
                  have HNX := Lib.hid (HNX0.out (by rw [HLZ.out]; exact decide_eq_true (.inl h1)))
                  clear h1
                  go_upto_region 7 with fail
                  go_quiet (fail)
                  go_wp2_with fail
                  go_roundg (n - (i + 1))
                  case measure => omega
                  case rel => exact ⟨i + 1, by omega, by omega, by go_num, HNX, HB5.out.trans ((below_drewN _ _).mono HB5.out.size)⟩
                · have h1' : decide (za < p2) = false := by simpa using h1
                  by_cases h2 : za = p2
                  · subst h2
                    by_cases h3 : zi < p3
                    · have h3' : decide (zi < p3) = true := by simpa using h3
                      have HNX := Lib.hid (HNX0.out (by rw [HLZ.out]; exact decide_eq_true (.inr ⟨rfl, h3⟩)))
                      clear h1 h3
                      go_upto_region 7 with fail
                      go_quiet (fail)
                      go_wp2_with fail
                      go_roundg (n - (i + 1))
                      case measure => omega
                      case rel => exact ⟨i + 1, by omega, by omega, by go_num, HNX, HB5.out.trans ((below_drewN _ _).mono HB5.out.size)⟩
                    · have h3' : decide (zi < p3) = false := by simpa using h3
                      have HPE : Hid (ps = i) := HPE0.out (by rw [HLZ.out]; exact decide_eq_false (fun h => by rcases h with h | h; exact h1 h; exact h3 h.2))
                      clear h1 h3
                      go_upto_region 7 with fail
                      go_quiet (fail)
                      go_wp2_with fail
                      go_meet
                      case rel => exact ⟨by rw [HPE.out], HB5.out.trans ((below_drewN _ _).mono HB5.out.size)⟩
                  · have h2' : (za == p2) = false := by simpa using h2
                    have HPE : Hid (ps = i) := HPE0.out (by rw [HLZ.out]; exact decide_eq_false (fun h => by rcases h with h | h; exact h1 h; exact h2 h.1))
                    clear h1 h2
                    go_upto_region 7 with fail
                    go_quiet (fail)
                    go_wp2_with fail
                    go_meet
                    case rel => exact ⟨by rw [HPE.out], HB5.out.trans ((below_drewN _ _).mono HB5.out.size)⟩
              · have hin' : decide ((i : Int) < (n : Int)) = false := by simpa using hin
                have HPE : Hid (ps = i) := HPOS.out i (by omega) (fun j h5 h6 => HJ.out j (by rw [HLN.out]; exact h5) h6) (fun h => absurd h hin)
                obtain ⟨x0, x1, x2, x3, x4⟩ := bx_cells5 (bx_keep X4.out HB5.out)
                go_upto_region 7 with fail
                go_quiet (fail)
                go_wp2_with fail
                go_meet
                case rel => exact ⟨by rw [HPE.out], HB5.out.trans ((below_drewN _ _).mono HB5.out.size)⟩
          case rest =>
            obtain ⟨rfl, HB5⟩ := hcut
            obtain ⟨w5, rfl⟩ : ∃ ww : World, ww = wc := ⟨_, rfl⟩
            have hpl := HPL.out
            have HI5 := Lib.hid (HI4.out.keep HB5.out)
            have X5 := Lib.hid (bx_keep X4.out HB5.out)
            obtain ⟨w6, HW6⟩ := nameIt (w5.alloc (.cells #[.int .i64 p2, .int .i64 p3] 83))
            have hb6 : Below w5.heap.size w5 w6 := by rw [← HW6.out]; exact (Below.refl _ _).alloc (Nat.le_refl _) _
            have XV : w6.heap[w5.heap.size]? = some (.cells #[.int .i64 p2, .int .i64 p3] 83 (0, 0)) := by rw [← HW6.out]; exact bx_new _ _ _ rfl
            have HC := Lib.hid (HINS.out ps (by omega) w5.heap.size w6 (HI5.out.keep hb6) XV (fun e => by
              have h1 := HBL3.out _ e
              have h2 := HB34.out.size
              have h3 := HB5.out.size
              have h4 := (Array.getElem?_eq_some_iff.1 X3.out).1
              omega))
            have HB26 : Hid (Below w2.heap.size w2 w6) := HI5.out.bel.trans (hb6.mono HI5.out.bel.size)
            have HUB : Hid (∀ q, (Value.slice ar n cr).ownBlock = some q → w2.heap.size ≤ q) := fun q e => (HI5.out.own.lt q e).1
            obtain ⟨x0, x1, x2, x3, x4⟩ := bx_cells5 X5.out
            clear hb6 XV
            go_wp2_with fail
            rw [HW6.out]
            refine HC.out.mono ?_
            rintro e w7 ⟨u7, rfl, ho7, hg7⟩
            have HI7 : Hid (MnI w2 w2.heap.size (insR L rf) u7 w7) := by
              refine ⟨?_, HB26.out.grown hg7 HB26.out.size (fun q e => HUB.out q e)⟩
              rw [insR_len, HINSR.out]
              exact ho7
            obtain ⟨a7, c7, hu7, -, -⟩ := own_len ho7
            subst hu7
            clear ho7 hg7
            go_wp2_with fail
            go_roundg (sz - (k + 1))
            case measure => omega
            case rel => exact ⟨k + 1, by omega, by omega, by go_num, by rw [HEQ.out]; exact HI7⟩
      · have hkb : (p0 != 1) = true := by simpa using hk1
        have HK1 := Lib.hid hk1
        clear hk1
        have HEQ : Hid ((N.take (k + 1)).foldl mentStep [] = L) := by show _ = _; rw [HST.out, HSM.out, if_pos (.inl HK1.out)]
        go_wp2_with fail
        go_roundg (sz - (k + 1))
        case measure => omega
        case rel => exact ⟨k + 1, by omega, by omega, by go_num, by rw [HEQ.out]; exact HI3.out⟩
    · have hlt' : ¬ (k : Int) < (sz : Int) := by omega
      have hi := HI.out
      rw [List.take_of_length_le (by rw [HLE.out]; omega)] at hi
      obtain ⟨ar, cr, hur, hr1, hr2⟩ := own_len hi.own
      have HR := Lib.hid hi.rd
      have HBE := Lib.hid hi.bel
      subst hur
      clear hi
      go_wp2_with fail
      go_ret
      exact HFIN.out _ _ HR.out (HB2.out.trans (HBE.out.mono HB2.out.size))
end At
end Go.Proofs.YtfocooehnmpndaaGreat
namespace Go.Proofs.YtfocooehnmpndaaGreat
open Go.RowKit
namespace At
set_option maxHeartbeats 400000 in
theorem gramN (x : Int) (w : World) : Calls Tryz.prog 61 #[.int .i64 x] w fun e w' => e = .returned (.agg #[.bool false, .int .i64 x]) ∧ Below w.heap.size w w' := by
  go_enter Tryz.func61, Tryz.ntmps61
  go_wp2
  exact bodyPost_ret (v := .agg #[.bool false, .int .i64 x]) (by simp [results, Tryz.results61, go_sem]) rfl ⟨rfl, (Below.refl _ _).alloc (Nat.le_refl _) _⟩
theorem Rd.attr_at {S : Nat → Prop} {w : World} {l : List Attr} {a : Option Addr} {n cap i : Nat} (h : Rd S w (.sl (l.map Attr.d)) [.slice a n cap]) (hi : i < l.length) :
    ∃ b off, a = some ⟨b, off, none⟩ ∧ S b ∧ b < w.heap.size ∧ w.cell? ⟨b, off + i * 2, none⟩ = some (.int .i64 l[i].non) ∧ w.cell? ⟨b, off + i * 2 + 1, none⟩ = some (.bool l[i].inh) := by
  obtain ⟨b, off, cs, ha, hS, hlt, hr, hl, hc⟩ := h.at (attrs_cells l) (by decide) (i := i) (by simpa using hi)
  simp at hr
  obtain ⟨c1, c2, rfl, h1, h2⟩ := hr
  rw [RdAll.one_iff] at h2
  simp [Rd] at h1 h2
  subst h1 h2
  exact ⟨b, off, ha, hS, hlt, by simpa using hc 0 (by simp), by simpa [Nat.add_assoc] using hc 1 (by simp)⟩
theorem there_no {al : List Attr} {r : Rule} {x : Ref} (h : x.attr < 0 ∨ (al.length : Int) ≤ x.attr ∨ x.at' < 0 ∨ (r.right.length : Int) < x.at') : there al r x = false := by
  unfold there
  rw [decide_eq_false (by omega)]
  rfl
theorem there_at {al : List Attr} {r : Rule} {x : Ref} {j : Nat} (hj : j < al.length) (hx : x.attr = (j : Int)) (h0 : 0 ≤ x.at') (h1 : x.at' ≤ r.right.length) : there al r x = if x.at' = 0 then decide (al[j].non = r.left) else decide (r.right[(x.at' - 1).toNat]? = some ⟨false, al[j].non⟩) := by
  unfold there
  rw [decide_eq_true (by omega), hx]
  simp [hj]
set_option maxHeartbeats 2000000 in
set_option maxRecDepth 100000 in
theorem thereE (al : List Attr) (r : Rule) (x : Ref) (aa ae ar : Option Addr) (ca ne ce cr : Nat) (w : World) (hA : Rd AnyB w (.sl (al.map Attr.d)) [.slice aa al.length ca]) (hR : Rd AnyB w (.sl (r.right.map Sym.d)) [.slice ar r.right.length cr]) :
    Calls Tryz.prog 117 #[.agg #[.slice aa al.length ca, .slice ae ne ce], .agg #[.int .i64 r.left, .slice ar r.right.length cr], .agg #[.int .i64 x.at', .int .i64 x.attr]] w (fun e w' => e = .returned (.bool (there al r x)) ∧ Below w.heap.size w w') := by
  have ha1 := hA.bounds.2
  have hr1 := hR.bounds.2
  unfold maxLen at ha1 hr1
  obtain ⟨ha1, ha2⟩ := ha1
  obtain ⟨hr1, hr2⟩ := hr1
  obtain ⟨w0, HW0⟩ := nameIt (((w.alloc (.cells #[.slice aa al.length ca, .slice ae ne ce] 28)).alloc (.cells #[.int .i64 r.left, .slice ar r.right.length cr] 81)).alloc (.cells #[.int .i64 x.at', .int .i64 x.attr] 83))
  have HB0 : Hid (Below w.heap.size w w0) := by rw [← HW0.out]; exact (((Below.refl _ _).alloc (Nat.le_refl _) _).alloc (by simp) _).alloc (by simp; omega) _
  have X1 : Hid (w0.heap[w.heap.size]? = some (.cells #[.slice aa al.length ca, .slice ae ne ce] 28 (0, 0))) := by
    rw [← HW0.out]; exact bx_keep (bx_keep (bx_new _ _ _ rfl) ((Below.refl _ _).alloc (Nat.le_refl _) _)) ((Below.refl _ _).alloc (Nat.le_refl _) _)
  have X2 : Hid (w0.heap[w.heap.size + 1]? = some (.cells #[.int .i64 r.left, .slice ar r.right.length cr] 81 (0, 0))) := by
    rw [← HW0.out]; exact bx_keep (bx_new _ _ _ (by simp)) ((Below.refl _ _).alloc (Nat.le_refl _) _)
  have X3 : Hid (w0.heap[w.heap.size + 1 + 1]? = some (.cells #[.int .i64 x.at', .int .i64 x.attr] 83 (0, 0))) := by
    rw [← HW0.out]; exact bx_new _ _ _ (by simp)
  have HA := Lib.hid (hA.below HB0.out)
  have HR := Lib.hid (hR.below HB0.out)
  have HNO := Lib.hid (@there_no al r x)
  have HAT := Lib.hid (fun (j : Nat) (hj : j < al.length) => @there_at al r x j hj)
  obtain ⟨lf, HLF⟩ := nameIt r.left
  obtain ⟨R, HRR⟩ := nameIt r.right
  obtain ⟨xa, HXA⟩ := nameIt x.at'
  obtain ⟨xi, HXI⟩ := nameIt x.attr
  obtain ⟨th, HTH⟩ := nameIt (there al r x)
  rw [HLF.out, HRR.out, HXA.out, HXI.out] at HW0
  rw [HLF.out, HRR.out] at X2
  rw [HXA.out, HXI.out] at X3
  rw [HRR.out] at HR hr1
  rw [HXI.out, HXA.out, HRR.out, HTH.out] at HNO
  rw [HXI.out, HXA.out, HRR.out, HTH.out, HLF.out] at HAT
  rw [HLF.out, HRR.out, HXA.out, HXI.out, HTH.out]
  obtain ⟨x0, x1⟩ := bx_cells2 X1.out
  obtain ⟨y0, y1⟩ := bx_cells2 X2.out
  obtain ⟨z0, z1⟩ := bx_cells2 X3.out
  clear hA hR
  go_enter Tryz.func117, Tryz.ntmps117
  go_upto_region 1 with fail
  rw [HW0.out]
  by_cases h1 : xi < 0
  · obtain rfl : th = false := HNO.out (.inl h1)
    have h1' : decide (xi < 0) = true := by simpa using h1
    clear h1
    go_wp2_with fail
    go_ret
    exact ⟨rfl, HB0.out⟩
  · have h1' : decide (xi < 0) = false := by simpa using h1
    obtain ⟨j, hj⟩ : ∃ j : Nat, xi = (j : Int) := ⟨xi.toNat, by omega⟩
    subst hj
    by_cases h2 : j < al.length
    · have h2' : ¬ al.length ≤ j := by omega
      by_cases h3 : xa < 0
      · obtain rfl : th = false := HNO.out (.inr (.inr (.inl h3)))
        have h3' : decide (xa < 0) = true := by simpa using h3
        clear h1 h3
        go_wp2_with fail
        go_ret
        exact ⟨rfl, HB0.out⟩
      · have h3' : decide (xa < 0) = false := by simpa using h3
        obtain ⟨k, hk⟩ : ∃ k : Nat, xa = (k : Int) := ⟨xa.toNat, by omega⟩
        subst hk
        by_cases h4 : k ≤ R.length
        · have h4' : ¬ R.length < k := by omega
          have hat := HAT.out j h2 rfl (by omega) (by omega)
          obtain ⟨b, off, hae, -, hbl, c0, c1⟩ := Rd.attr_at HA.out h2
          obtain ⟨non, HNON⟩ := nameIt (al[j]'h2).non
          rw [HNON.out] at c0 hat
          have hj0 : (0 : Int) ≤ (j : Int) := by omega
          have hj1 : (j : Int) < (al.length : Int) := by omega
          have HATH := Lib.hid hat
          subst hae
          clear h1 h3 hat c1
          cases k with
          | zero =>
            have HE : Hid (th = decide (non = lf)) := by have h := HATH.out; rw [if_pos (by simp)] at h; exact h
            go_wp2_with fail
            go_ret
            exact ⟨by rw [HE.out]; rfl, HB0.out⟩
          | succ k =>
            have hkR : k < R.length := by omega
            obtain ⟨b', off', hae', -, hbl', d0, d1⟩ := HR.out.sym_at hkR
            have HGN := Lib.hid (fun W => gramN non W)
            have HE : Hid (th = decide (R[k]'hkR = ⟨false, non⟩)) := by
              show _ = _
              have h := HATH.out
              rw [if_neg (by omega), show ((((k + 1 : Nat) : Int) - 1).toNat) = k by omega, List.getElem?_eq_getElem hkR] at h
              simpa using h
            obtain ⟨sy, HSY⟩ := nameIt (R[k]'hkR)
            rw [HSY.out] at d0 d1 HE
            obtain ⟨st, HST⟩ := nameIt sy.term
            obtain ⟨sn, HSN⟩ := nameIt sy.n
            rw [HST.out] at d0
            rw [HSN.out] at d1
            subst hae'
            have hkk : ((k + 1 : Nat) : Int) = (k : Int) + 1 := by omega
            rw [hkk] at z0
            rw [hkk]
            have hk0 : (0 : Int) ≤ (k : Int) := by omega
            have hk1 : (k : Int) < (R.length : Int) := by omega
            have hk2 : (k : Int) ≤ 9223372036854775806 := by omega
            have hkt : ((k : Int)).toNat = k := by omega
            have hw0 : IntKind.i64.wrap ((k : Int) + 1 - 1) = (k : Int) := by rw [show (k : Int) + 1 - 1 = (k : Int) by omega]; exact IntWalk.i64_in _ (by omega)
            have hw1 : IntKind.i64.wrap (k : Int) = (k : Int) := IntWalk.i64_in _ (by omega)
            have HW0' := Lib.hid hw0
            have HW1' := Lib.hid hw1
            clear hw0 hw1 hkk
            go_upto_region 6 with fail
            cases st with
            | true =>
              have HTF : Hid (th = false) := by
                show _ = _
                rw [HE.out]; exact decide_eq_false (fun e => by have h := HST.out; rw [e] at h; cases h)
              have hw0 := HW0'.out
              have hw1 := HW1'.out
              go_region_held3 (fun w' => w'.cell? ⟨w.heap.size + 1, 0, none⟩ = some (.int .i64 lf) ∧ w'.cell? ⟨w.heap.size + 1, 0 + 1, none⟩ = some (.slice (some ⟨b', off', none⟩) R.length cr) ∧ w'.cell? ⟨w.heap.size + 1 + 1, 0, none⟩ = some (.int .i64 ((k : Int) + 1)) ∧ w'.cell? ⟨b', off' + k * 2, none⟩ = some (.bool true) ∧ w'.cell? ⟨b', off' + k * 2 + 1, none⟩ = some (.int .i64 sn)) (first | go_keep | exact ⟨K0, K1, K2, K3, K4⟩ | fail)
                (first
                  | (go_at_call 61; (with_reducible refine (HGN.out _).mono ?_); rintro e w7 ⟨rfl, hb7⟩; have HB7 : Hid (Below w0.heap.size w0 w7) := (Below.refl _ _).drew.trans hb7; have K0 := (HB7.out.cell (p := ⟨w.heap.size + 1, 0, none⟩) (lt_of_cell y0)).trans y0; have K1 := (HB7.out.cell (p := ⟨w.heap.size + 1, 0 + 1, none⟩) (lt_of_cell y1)).trans y1; have K2 := (HB7.out.cell (p := ⟨w.heap.size + 1 + 1, 0, none⟩) (lt_of_cell z0)).trans z0; have K3 := (HB7.out.cell (p := ⟨b', off' + k * 2, none⟩) (lt_of_cell d0)).trans d0; have K4 := (HB7.out.cell (p := ⟨b', off' + k * 2 + 1, none⟩) (lt_of_cell d1)).trans d1; clear hb7)
                  | fail)
              all_goals
                go_wp2_with fail
                go_ret
                exact ⟨by rw [HTF.out]; rfl, HB0.out.trans (HB7.out.mono HB0.out.size)⟩
            | false =>
              by_cases hsn : sn = non
              · have HTF : Hid (th = true) := by
                  show _ = _
                  rw [HE.out]; refine decide_eq_true ?_
                  cases sy with
                  | mk t n =>
                    have h1 := HST.out
                    have h2 := HSN.out
                    simp at h1 h2
                    rw [h1, h2, hsn]
                subst hsn
                have hw0 := HW0'.out
                have hw1 := HW1'.out
                have hsb : (sn == sn) = true := by simp
                go_region_held3 (fun w' => w'.cell? ⟨w.heap.size + 1, 0, none⟩ = some (.int .i64 lf) ∧ w'.cell? ⟨w.heap.size + 1, 0 + 1, none⟩ = some (.slice (some ⟨b', off', none⟩) R.length cr) ∧ w'.cell? ⟨w.heap.size + 1 + 1, 0, none⟩ = some (.int .i64 ((k : Int) + 1)) ∧ w'.cell? ⟨b', off' + k * 2, none⟩ = some (.bool false) ∧ w'.cell? ⟨b', off' + k * 2 + 1, none⟩ = some (.int .i64 sn)) (first | go_keep | exact ⟨K0, K1, K2, K3, K4⟩ | fail)
                  (first
                    | (go_at_call 61; (with_reducible refine (HGN.out _).mono ?_); rintro e w7 ⟨rfl, hb7⟩; have HB7 : Hid (Below w0.heap.size w0 w7) := (Below.refl _ _).drew.trans hb7; have K0 := (HB7.out.cell (p := ⟨w.heap.size + 1, 0, none⟩) (lt_of_cell y0)).trans y0; have K1 := (HB7.out.cell (p := ⟨w.heap.size + 1, 0 + 1, none⟩) (lt_of_cell y1)).trans y1; have K2 := (HB7.out.cell (p := ⟨w.heap.size + 1 + 1, 0, none⟩) (lt_of_cell z0)).trans z0; have K3 := (HB7.out.cell (p := ⟨b', off' + k * 2, none⟩) (lt_of_cell d0)).trans d0; have K4 := (HB7.out.cell (p := ⟨b', off' + k * 2 + 1, none⟩) (lt_of_cell d1)).trans d1; clear hb7)
                    | fail)
                all_goals
                  go_wp2_with fail
                  go_ret
                  exact ⟨by rw [HTF.out]; rfl, HB0.out.trans (HB7.out.mono HB0.out.size)⟩
              · have HTF : Hid (th = false) := by
                  show _ = _
                  rw [HE.out]; exact decide_eq_false (fun e => hsn (by rw [← HSN.out, e]))
                have hsb : (sn == non) = false := by simpa using hsn
                clear hsn
                have hw0 := HW0'.out
                have hw1 := HW1'.out
                go_region_held3 (fun w' => w'.cell? ⟨w.heap.size + 1, 0, none⟩ = some (.int .i64 lf) ∧ w'.cell? ⟨w.heap.size + 1, 0 + 1, none⟩ = some (.slice (some ⟨b', off', none⟩) R.length cr) ∧ w'.cell? ⟨w.heap.size + 1 + 1, 0, none⟩ = some (.int .i64 ((k : Int) + 1)) ∧ w'.cell? ⟨b', off' + k * 2, none⟩ = some (.bool false) ∧ w'.cell? ⟨b', off' + k * 2 + 1, none⟩ = some (.int .i64 sn)) (first | go_keep | exact ⟨K0, K1, K2, K3, K4⟩ | fail)
                  (first
                    | (go_at_call 61; (with_reducible refine (HGN.out _).mono ?_); rintro e w7 ⟨rfl, hb7⟩; have HB7 : Hid (Below w0.heap.size w0 w7) := (Below.refl _ _).drew.trans hb7; have K0 := (HB7.out.cell (p := ⟨w.heap.size + 1, 0, none⟩) (lt_of_cell y0)).trans y0; have K1 := (HB7.out.cell (p := ⟨w.heap.size + 1, 0 + 1, none⟩) (lt_of_cell y1)).trans y1; have K2 := (HB7.out.cell (p := ⟨w.heap.size + 1 + 1, 0, none⟩) (lt_of_cell z0)).trans z0; have K3 := (HB7.out.cell (p := ⟨b', off' + k * 2, none⟩) (lt_of_cell d0)).trans d0; have K4 := (HB7.out.cell (p := ⟨b', off' + k * 2 + 1, none⟩) (lt_of_cell d1)).trans d1; clear hb7)
                    | fail)
                all_goals
                  go_wp2_with fail
                  go_ret
                  exact ⟨by rw [HTF.out]; rfl, HB0.out.trans (HB7.out.mono HB0.out.size)⟩
        · have h4' : R.length < k := by omega
          obtain rfl : th = false := HNO.out (.inr (.inr (.inr (by omega))))
          clear h1 h3
          go_wp2_with fail
          go_ret
          exact ⟨rfl, HB0.out⟩
    · have h2' : al.length ≤ j := by omega
      obtain rfl : th = false := HNO.out (.inr (.inl (by omega)))
      clear h1
      go_wp2_with fail
      go_ret
      exact ⟨rfl, HB0.out⟩
end At
end Go.Proofs.YtfocooehnmpndaaGreat
