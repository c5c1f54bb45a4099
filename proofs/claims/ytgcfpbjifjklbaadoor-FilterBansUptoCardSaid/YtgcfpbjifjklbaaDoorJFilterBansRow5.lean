/- slices.Compact at bans (AttrCompact turned), in a row of the call's own. filter.Levels' list in plain Lean: sorted and compacted it is the list of bans. Aligned words, in plain Lean: the distance by a table, and by all ways; the operations. parlref4.LevelFault. Which nonterminals derive others: two ways to reckon it, in plain Lean. Plain: what a census asks: which lengths lists of symbols can have; why counting ends. Plain: the edges of a census, the passes of its tables; why counting ends. Plain: all trees of a symbol with a length, in order; how many, and which has a number. Plain: which tree has a number: first the rule, then the lengths. A table of numbers in memory, that is being filled. Tables in memory whose rows were appended; the contracts of census.table. The contract of tree.At. Trees with one subtree put in another's place: the words. Smaller trees, in plain Lean: two ways to list them, and that they agree. The contract of parts. A list of trees that is being made, beside memory that is only read. -/
import Derived.Test.YtgcfpbjifjklbaaDoorJFilterBansRow4
import Derived.Lib.SlicesCompact
import Derived.BigQuiet
import Derived.Deep.LoopGhost
import Derived.WalkKit
import Derived.Test.YtgcfpbjifjklbaaDoorJFilterBansRow2
import Derived.Test.YtgcfpbjifjklbaaDoorJFilterBansRow1
import Derived.Deep.OwnRows
import Derived.Deep.DeepCutAuto
import Derived.Test.YtgcfpbjifjklbaaDoorJFilterBansRow3
import Derived.StillTailTactics
namespace Go.Proofs.YtgcfpbjifjklbaaDoor
open Go.RowKit
namespace Fb
open Go.Lib (compactUpTo keeps CompInv)
def CpI (w : World) (g cap n : Nat) (dk : Array Ban) (wr : World) : Prop :=
  ∃ cr, wr.heap[g]? = some (.cells cr 42 (0, 0)) ∧ cr.size = cap * 3 ∧ n ≤ cap ∧ (∀ j, j < n → cr[j * 3]? = some (.int .i64 dk[j]!.rule) ∧ cr[j * 3 + 1]? = some (.int .i64 dk[j]!.pos) ∧ cr[j * 3 + 2]? = some (.int .i64 dk[j]!.kid)) ∧ w.grownBy wr (some g)
theorem CpI.drewN {w wr : World} {g cap n : Nat} {dk : Array Ban} (h : CpI w g cap n dk wr) (q : Nat) : CpI w g cap n dk (wr.drewN q) := by
  obtain ⟨cr, h1, h2, h3, h4, h5⟩ := h
  exact ⟨cr, h1, h2, h3, h4, ⟨h5.os, h5.tape, h5.output, h5.size, h5.block⟩⟩
theorem CpI.cells {w wr : World} {g cap n : Nat} {dk : Array Ban} (h : CpI w g cap n dk wr) {j : Nat} (hj : j < n) :
    wr.cell? ⟨g, j * 3, none⟩ = some (.int .i64 dk[j]!.rule) ∧ wr.cell? ⟨g, j * 3 + 1, none⟩ = some (.int .i64 dk[j]!.pos) ∧ wr.cell? ⟨g, j * 3 + 2, none⟩ = some (.int .i64 dk[j]!.kid) ∧ wr.frozen? ⟨g, j * 3, none⟩ = false ∧ wr.frozen? ⟨g, j * 3 + 1, none⟩ = false ∧ wr.frozen? ⟨g, j * 3 + 2, none⟩ = false := by
  obtain ⟨cr, h1, h2, h3, h4, h5⟩ := h
  obtain ⟨e1, e2, e3⟩ := h4 j hj
  refine ⟨by simp [World.cell?, h1, e1], by simp [World.cell?, h1, e2], by simp [World.cell?, h1, e3], by simp [World.frozen?, h1], by simp [World.frozen?, h1], by simp [World.frozen?, h1]⟩
theorem CpI.set {w wr : World} {g cap n : Nat} {dk : Array Ban} (h : CpI w g cap n dk wr) {k : Nat} (hk : k < n) (hn : dk.size = n) (x : Ban) :
    CpI w g cap n (dk.setIfInBounds k x) (((wr.setCell ⟨g, k * 3, none⟩ (.int .i64 x.rule)).setCell ⟨g, k * 3 + 1, none⟩ (.int .i64 x.pos)).setCell ⟨g, k * 3 + 2, none⟩ (.int .i64 x.kid)) := by
  obtain ⟨cr, h1, h2, h3, h4, h5⟩ := h
  refine ⟨((cr.setIfInBounds (k * 3) (.int .i64 x.rule)).setIfInBounds (k * 3 + 1) (.int .i64 x.pos)).setIfInBounds (k * 3 + 2) (.int .i64 x.kid), by simp [World.setCell, Array.getElem?_modify, h1], by simpa using h2, h3, fun j hj => ?_, ?_⟩
  · obtain ⟨e1, e2, e3⟩ := h4 j hj
    simp only [Array.getElem?_setIfInBounds, Array.size_setIfInBounds]
    by_cases e : k = j
    · subst e
      rw [Go.Sort.getElem!_set_same dk k x (by omega)]
      rw [if_neg (by omega), if_neg (by omega), if_pos rfl, if_pos (by omega), if_neg (by omega), if_pos rfl, if_pos (by omega), if_pos rfl, if_pos (by omega)]
      exact ⟨rfl, rfl, rfl⟩
    · rw [Go.Sort.getElem!_set_other dk k j x (by omega)]
      rw [if_neg (by omega), if_neg (by omega), if_neg (by omega), if_neg (by omega), if_neg (by omega), if_neg (by omega), if_neg (by omega), if_neg (by omega), if_neg (by omega)]
      exact ⟨e1, e2, e3⟩
  · exact grown_trans (grown_trans (grown_trans h5 (grown_cell _ _ _)) (grown_cell _ _ _)) (grown_cell _ _ _)
theorem zeros_len (m : Nat) : (Builtin.zeroCells #[Value.int .i64 0, .int .i64 0, .int .i64 0] m).toList.length = m * 3 := by simp [Builtin.zeroCells]
theorem zeros_size (m : Nat) : (Builtin.zeroCells #[Value.int .i64 0, .int .i64 0, .int .i64 0] m).size = m * 3 := by simp [Builtin.zeroCells]
theorem zeros_ones (m : Nat) : ∀ v ∈ (Builtin.zeroCells #[Value.int .i64 0, .int .i64 0, .int .i64 0] m).toList, v.oneCell' = true := by
  intro v hv
  simp [Builtin.zeroCells] at hv
  obtain ⟨i, _, rfl⟩ := hv
  rcases (show i % 3 = 0 ∨ i % 3 = 1 ∨ i % 3 = 2 by omega) with e | e | e <;> rw [e] <;> rfl
theorem clear_bans {w wr : World} {g cap n : Nat} {dk : Array Ban} (h : CpI w g cap n dk wr) {k : Nat} (hk : k < n) :
    ∃ w2, (∀ ty c, (Builtin.clear_ #[25] ty #[.slice (some ⟨g, k * 3, none⟩) (n - k) c]).run Tryd.prog wr = .ok (.tuple #[]) w2) ∧ CpI w g cap k dk w2 := by
  obtain ⟨cr, h1, h2, h3, h4, h5⟩ := h
  have hst := run_storeCells_at (P := Tryd.prog) g (k * 3) 42 (Builtin.zeroCells #[Value.int .i64 0, .int .i64 0, .int .i64 0] (n - k)).toList 0 cr wr h1 (by rw [zeros_len, h2]; omega) (zeros_ones _)
  refine ⟨wr.setRow g (cr.toList.take (k * 3 + 0) ++ (Builtin.zeroCells #[Value.int .i64 0, .int .i64 0, .int .i64 0] (n - k)).toList ++ cr.toList.drop (k * 3 + 0 + (Builtin.zeroCells #[Value.int .i64 0, .int .i64 0, .int .i64 0] (n - k)).toList.length)).toArray, fun ty c => ?_, ?_⟩
  · obtain ⟨m, hm⟩ : ∃ m, n - k = m + 1 := ⟨n - k - 1, by omega⟩
    rw [hm] at hst ⊢
    simp [Builtin.clear_, run_underlying Tryd.underlying25, Tryd.zeroValue42, Value.cells, hst]
  · refine ⟨_, setRow_heap _ _ _ _ _ _ h1, by simp [zeros_size, h2]; omega, by omega, fun j hj => ?_, grown_trans h5 (grown_setRow _ _ _)⟩
    obtain ⟨e1, e2, e3⟩ := h4 j (by omega)
    simp only [List.getElem?_toArray, List.append_assoc]
    rw [List.getElem?_append_left (by simp [h2]; omega), List.getElem?_append_left (by simp [h2]; omega), List.getElem?_append_left (by simp [h2]; omega), List.getElem?_take_of_lt (by omega), List.getElem?_take_of_lt (by omega), List.getElem?_take_of_lt (by omega), Array.getElem?_toList, Array.getElem?_toList, Array.getElem?_toList]
    exact ⟨e1, e2, e3⟩
theorem CpI.row {w wr : World} {g cap n B : Nat} {dk : Array Ban} (h : CpI w g cap n dk wr) (hB : B ≤ g) (hc : cap ≤ maxLen) (l : List Ban) (hl : l.length = n) (he : ∀ j, j < n → l[j]? = some dk[j]!) :
    wr.ownsRow B 42 3 (.slice (some ⟨g, 0, none⟩) n cap) n (banC l) := by
  obtain ⟨cr, h1, h2, h3, h4, h5⟩ := h
  refine ⟨by rw [banC_len, hl], .inr ⟨g, cap, cr, rfl, hB, h1, h3, hc, h2, ?_⟩⟩
  apply List.ext_getElem?
  intro t
  by_cases ht : t < n * 3
  · rw [List.getElem?_take_of_lt ht, Array.getElem?_toList]
    have hk : t / 3 < l.length := by omega
    obtain ⟨c0, c1, c2⟩ := banC_at l (t / 3) hk
    obtain ⟨e0, e1, e2⟩ := h4 (t / 3) (by omega)
    have hx := he (t / 3) (by omega)
    rw [List.getElem?_eq_getElem hk] at hx
    have hx2 := Option.some.inj hx
    rcases (show t % 3 = 0 ∨ t % 3 = 1 ∨ t % 3 = 2 by omega) with e | e | e
    · rw [show t / 3 * 3 = t by omega] at c0 e0
      rw [c0, e0, hx2]
    · rw [show t / 3 * 3 + 1 = t by omega] at c1 e1
      rw [c1, e1, hx2]
    · rw [show t / 3 * 3 + 2 = t by omega] at c2 e2
      rw [c2, e2, hx2]
  · rw [List.getElem?_eq_none (by simp; omega), List.getElem?_eq_none (by rw [banC_len]; omega)]
theorem CpI.start {w : World} {g cap n B : Nat} {l : List Ban} (h : w.ownsRow B 42 3 (.slice (some ⟨g, 0, none⟩) n cap) n (banC l)) (hl : l.length = n) : CpI w g cap n l.toArray w := by
  rcases h.2 with ⟨hv, _⟩ | ⟨g', cap', cur, hv, hg, hh, hnc, hcm, hcs, htk⟩
  · simp at hv
  · obtain ⟨rfl, rfl⟩ : g = g' ∧ cap = cap' := by simpa using hv
    refine ⟨cur, hh, hcs, hnc, fun j hj => ?_, ⟨rfl, rfl, rfl, Nat.le_refl _, fun _ _ _ => rfl⟩⟩
    obtain ⟨c0, c1, c2⟩ := banC_at l j (by omega)
    have hx : l.toArray[j]! = l[j]'(by omega) := by rw [getElem!_pos _ _ (by simp; omega)]; simp
    rw [hx, ← c0, ← c1, ← c2, ← htk, List.getElem?_take_of_lt (by omega), List.getElem?_take_of_lt (by omega), List.getElem?_take_of_lt (by omega), Array.getElem?_toList, Array.getElem?_toList, Array.getElem?_toList]
    exact ⟨rfl, rfl, rfl⟩
def CompactPost (B : Nat) (l : List Ban) (u : Value) (w : World) (e : Ending) (w' : World) : Prop :=
  ∃ u', e = .returned u' ∧ w'.ownsRow B 42 3 u' (Lib.compact l).length (banC (Lib.compact l)) ∧ w.grownBy w' u.ownBlock
set_option maxHeartbeats 4000000 in
set_option maxRecDepth 100000 in
theorem compactBan (B : Nat) (l : List Ban) (u : Value) (w : World) (hown : w.ownsRow B 42 3 u l.length (banC l)) (hl : l.length ≤ 100000) :
    Calls Tryd.prog 22 #[u] w (CompactPost B l u w) := by
  have HALL : Hid (∀ wr, w.grownBy wr u.ownBlock → wr.ownsRow B 42 3 u l.length (banC l) → (∀ j, j < l.length → keeps l.toArray j = true) → CompactPost B l u w (.returned u) wr) := by
    intro wr h1 h2 h3
    have e := Lib.compact_all l h3
    exact ⟨u, rfl, by rw [e]; exact h2, h1⟩
  obtain ⟨a, cap, hu, hc1, hc2⟩ := own_len hown
  obtain ⟨n, HN⟩ := nameIt l.length
  by_cases h2 : l.length < 2
  · have hE := Lib.hid (HALL.out w ⟨rfl, rfl, rfl, Nat.le_refl _, fun _ _ _ => rfl⟩ hown (fun j hj => Lib.keeps_lt_one _ j (by omega)))
    unfold maxLen at hc2
    subst hu
    rw [HN.out] at h2 hc1 hl hE ⊢
    have h2' : (n : Int) < 2 := by omega
    clear hown
    go_enter Tryd.func22, Tryd.ntmps22
    go_wp2_with fail
    go_ret
    exact hE.out
  · have hown2 := hown
    rcases hown2.2 with ⟨hv, h0⟩ | ⟨g, cap', cur, hv, hg, hh, hnc, hcm, hcs, htk⟩
    · omega
    rw [hu] at hv
    obtain ⟨rfl, rfl⟩ : a = some ⟨g, 0, none⟩ ∧ cap = cap' := by simpa using hv
    have HST : Hid (CpI w g cap n l.toArray w) := by
      have h := hown
      rw [hu, HN.out] at h
      exact CpI.start h HN.out
    have HEND : Hid (∀ kk dk wr, CpI w g cap kk dk wr → CompInv l.toArray n kk dk → CompactPost B l u w (.returned (.slice (some ⟨g, 0, none⟩) kk cap)) wr) := by
      intro kk dk wr h1 h3
      have hlen : (Lib.compact l).length = kk := by unfold Lib.compact; rw [HN.out]; exact h3.len
      refine ⟨_, rfl, ?_, ?_⟩
      · rw [hlen]
        exact h1.row hg hcm _ hlen (fun j hj => by unfold Lib.compact; rw [HN.out]; exact h3.low j hj)
      · rw [hu]
        obtain ⟨_, _, _, _, _, h5⟩ := h1
        exact h5
    have HSAME : Hid (∀ wr, CpI w g cap n l.toArray wr → (∀ j, j < n → keeps l.toArray j = true) → CompactPost B l u w (.returned (.slice (some ⟨g, 0, none⟩) n cap)) wr) := by
      intro wr h1 h3
      have e : Lib.compact l = l := Lib.compact_all l (by rw [HN.out]; exact h3)
      refine ⟨_, rfl, ?_, ?_⟩
      · rw [e, HN.out]
        exact h1.row hg hcm _ HN.out (fun j hj => by rw [getElem!_pos _ _ (by simp [HN.out]; exact hj)]; simp)
      · rw [hu]
        obtain ⟨_, _, _, _, _, h5⟩ := h1
        exact h5
    have hdsz : Hid (l.toArray.size = n) := by show _ = _; simp [HN.out]
    subst hu
    rw [HN.out] at h2 hl hnc ⊢
    obtain ⟨d, HD⟩ := nameIt l.toArray
    rw [HD.out] at HST hdsz
    simp only [HD.out] at HEND HSAME
    obtain ⟨PST, HP⟩ := nameIt (CompactPost B l (.slice (some ⟨g, 0, none⟩) n cap) w)
    simp only [HN.out] at HEND HSAME
    have HEND2 : Hid (∀ kk dk wr, CpI w g cap kk dk wr → CompInv d n kk dk → PST (.returned (.slice (some ⟨g, 0, none⟩) kk cap)) wr) := by
      intro kk dk wr h1 h3; rw [← HP.out]; exact HEND.out kk dk wr h1 h3
    have HSAME2 : Hid (∀ wr, CpI w g cap n d wr → (∀ j, j < n → keeps d j = true) → PST (.returned (.slice (some ⟨g, 0, none⟩) n cap)) wr) := by
      intro wr h1 h3; rw [← HP.out]; exact HSAME.out wr h1 h3
    rw [HP.out]
    have h2' : ¬ (n : Int) < 2 := by omega
    unfold maxLen at hcm
    clear hown hown2 hc2 hc1 hh hcs htk hv HALL HEND HSAME
    have HK1 : Hid (∀ j, j < 1 → keeps d j = true) := Lib.keeps_lt_one d
    go_enter Tryd.func22, Tryd.ntmps22
    go_wp2_with fail
    go_loopg [3] n (fun gg v3 wr => ∃ k : Nat, 1 ≤ k ∧ k ≤ n ∧ n - k ≤ gg ∧ v3 = .int .i64 k ∧ Hid (CpI w g cap n d wr) ∧ Hid (∀ j, j < k → keeps d j = true))
    case atStart => exact ⟨1, by omega, by omega, by omega, rfl, HST, HK1⟩
    case round =>
      clear HST HK1
      obtain ⟨k, hk1, hk, hgk, rfl, HC, HA⟩ := hrel
      by_cases hlt : k < n
      · have hlt' : (k : Int) < (n : Int) := by omega
        have hk0 : (0 : Int) ≤ (k : Int) := by omega
        obtain ⟨c0, c1, c2, -, -, -⟩ := HC.out.cells hlt
        obtain ⟨d0, d1, d2, -, -, -⟩ := HC.out.cells (show k - 1 < n by omega)
        have HKP : Hid (d[k]! ≠ d[k - 1]! → keeps d k = true) := fun h => Lib.keeps_pos h
        have HKN : Hid (d[k]! = d[k - 1]! → keeps d k = false) := fun h => Lib.keeps_neg (by omega) h
        obtain ⟨x, HX⟩ := nameIt d[k]!
        obtain ⟨y, HY⟩ := nameIt d[k - 1]!
        rw [HX.out] at c0 c1 c2
        rw [HY.out] at d0 d1 d2
        rw [HX.out, HY.out] at HKP HKN
        obtain ⟨xa, xi, xk⟩ := x
        obtain ⟨ya, yi, yk⟩ := y
        simp only at c0 c1 c2 d0 d1 d2
        have hw1 : IntKind.i64.wrap ((k : Int) - 1) = (k : Int) - 1 := IntWalk.i64_in _ (by omega)
        have ht1 : ((k : Int) - 1).toNat = k - 1 := by omega
        have hp0 : (0 : Int) ≤ (k : Int) - 1 := by omega
        have hp1 : (k : Int) - 1 < (n : Int) := by omega
        have HNEXT : Hid (∀ q, (⟨xa, xi, xk⟩ : Ban) ≠ ⟨ya, yi, yk⟩ → CpI w g cap n d (wr.drewN q) ∧ ∀ j, j < k + 1 → keeps d j = true) := by
          intro q hne
          refine ⟨HC.out.drewN q, fun j hj => ?_⟩
          by_cases e : j = k
          · rw [e]; exact HKP.out hne
          · exact HA.out j (by omega)
        by_cases g1 : xa = ya
        · by_cases g2 : xi = yi
          · by_cases g3 : xk = yk
            · subst g1 g2 g3
              have HKF := Lib.hid (HKN.out rfl)
              clear HKP HKN HNEXT
              go_upto_region 6 with fail
              go_quiet (fail)
              have HS2 : Hid (∀ q, CpI w g cap n d (wr.drewN q)) := fun q => HC.out.drewN q
              have HCS : Hid (CompInv d (k + 1) k d) := CompInv.start HA.out HKF.out
              have hkn : k ≤ n := hk
              have hkc : k ≤ cap := by omega
              clear c0 c1 c2 d0 d1 d2 hw1 ht1 hp0 hp1
              go_wp2_with fail
              go_loopg [3, 5] n (fun gg v3 v5 wr => ∃ (kk k2 : Nat) (dk : Array Ban), v3 = .int .i64 kk ∧ v5 = .int .i64 k2 ∧ 1 ≤ k2 ∧ k + k2 ≤ n ∧ n - (k + k2) ≤ gg ∧ Hid (CpI w g cap n dk wr) ∧ Hid (CompInv d (k + k2) kk dk))
              case atStart => exact ⟨k, 1, d, rfl, rfl, by omega, by omega, by omega, HS2.out _, HCS⟩
              case round =>
                clear HS2 HCS HKF
                obtain ⟨kk, k2, dk, rfl, rfl, h21, h22, hg2, HD2, HI⟩ := hrel
                have hkk : kk < k + k2 := HI.out.lt
                have hdk : dk.size = n := by rw [HI.out.size]; exact hdsz.out
                by_cases hlt2 : k + k2 < n
                · have hlt2' : (k2 : Int) < ((n - k : Nat) : Int) := by omega
                  have hk20 : (0 : Int) ≤ (k2 : Int) := by omega
                  have hkk0 : (0 : Int) ≤ (kk : Int) := by omega
                  have hkk1 : (kk : Int) < (n : Int) := by omega
                  obtain ⟨c0, c1, c2, -, -, -⟩ := HD2.out.cells hlt2
                  obtain ⟨d0, d1, d2, -, -, -⟩ := HD2.out.cells (show k + k2 - 1 < n by omega)
                  obtain ⟨o0, o1, o2, f0, f1, f2⟩ := HD2.out.cells (show kk < n by omega)
                  rw [HI.out.high _ (by omega)] at c0 c1 c2
                  rw [HI.out.high _ (by omega)] at d0 d1 d2
                  have HKP : Hid (d[k + k2]! ≠ d[k + k2 - 1]! → keeps d (k + k2) = true) := fun h => Lib.keeps_pos h
                  have HKN : Hid (d[k + k2]! = d[k + k2 - 1]! → keeps d (k + k2) = false) := fun h => Lib.keeps_neg (by omega) h
                  have HSK : Hid (keeps d (k + k2) = false → CompInv d (k + (k2 + 1)) kk dk) := fun h => HI.out.skip h
                  have HKE : Hid (keeps d (k + k2) = true → CompInv d (k + (k2 + 1)) (kk + 1) (dk.setIfInBounds kk d[k + k2]!)) := fun h => HI.out.keep (by rw [hdsz.out]; exact hlt2) h
                  rw [show (k + k2) * 3 = k * 3 + k2 * 3 by omega] at c0 c1 c2
                  rw [show (k + k2 - 1) * 3 = k * 3 + (k2 - 1) * 3 by omega] at d0 d1 d2
                  obtain ⟨x, HX2⟩ := nameIt d[k + k2]!
                  obtain ⟨y, HY2⟩ := nameIt d[k + k2 - 1]!
                  obtain ⟨v0, HV0⟩ := nameIt dk[kk]!.rule
                  obtain ⟨v1, HV1⟩ := nameIt dk[kk]!.pos
                  obtain ⟨v2, HV2⟩ := nameIt dk[kk]!.kid
                  rw [HX2.out] at c0 c1 c2 HKE
                  rw [HY2.out] at d0 d1 d2
                  rw [HX2.out, HY2.out] at HKP HKN
                  rw [HV0.out] at o0
                  rw [HV1.out] at o1
                  rw [HV2.out] at o2
                  obtain ⟨xb, xj, xl⟩ := x
                  obtain ⟨yb, yj, yl⟩ := y
                  simp only at c0 c1 c2 d0 d1 d2
                  have hw1 : IntKind.i64.wrap ((k2 : Int) - 1) = (k2 : Int) - 1 := IntWalk.i64_in _ (by omega)
                  have ht1 : ((k2 : Int) - 1).toNat = k2 - 1 := by omega
                  have hp0 : (0 : Int) ≤ (k2 : Int) - 1 := by omega
                  have hp1 : (k2 : Int) - 1 < ((n - k : Nat) : Int) := by omega
                  have HDQ : Hid (∀ q, CpI w g cap n dk (wr.drewN q)) := fun q => HD2.out.drewN q
                  have HSET : Hid (∀ q, CpI w g cap n (dk.setIfInBounds kk ⟨xb, xj, xl⟩) ((((wr.drewN q).setCell ⟨g, kk * 3, none⟩ (.int .i64 xb)).setCell ⟨g, kk * 3 + 1, none⟩ (.int .i64 xj)).setCell ⟨g, kk * 3 + 2, none⟩ (.int .i64 xl))) := fun q => (HD2.out.drewN q).set (x := ⟨xb, xj, xl⟩) (by omega) hdk
                  by_cases e1 : xb = yb
                  · by_cases e2 : xj = yj
                    · by_cases e3 : xl = yl
                      · subst e1 e2 e3
                        have HE := Lib.hid (HSK.out (HKN.out rfl))
                        clear HKP HKN HSK HKE o0 o1 o2 f0 f1 f2 HSET
                        go_upto_region 11 with fail
                        go_quiet (fail)
                        go_wp2_with fail
                        go_roundg (n - (k + (k2 + 1)))
                        case measure => omega
                        case rel => exact ⟨kk, k2 + 1, dk, rfl, by go_num, by omega, by omega, by omega, HDQ.out _, HE⟩
                      · have e3' : (xl == yl) = false := by rw [beq_eq_false_iff_ne]; exact e3
                        have HE := Lib.hid (HKE.out (HKP.out (fun h => e3 (by injection h))))
                        subst e1 e2
                        clear e3 HKP HKN HSK HKE
                        go_upto_region 11 with fail
                        go_quiet (fail)
                        go_wp2_with fail
                        go_roundg (n - (k + (k2 + 1)))
                        case measure => omega
                        case rel => exact ⟨kk + 1, k2 + 1, _, by go_num, by go_num, by omega, by omega, by omega, HSET.out _, HE⟩
                    · have e2' : (xj == yj) = false := by rw [beq_eq_false_iff_ne]; exact e2
                      have HE := Lib.hid (HKE.out (HKP.out (fun h => e2 (by injection h))))
                      subst e1
                      clear e2 HKP HKN HSK HKE
                      go_upto_region 11 with fail
                      go_quiet (fail)
                      go_wp2_with fail
                      go_roundg (n - (k + (k2 + 1)))
                      case measure => omega
                      case rel => exact ⟨kk + 1, k2 + 1, _, by go_num, by go_num, by omega, by omega, by omega, HSET.out _, HE⟩
                  · have e1' : (xb == yb) = false := by rw [beq_eq_false_iff_ne]; exact e1
                    have HE := Lib.hid (HKE.out (HKP.out (fun h => e1 (by injection h))))
                    clear e1 HKP HKN HSK HKE
                    go_upto_region 11 with fail
                    go_quiet (fail)
                    go_wp2_with fail
                    go_roundg (n - (k + (k2 + 1)))
                    case measure => omega
                    case rel => exact ⟨kk + 1, k2 + 1, _, by go_num, by go_num, by omega, by omega, by omega, HSET.out _, HE⟩
                · have hend : k + k2 = n := by omega
                  have hlt2' : ¬ (k2 : Int) < ((n - k : Nat) : Int) := by omega
                  have hkk0 : (0 : Int) ≤ (kk : Int) := by omega
                  have hkk1 : (kk : Int) ≤ (n : Int) := by omega
                  have hkk2 : kk ≤ cap := by omega
                  have hkk3 : (kk : Int) ≤ (cap : Int) := by omega
                  obtain ⟨w2, hcl, hC2⟩ := clear_bans HD2.out (show kk < n by omega)
                  have hI := HI.out
                  rw [hend] at hI
                  have HE := Lib.hid (HEND2.out kk dk w2 hC2 hI)
                  clear hC2 hI
                  go_wp2_with fail
                  exact HE.out
            · have g3' : (xk == yk) = false := by rw [beq_eq_false_iff_ne]; exact g3
              have HE := Lib.hid (fun q => HNEXT.out q (fun h => g3 (by injection h)))
              subst g1 g2
              clear g3 HNEXT HKP HKN
              go_upto_region 6 with fail
              go_quiet (fail)
              go_wp2_with fail
              go_roundg (n - (k + 1))
              case measure => omega
              case rel => exact ⟨k + 1, by omega, by omega, by omega, by go_num, (HE.out _).1, (HE.out 0).2⟩
          · have g2' : (xi == yi) = false := by rw [beq_eq_false_iff_ne]; exact g2
            have HE := Lib.hid (fun q => HNEXT.out q (fun h => g2 (by injection h)))
            subst g1
            clear g2 HNEXT HKP HKN
            go_upto_region 6 with fail
            go_quiet (fail)
            go_wp2_with fail
            go_roundg (n - (k + 1))
            case measure => omega
            case rel => exact ⟨k + 1, by omega, by omega, by omega, by go_num, (HE.out _).1, (HE.out 0).2⟩
        · have g1' : (xa == ya) = false := by rw [beq_eq_false_iff_ne]; exact g1
          have HE := Lib.hid (fun q => HNEXT.out q (fun h => g1 (by injection h)))
          clear g1 HNEXT HKP HKN
          go_upto_region 6 with fail
          go_quiet (fail)
          go_wp2_with fail
          go_roundg (n - (k + 1))
          case measure => omega
          case rel => exact ⟨k + 1, by omega, by omega, by omega, by go_num, (HE.out _).1, (HE.out 0).2⟩
      · have hkn : k = n := by omega
        subst hkn
        have hE := Lib.hid (HSAME2.out wr HC.out HA.out)
        have hlt' : ¬ (k : Int) < (k : Int) := by omega
        go_wp2_with fail
        exact hE.out
end Fb
end Go.Proofs.YtgcfpbjifjklbaaDoor
namespace Go.Proofs.YtgcfpbjifjklbaaDoor
open Go.RowKit
open Go.Lib (compactUpTo keeps)
namespace Fb
section Asc
variable {α : Type} [Inhabited α] [DecidableEq α] {lt : α → α → Bool}
theorem compact_asc (htot : ∀ x y, lt x y = false → lt y x = false → x = y) {l : List α} (hs : l.Pairwise fun x y => lt y x = false) :
    ∀ m, m ≤ l.length → ((compactUpTo l.toArray m).Pairwise fun x y => lt x y = true) ∧ (∀ x, x ∈ compactUpTo l.toArray m ↔ x ∈ l.take m)
  | 0, _ => ⟨by simp [compactUpTo], fun x => by simp [compactUpTo]⟩
  | m + 1, hm => by
    have tot : ∀ {x y : α}, lt y x = false → y ≠ x → lt x y = true := by
      intro x y h1 h2
      cases h : lt x y with
      | true => rfl
      | false => exact absurd (htot y x h1 h) h2
    obtain ⟨h1, h2⟩ := compact_asc htot hs m (by omega)
    have hlt : m < l.length := by omega
    have hd : l.toArray[m]! = l[m] := by rw [getElem!_pos _ _ (by simpa using hlt)]; simp
    rw [Lib.compactUpTo_succ, List.take_succ_eq_append_getElem hlt, hd]
    have hle : ∀ z ∈ l.take m, lt l[m] z = false := by
      intro z hz
      obtain ⟨j, hj, rfl⟩ := List.getElem_of_mem hz
      rw [List.length_take] at hj
      rw [List.getElem_take]
      exact List.pairwise_iff_getElem.1 hs j m (by omega) hlt (by omega)
    cases hk : keeps l.toArray m with
    | true =>
      rw [if_pos rfl]
      have hnew : ∀ z ∈ l.take m, lt z l[m] = true := by
        intro z hz
        refine tot (hle z hz) (fun e => ?_)
        unfold keeps at hk
        simp only [decide_eq_true_eq] at hk
        rcases hk with rfl | hk
        · simp at hz
        · have hm1 : m ≠ 0 := by rintro rfl; simp at hz
          have hlt2 : m - 1 < l.length := by omega
          have hd2 : l.toArray[m - 1]! = l[m - 1] := by rw [getElem!_pos _ _ (by simpa using hlt2)]; simp
          rw [hd, hd2] at hk
          obtain ⟨j, hj, rfl⟩ := List.getElem_of_mem hz
          rw [List.length_take] at hj
          rw [List.getElem_take] at e
          have h3 : lt l[m - 1] l[m] = true := tot (List.pairwise_iff_getElem.1 hs (m - 1) m hlt2 hlt (by omega)) hk
          by_cases ej : j = m - 1
          · subst ej; exact hk e
          · have h4 := List.pairwise_iff_getElem.1 hs j (m - 1) (by omega) hlt2 (by omega)
            rw [← e] at h4
            rw [h4] at h3
            cases h3
      refine ⟨?_, fun x => by rw [List.mem_append, List.mem_append, h2]⟩
      rw [List.pairwise_append]
      refine ⟨h1, List.pairwise_singleton _ _, fun a ha b hb => ?_⟩
      rw [List.mem_singleton] at hb
      rw [hb]
      exact hnew a ((h2 a).1 ha)
    | false =>
      rw [if_neg (by simp), List.append_nil]
      refine ⟨h1, fun x => ?_⟩
      rw [h2, List.mem_append]
      refine ⟨.inl, fun h => ?_⟩
      rcases h with h | h
      · exact h
      · rw [List.mem_singleton] at h
        unfold keeps at hk
        simp only [decide_eq_false_iff_not, not_or, Classical.not_not] at hk
        have hlt2 : m - 1 < l.length := by omega
        have hd2 : l.toArray[m - 1]! = l[m - 1] := by rw [getElem!_pos _ _ (by simpa using hlt2)]; simp
        rw [hd, hd2] at hk
        rw [h, hk.2]
        have hm1 := hk.1
        exact List.mem_take_iff_getElem.2 ⟨m - 1, by omega, rfl⟩
omit [Inhabited α] [DecidableEq α] in
theorem asc_same (hirr : ∀ x, lt x x = false) (htr : ∀ x y z, lt x y = true → lt y z = true → lt x z = true) : ∀ {a b : List α}, (a.Pairwise fun x y => lt x y = true) → (b.Pairwise fun x y => lt x y = true) → (∀ x, x ∈ a ↔ x ∈ b) → a = b
  | [], [], _, _, _ => rfl
  | [], y :: b, _, _, h => by have := (h y).2 (by simp); simp at this
  | x :: a, [], _, _, h => by have := (h x).1 (by simp); simp at this
  | x :: a, y :: b, ha, hb, h => by
    obtain ⟨ha1, ha2⟩ := List.pairwise_cons.1 ha
    obtain ⟨hb1, hb2⟩ := List.pairwise_cons.1 hb
    have e : x = y := by
      rcases List.mem_cons.1 ((h x).1 (by simp)) with e | e
      · exact e
      · rcases List.mem_cons.1 ((h y).2 (by simp)) with e2 | e2
        · exact e2.symm
        · have h3 := htr _ _ _ (hb1 x e) (ha1 y e2)
          rw [hirr] at h3; cases h3
    subst e
    rw [asc_same hirr htr ha2 hb2 fun z => ?_]
    constructor
    · intro hz
      rcases List.mem_cons.1 ((h z).1 (List.mem_cons_of_mem _ hz)) with e | e
      · have h3 := ha1 z hz; rw [e, hirr] at h3; cases h3
      · exact e
    · intro hz
      rcases List.mem_cons.1 ((h z).2 (List.mem_cons_of_mem _ hz)) with e | e
      · have h3 := hb1 z hz; rw [e, hirr] at h3; cases h3
      · exact e
end Asc
theorem banned_true {g : Gram} {l : List Level} {r p k : Nat} (h : banned g l r p k = true) : r < g.rules.length ∧ k < g.rules.length ∧ p < lenR g r ∧ (p = 0 ∨ p + 1 = lenR g r) := by
  unfold banned at h
  rcases Nat.lt_or_ge r g.rules.length with hr | hr
  · rcases Nat.lt_or_ge k g.rules.length with hk | hk
    · rw [List.getElem?_eq_getElem hr, List.getElem?_eq_getElem hk] at h
      simp only at h
      rw [lenR_at hr]
      rcases Nat.lt_or_ge p (g.rules[r]).right.length with hp | hp
      · rw [List.getElem?_eq_getElem hp] at h
        simp only [Bool.and_eq_true, Bool.or_eq_true, decide_eq_true_eq] at h
        exact ⟨hr, hk, hp, by omega⟩
      · rw [List.getElem?_eq_none hp] at h; simp at h
    · rw [List.getElem?_eq_getElem hr, List.getElem?_eq_none hk] at h; simp at h
  · rw [List.getElem?_eq_none hr] at h; simp at h
theorem mem_bans {g : Gram} {l : List Level} {b : Ban} : b ∈ bansOf g l ↔ ∃ r p k : Nat, b = ⟨r, p, k⟩ ∧ banned g l r p k = true := by
  unfold bansOf allB rows row
  simp only [List.mem_flatMap, List.mem_range, List.mem_filterMap, Option.ite_none_right_eq_some, Option.some.injEq]
  constructor
  · rintro ⟨r, _, p, _, k, _, h, rfl⟩
    exact ⟨r, p, k, rfl, h⟩
  · rintro ⟨r, p, k, rfl, h⟩
    obtain ⟨h1, h2, h3, _⟩ := banned_true h
    exact ⟨r, h1, p, h3, k, h2, h, rfl⟩
theorem bans_asc (g : Gram) (l : List Level) : (bansOf g l).Pairwise fun x y => ltOf cmpBan x y = true := by
  unfold bansOf allB
  rw [List.pairwise_flatMap]
  refine ⟨fun r _ => ?_, List.pairwise_lt_range.imp ?_⟩
  · unfold rows
    rw [List.pairwise_flatMap]
    refine ⟨fun p _ => ?_, List.pairwise_lt_range.imp ?_⟩
    · unfold row
      rw [List.pairwise_filterMap]
      refine List.pairwise_lt_range.imp ?_
      intro a b hab x hx y hy
      simp only [Option.ite_none_right_eq_some, Option.some.injEq] at hx hy
      obtain ⟨_, rfl⟩ := hx
      obtain ⟨_, rfl⟩ := hy
      rw [cmpBan_lt]; simp; omega
    · intro a b hab x hx y hy
      unfold row at hx hy
      simp only [List.mem_filterMap, Option.ite_none_right_eq_some, Option.some.injEq] at hx hy
      obtain ⟨_, _, _, rfl⟩ := hx
      obtain ⟨_, _, _, rfl⟩ := hy
      rw [cmpBan_lt]; simp; omega
  · intro a b hab x hx y hy
    unfold rows row at hx hy
    simp only [List.mem_flatMap, List.mem_filterMap, Option.ite_none_right_eq_some, Option.some.injEq] at hx hy
    obtain ⟨_, _, _, _, _, rfl⟩ := hx
    obtain ⟨_, _, _, _, _, rfl⟩ := hy
    rw [cmpBan_lt]; simp; omega
def atT (rn t : Nat) : Nat := if t = 0 then 0 else rn - 1
def pick2 (g : Gram) (l : List Level) (r k n : Nat) : List Ban := (List.range n).filterMap fun t => if banned g l r (atT (lenR g r) t) k then some ⟨(r : Int), ((atT (lenR g r) t : Nat) : Int), (k : Int)⟩ else none
def pickK (g : Gram) (l : List Level) (r n : Nat) : List Ban := (List.range n).flatMap fun k => pick2 g l r k 2
def pickR (g : Gram) (l : List Level) (n : Nat) : List Ban := (List.range n).flatMap fun r => pickK g l r g.rules.length
def pickL (g : Gram) (l : List Level) : List Ban := pickR g l g.rules.length
theorem pick2_succ (g : Gram) (l : List Level) (r k n : Nat) : pick2 g l r k (n + 1) = pick2 g l r k n ++ (if banned g l r (atT (lenR g r) n) k then [⟨(r : Int), ((atT (lenR g r) n : Nat) : Int), (k : Int)⟩] else []) := by
  unfold pick2
  rw [List.range_succ, List.filterMap_append]
  congr 1
  by_cases h : banned g l r (atT (lenR g r) n) k <;> simp [h]
theorem pickK_succ (g : Gram) (l : List Level) (r n : Nat) : pickK g l r (n + 1) = pickK g l r n ++ pick2 g l r n 2 := by
  unfold pickK
  rw [List.range_succ, List.flatMap_append]
  simp
theorem pickR_succ (g : Gram) (l : List Level) (n : Nat) : pickR g l (n + 1) = pickR g l n ++ pickK g l n g.rules.length := by
  unfold pickR
  rw [List.range_succ, List.flatMap_append]
  simp
theorem pick2_le (g : Gram) (l : List Level) (r k n : Nat) : (pick2 g l r k n).length ≤ n := by
  unfold pick2
  exact Nat.le_trans (List.length_filterMap_le _ _) (by simp)
theorem pickK_le (g : Gram) (l : List Level) (r : Nat) : ∀ n, (pickK g l r n).length ≤ n * 2
  | 0 => by simp [pickK]
  | n + 1 => by
    rw [pickK_succ, List.length_append]
    have := pickK_le g l r n
    have := pick2_le g l r n 2
    omega
theorem pickR_le {g : Gram} (hK : g.rules.length ≤ 32) (l : List Level) : ∀ n, (pickR g l n).length ≤ n * 64
  | 0 => by simp [pickR]
  | n + 1 => by
    rw [pickR_succ, List.length_append]
    have := pickR_le hK l n
    have := pickK_le g l n g.rules.length
    omega
theorem pick2_none {g : Gram} {l : List Level} {r k : Nat} (h : ∀ p, banned g l r p k = false) (n : Nat) : pick2 g l r k n = [] := by
  unfold pick2
  rw [List.filterMap_eq_nil_iff]
  intro t _
  rw [h]; rfl
theorem banned_skip {g : Gram} {l : List Level} {r k : Nat} (h : lvOf l r < 0 ∨ lvOf l k < 0 ∨ lenR g r = 0) (p : Nat) : banned g l r p k = false := by
  cases hb : banned g l r p k with
  | false => rfl
  | true =>
    obtain ⟨hr, hk, hp, _⟩ := banned_true hb
    rw [lenR_at hr] at hp h
    rw [banned_at hr hk hp] at hb
    unfold skipB at hb
    simp only [Bool.and_eq_true, Bool.not_eq_true', Bool.or_eq_false_iff, decide_eq_false_iff_not] at hb
    omega
theorem mem_pick {g : Gram} {l : List Level} {b : Ban} : b ∈ pickL g l ↔ ∃ r p k : Nat, b = ⟨r, p, k⟩ ∧ banned g l r p k = true := by
  unfold pickL pickR pickK pick2
  simp only [List.mem_flatMap, List.mem_range, List.mem_filterMap, Option.ite_none_right_eq_some, Option.some.injEq]
  constructor
  · rintro ⟨r, _, k, _, t, _, h, rfl⟩
    exact ⟨r, _, k, rfl, h⟩
  · rintro ⟨r, p, k, rfl, h⟩
    obtain ⟨h1, h2, h3, h4⟩ := banned_true h
    rcases h4 with h4 | h4
    · refine ⟨r, h1, k, h2, 0, by omega, ?_, ?_⟩
      · rw [show atT (lenR g r) 0 = p from by unfold atT; simp [h4]]; exact h
      · rw [show atT (lenR g r) 0 = p from by unfold atT; simp [h4]]
    · refine ⟨r, h1, k, h2, 1, by omega, ?_, ?_⟩
      · rw [show atT (lenR g r) 1 = p from by unfold atT; simp; omega]; exact h
      · rw [show atT (lenR g r) 1 = p from by unfold atT; simp; omega]
theorem sortB_mem (l : List Ban) (x : Ban) : x ∈ sortB l ↔ x ∈ l := by unfold sortB; exact List.mem_mergeSort
theorem sortB_sorted (l : List Ban) : (sortB l).Pairwise fun x y => ltOf cmpBan y x = false := by
  have h := List.pairwise_mergeSort (le := fun x y => !(ltOf cmpBan) y x) (fun a b c h1 h2 => by
    simp only [Bool.not_eq_true'] at *
    exact swoBan.ntrans _ _ _ h2 h1) (fun a b => by
    cases h : ltOf cmpBan b a with
    | false => simp
    | true =>
      cases h2 : ltOf cmpBan a b with
      | false => simp
      | true => exact absurd (swoBan.trans _ _ _ h h2) (by rw [swoBan.irrefl]; simp)) l
  unfold sortB
  refine h.imp ?_
  intro a b hab
  simpa using hab
theorem bans_same (g : Gram) (l : List Level) : Lib.compact (sortB (pickL g l)) = bansOf g l := by
  obtain ⟨h3, h4⟩ := compact_asc (lt := ltOf cmpBan) totBan (sortB_sorted (pickL g l)) _ (Nat.le_refl _)
  refine asc_same swoBan.irrefl swoBan.trans h3 (bans_asc g l) fun b => ?_
  show b ∈ compactUpTo (sortB (pickL g l)).toArray (sortB (pickL g l)).length ↔ _
  rw [h4, List.take_length, sortB_mem, mem_pick, mem_bans]
end Fb
end Go.Proofs.YtgcfpbjifjklbaaDoor
namespace Go.Proofs.YtgcfpbjifjklbaaDoor
namespace Al
def al (c0 c1 c2 : Int) : List Int → List Int → Int
  | [], v => (v.length : Int) * c0
  | _ :: w, [] => ((w.length : Int) + 1) * c1
  | x :: w, y :: v => if x = y then al c0 c1 c2 w v else min (min (al c0 c1 c2 w v + c2) (al c0 c1 c2 w (y :: v) + c1)) (al c0 c1 c2 (x :: w) v + c0)
termination_by w v => w.length + v.length
section
variable {c0 c1 c2 : Int}
end
structure Op where
  kind : Int
  at' : Int
  term : Int
  deriving DecidableEq
def ops (c0 c1 c2 : Int) : Nat → List Int → List Int → List Op
  | _, [], [] => []
  | i, x :: w, [] => ⟨2, i, x⟩ :: ops c0 c1 c2 (i + 1) w []
  | i, [], y :: v => ⟨1, i, y⟩ :: ops c0 c1 c2 i [] v
  | i, x :: w, y :: v => if x = y then ⟨0, i, x⟩ :: ops c0 c1 c2 (i + 1) w v
    else if al c0 c1 c2 w v + c2 = al c0 c1 c2 (x :: w) (y :: v) then ⟨3, i, y⟩ :: ops c0 c1 c2 (i + 1) w v
    else if al c0 c1 c2 w (y :: v) + c1 = al c0 c1 c2 (x :: w) (y :: v) then ⟨2, i, x⟩ :: ops c0 c1 c2 (i + 1) w (y :: v)
    else ⟨1, i, y⟩ :: ops c0 c1 c2 i (x :: w) v
termination_by _ w v => w.length + v.length
def run : List Int → Nat → List Op → Option (List Int)
  | rest, _, [] => if rest = [] then some [] else none
  | rest, i, o :: l => if o.at' ≠ i ∨ o.kind < 0 ∨ 3 < o.kind ∨ (o.kind ≠ 1 ∧ rest = []) then none
    else if o.kind = 1 then (run rest i l).map fun t => o.term :: t
    else match rest with
      | [] => none
      | x :: r => (run r (i + 1) l).map fun t => (if o.kind = 0 then [x] else if o.kind = 3 then [o.term] else []) ++ t
theorem nodup_le {α : Type} [BEq α] [LawfulBEq α] : ∀ (l m : List α), l.Nodup → (∀ x ∈ l, x ∈ m) → l.length ≤ m.length
  | [], m, _, _ => by simp
  | a :: l, m, hn, hs => by
    have ha := hs a List.mem_cons_self
    rw [List.nodup_cons] at hn
    have := nodup_le l (m.erase a) hn.2 fun x hx => by
      have hne : x ≠ a := fun e => hn.1 (e ▸ hx)
      exact (List.mem_erase_of_ne hne).2 (hs x (List.mem_cons_of_mem _ hx))
    rw [List.length_erase_of_mem ha] at this
    have : 0 < m.length := List.length_pos_of_mem ha
    simp; omega
end Al
end Go.Proofs.YtgcfpbjifjklbaaDoor
namespace Go.Proofs.YtgcfpbjifjklbaaDoor
open Go.RowKit
namespace Fb
def lvC (K : Nat) (s rs : List Int) (l : List Level) : Int := if lvRules K s rs ≠ 0 then lvRules K s rs else lvL K (s ++ rs) l
theorem lvC_nil {K : Nat} {s : List Int} {l : List Level} : lvC K s [] l = lvL K s l := by simp [lvC, lvRules]
theorem lvC_cons {K : Nat} {s rs : List Int} {r : Int} {l : List Level} : lvC K s (r :: rs) l = if r < 0 ∨ (K : Int) ≤ r then 1 else if r ∈ s then 6 else lvC K (s ++ [r]) rs l := by
  unfold lvC
  rw [lvRules]
  by_cases h1 : r < 0 ∨ (K : Int) ≤ r
  · simp [h1]
  · rw [if_neg h1, if_neg h1]
    by_cases h2 : r ∈ s
    · simp [h2]
    · rw [if_neg h2, if_neg h2, List.append_assoc]
      rfl
theorem lvL_cons {K : Nat} {s : List Int} {x : Level} {l : List Level} : lvL K s (x :: l) = if x.assoc < 0 ∨ 2 < x.assoc then 1 else lvC K s x.rules l := by
  rw [lvL]
  rfl
def okSn (K : Nat) (s : List Int) : Prop := s.Nodup ∧ ∀ x ∈ s, 0 ≤ x ∧ x < (K : Int)
theorem okSn.le {K : Nat} {s : List Int} (h : okSn K s) : s.length ≤ K := by
  have := Al.nodup_le s ((List.range K).map fun (i : Nat) => (i : Int)) h.1 (fun x hx => by
    have := h.2 x hx
    rw [List.mem_map]
    exact ⟨x.toNat, by simp; omega, by omega⟩)
  simpa using this
theorem okSn.snoc {K : Nat} {s : List Int} (h : okSn K s) {r : Int} (h1 : ¬ (r < 0 ∨ (K : Int) ≤ r)) (h2 : r ∉ s) : okSn K (s ++ [r]) := by
  refine ⟨?_, ?_⟩
  · rw [List.nodup_append]
    refine ⟨h.1, by simp, ?_⟩
    intro a ha b hb
    simp at hb
    subst hb
    exact fun e => h2 (e ▸ ha)
  · intro x hx
    rcases List.mem_append.1 hx with hx | hx
    · exact h.2 x hx
    · simp at hx; subst hx; omega
structure LvI (w : World) (s : List Int) (v : Value) (wr : World) : Prop where
  own : wr.ownsRow w.heap.size 3 1 v s.length (ints s)
  bel : Below w.heap.size w wr
theorem LvI.keep {w : World} {s : List Int} {v : Value} {wr w' : World} (h : LvI w s v wr) (hb : Below wr.heap.size wr w') : LvI w s v w' := ⟨own_keep h.own hb, h.bel.trans (hb.mono h.bel.size)⟩
theorem LvI.app {w : World} {s : List Int} {v v' : Value} {wr w' : World} {r : Int} (h : LvI w s v wr) (ho : w'.ownsRow w.heap.size 3 1 v' (s.length + 1) (ints s ++ [.int .i64 r])) (hg : wr.grownBy w' v.ownBlock) : LvI w (s ++ [r]) v' w' := by
  have hs := h.bel.size
  refine ⟨?_, h.bel.grown hg (by omega) (fun k e => (h.own.lt k e).1)⟩
  have e : ints (s ++ [r]) = ints s ++ [.int .i64 r] := by simp [ints]
  rw [e, List.length_append]
  exact ho
set_option maxHeartbeats 4000000 in
set_option maxRecDepth 100000 in
theorem levelFaultE (g : Gram) (l : List Level) (ar : Option Addr) (cr : Nat) (la : Option Addr) (lc : Nat) (W : World) (hK : g.rules.length ≤ 32) (hr : Rd AnyB W (.sl (g.rules.map Rule.d)) [.slice ar g.rules.length cr])
    (hl : Rd AnyB W (.sl (l.map Level.d)) [.slice la l.length lc]) :
    Calls Tryd.prog 9 #[.agg #[.int .i64 g.terms, .int .i64 g.nons, .int .i64 g.start, .slice ar g.rules.length cr], .slice la l.length lc] W fun e w' => e = .returned (.int .i64 (levF g l)) ∧ Below W.heap.size W w' := by
  obtain ⟨hc1, hc2⟩ := hr.bounds.2
  obtain ⟨hc3, hc4⟩ := hl.bounds.2
  unfold maxLen at hc2 hc4
  obtain ⟨gt, HGT⟩ := nameIt g.terms
  obtain ⟨gn, HGN⟩ := nameIt g.nons
  obtain ⟨gs, HGS⟩ := nameIt g.start
  have HLV : Hid (lvL g.rules.length [] (l.drop 0) = levF g l) := rfl
  obtain ⟨q, HQn⟩ := nameIt (levF g l)
  obtain ⟨K, HKn⟩ := nameIt g.rules.length
  obtain ⟨ln, HLNn⟩ := nameIt l.length
  rw [HKn.out, HQn.out] at HLV
  obtain ⟨w0, HW0⟩ := nameIt (W.alloc (.cells #[.int .i64 gt, .int .i64 gn, .int .i64 gs, .slice ar K cr] 24))
  have HB0 : Hid (Below W.heap.size W w0) := by rw [← HW0.out]; exact (Below.refl _ _).alloc (Nat.le_refl _) _
  have X1 : Hid (w0.heap[W.heap.size]? = some (.cells #[.int .i64 gt, .int .i64 gn, .int .i64 gs, .slice ar K cr] 24 (0, 0))) := by rw [← HW0.out]; exact bx_new _ _ _ rfl
  have HLR := Lib.hid (hl.below HB0.out)
  rw [HLNn.out] at HLR hc3
  rw [HKn.out] at hc1 hK
  rw [HGT.out, HGN.out, HGS.out, HKn.out, HLNn.out, HQn.out]
  have HI0 : Hid (LvI w0 [] (.slice none 0 0) w0) := ⟨by simpa [ints] using World.ownsRow_nil _ _ _ _, Below.refl _ _⟩
  have HS0 : Hid (okSn K []) := ⟨by simp, fun x hx => by cases hx⟩
  have hl1 : W.heap.size < w0.heap.size := (Array.getElem?_eq_some_iff.1 X1.out).1
  clear hr hl
  go_enter Tryd.func9, Tryd.ntmps9
  go_upto_region 1 with fail
  rw [HW0.out]
  clear HW0
  go_wp2_with fail
  go_loopg [5, 12] ln (fun gg v5 v12 wr => ∃ (i : Nat) (s : List Int), i ≤ ln ∧ ln - i ≤ gg ∧ v12 = .int .i64 i ∧ Hid (okSn K s) ∧ Hid (LvI w0 s v5 wr) ∧ Hid (lvL K s (l.drop i) = q))
  case atStart => exact ⟨0, [], by omega, by omega, rfl, HS0, HI0, HLV⟩
  case round =>
    clear HS0 HI0 HLV
    obtain ⟨i, s, hi, hg, rfl, HS, HI, HF⟩ := hrel
    obtain ⟨s1, HS1⟩ := nameIt s.length
    obtain ⟨av, cv, rfl, hcv1, hcv2⟩ := own_len HI.out.own
    unfold maxLen at hcv2
    by_cases hlt : i < ln
    · have hlt' : (i : Int) < (ln : Int) := by omega
      have hlc : (i : Int) ≤ (lc : Int) := by omega
      obtain ⟨bb, bo, vx, hae, -, hbl, c0, c1, hrx⟩ := Rd.level_at HLR.out (show i < l.length by rw [HLNn.out]; exact hlt)
      replace c0 := (HI.out.bel.cell (lt_of_cell c0)).trans c0
      replace c1 := (HI.out.bel.cell (lt_of_cell c1)).trans c1
      have HF1 := HF.out
      rw [List.drop_eq_getElem_cons (show i < l.length by rw [HLNn.out]; exact hlt), lvL_cons] at HF1
      obtain ⟨x, HX⟩ := nameIt (l[i]'(by rw [HLNn.out]; exact hlt))
      rw [HX.out] at c1 hrx HF1
      obtain ⟨xs, xa⟩ := x
      simp only at c1 hrx HF1
      obtain ⟨ax, cx, rfl, hcx1, hcx2⟩ := hrx.form
      rw [List.length_map] at hcx1 hrx c0
      unfold maxLen at hcx2
      obtain ⟨xn, HXN⟩ := nameIt xs.length
      rw [HXN.out] at hcx1 hrx c0
      obtain ⟨w4, HW4⟩ := nameIt (wr.alloc (.cells #[.slice ax xn cx, .int .i64 xa] 39))
      have hb4 : Below wr.heap.size wr w4 := by rw [← HW4.out]; exact (Below.refl _ _).alloc (Nat.le_refl _) _
      have X4 : Hid (w4.heap[wr.heap.size]? = some (.cells #[.slice ax xn cx, .int .i64 xa] 39 (0, 0))) := by rw [← HW4.out]; exact bx_new _ _ _ rfl
      have HI4 := Lib.hid (HI.out.keep hb4)
      have HXR := Lib.hid hrx
      obtain ⟨z0, z1⟩ := bx_cells2 X4.out
      have HE4 := Lib.hid (HB0.out.trans (HI4.out.bel.mono HB0.out.size))
      rw [HS1.out]
      subst hae
      go_upto_region 5 with fail
      rw [HW4.out]
      clear c0 c1 hrx hbl hb4
      by_cases hA : xa < 0 ∨ 2 < xa
      · have HQ1 : Hid (q = 1) := by rw [if_pos hA] at HF1; exact HF1.symm
        have hA' : (decide (xa < 0) = true) ∨ (decide (xa < 0) = false ∧ decide (2 < xa) = true) := by simp; omega
        clear hA HF1
        rcases hA' with k1 | ⟨k1, k2⟩
        all_goals
          go_wp2_with fail
          go_ret
          exact ⟨by rw [HQ1.out]; rfl, HE4.out⟩
      · rw [if_neg hA] at HF1
        have k1 : decide (xa < 0) = false := by simp; omega
        have k2 : decide (2 < xa) = false := by simp; omega
        have HF4 : Hid (lvC K s (xs.drop 0) (l.drop (i + 1)) = q) := HF1
        clear hA HF1
        go_wp2_with fail
        clear z0 z1 k1 k2
        obtain ⟨wo, rfl⟩ : ∃ wo : World, wo = wr := ⟨_, rfl⟩
        go_loopg [5, 27] xn (fun gg v5 v27 wr => ∃ (j : Nat) (s : List Int), j ≤ xn ∧ xn - j ≤ gg ∧ v27 = .int .i64 j ∧ Hid (okSn K s) ∧ Hid (LvI w0 s v5 wr) ∧ Hid (lvC K s (xs.drop j) (l.drop (i + 1)) = q))
        case atStart => exact ⟨0, s, by omega, by omega, rfl, HS, by rw [← HS1.out] at *; exact HI4, HF4⟩
        case round =>
          clear HS HI HI4 HF4 HF HE4 X4
          obtain ⟨j, s', hj, hg2, rfl, HS, HI, HF⟩ := hrel
          obtain ⟨s2, HS2⟩ := nameIt s'.length
          obtain ⟨av, cv, rfl, hcv1, hcv2⟩ := own_len HI.out.own
          unfold maxLen at hcv2
          have hle := HS.out.le
          rw [HS2.out] at hle hcv1
          have X1' := Lib.hid (bx_keep X1.out HI.out.bel)
          obtain ⟨x0, x1, x2, x3⟩ := bx_cells4 X1'.out
          have HE := Lib.hid (HB0.out.trans (HI.out.bel.mono HB0.out.size))
          have HSZ := HI.out.bel.size
          rw [HS2.out]
          by_cases hlt2 : j < xn
          · have hlt2' : (j : Int) < (xn : Int) := by omega
            have hjc : (j : Int) ≤ (cx : Int) := by omega
            have hjl : j < xs.length := by rw [HXN.out]; exact hlt2
            have hsl := sl_rd (HXR.out.below HI.out.bel)
            obtain ⟨ba, oa, hae, hca⟩ := hsl.at (show j < xn from hlt2)
            have e1 := hca j (by rw [ints_len]; exact hjl)
            rw [ints_get] at e1
            have HF1 := HF.out
            rw [List.drop_eq_getElem_cons hjl, lvC_cons] at HF1
            obtain ⟨r, HRn⟩ := nameIt (xs[j]'hjl)
            rw [HRn.out] at e1 HF1
            subst hae
            clear hca hsl
            by_cases hA2 : r < 0 ∨ (K : Int) ≤ r
            · have HQ1 : Hid (q = 1) := by rw [if_pos hA2] at HF1; exact HF1.symm
              have hA' : (decide (r < 0) = true) ∨ (decide (r < 0) = false ∧ decide ((K : Int) ≤ r) = true) := by simp; omega
              clear hA2 HF1
              rcases hA' with k1 | ⟨k1, k2⟩
              all_goals
                go_wp2_with fail
                go_ret
                exact ⟨by rw [HQ1.out]; rfl, HE.out⟩
            · rw [if_neg hA2] at HF1
              have HA2 := Lib.hid hA2
              have k1 : decide (r < 0) = false := by simp; omega
              have k2 : decide ((K : Int) ≤ r) = false := by simp; omega
              have hcon := containsInt av cv s' r wr (sl_of_own HI.out.own)
              rw [HS2.out] at hcon
              obtain ⟨B, HBn⟩ := nameIt (s'.any fun y => r == y)
              rw [HBn.out] at hcon
              have HBE : Hid (B = true ↔ r ∈ s') := by
                show _ ↔ _
                rw [← HBn.out, List.any_eq_true]
                constructor
                · rintro ⟨y, hy, e⟩; rw [show r = y by simpa using e]; exact hy
                · intro h; exact ⟨r, h, by simp⟩
              have HF2 := Lib.hid HF1
              have HC := Lib.hid hcon
              clear hA2 HF1 hcon
              go_wp2_with fail
              refine HC.out.mono ?_
              rintro e w5 ⟨rfl, rfl⟩
              cases B with
              | true =>
                have HQ1 : Hid (q = 6) := by have h := HF2.out; rw [if_pos (HBE.out.1 rfl)] at h; exact h.symm
                go_wp2_with fail
                go_ret
                exact ⟨by rw [HQ1.out]; rfl, HE.out⟩
              | false =>
                have hni : r ∉ s' := fun h => by have := HBE.out.2 h; cases this
                have HF3 : Hid (lvC K (s' ++ [r]) (xs.drop (j + 1)) (l.drop (i + 1)) = q) := by have h := HF2.out; rw [if_neg hni] at h; exact h
                have HS3 := Lib.hid (HS.out.snoc HA2.out hni)
                have HOW : Hid (wr.ownsRow w0.heap.size 3 1 (.slice av s2 cv) s2 (ints s')) := by have := HI.out.own; rw [HS2.out] at this; exact this
                clear HF2 hni HBE
                go_wp2_with (at_builtin; refine wp_app1at elInt rfl _ _ rfl HOW.out rfl rfl (by simp) rfl rfl (by omega) (by unfold maxLen; omega) (by omega) ?_)
                intro v' w' ho hg3 _
                have HI5 : Hid (LvI w0 (s' ++ [r]) v' w') := HI.out.app (by rw [HS2.out]; exact ho) (by rw [HS2.out]; exact hg3)
                obtain ⟨a', c', rfl, -, -⟩ := own_len ho
                clear ho hg3
                go_wp2_with fail
                go_roundg (xn - (j + 1))
                case measure => omega
                case rel => exact ⟨j + 1, s' ++ [r], by omega, by omega, by go_num, HS3.out, HI5.out, HF3.out⟩
          · have hend : j = xn := by omega
            have hlt2' : ¬ (j : Int) < (xn : Int) := by omega
            have HF3 : Hid (lvL K s' (l.drop (i + 1)) = q) := by have h := HF.out; rw [List.drop_eq_nil_of_le (by rw [HXN.out]; omega), lvC_nil] at h; exact h
            go_wp2_with fail
            go_roundg (ln - (i + 1))
            case measure => omega
            case rel => exact ⟨i + 1, s', by omega, by omega, by go_num, HS.out, by rw [← HS2.out]; exact HI.out, HF3.out⟩
    · have hend : i = ln := by omega
      have hlt' : ¬ (i : Int) < (ln : Int) := by omega
      have HQ0 : Hid (q = 0) := by have h := HF.out; rw [List.drop_eq_nil_of_le (by rw [HLNn.out]; omega), lvL] at h; exact h.symm
      have HE := Lib.hid (HB0.out.trans (HI.out.bel.mono HB0.out.size))
      rw [HS1.out]
      go_wp2_with fail
      go_ret
      exact ⟨by rw [HQ0.out]; rfl, HE.out⟩
end Fb
end Go.Proofs.YtgcfpbjifjklbaaDoor
namespace Go.Proofs.YtgcfpbjifjklbaaDoor
open Go.RowKit
inductive Pth (E : List (Nat × Nat)) : Nat → Nat → Prop
  | one {i j : Nat} : (i, j) ∈ E → Pth E i j
  | cons {i j k : Nat} : (i, j) ∈ E → Pth E j k → Pth E i k
theorem Pth.trans {E : List (Nat × Nat)} {i j k : Nat} (h : Pth E i j) (h2 : Pth E j k) : Pth E i k := by
  induction h with
  | one h => exact .cons h h2
  | cons h _ ih => exact .cons h (ih h2)
theorem Pth.snoc {E : List (Nat × Nat)} {i j k : Nat} (h : Pth E i j) (h2 : (j, k) ∈ E) : Pth E i k := h.trans (.one h2)
def cnt (N : Nat) (U : Nat → Bool) : Nat := ((List.range N).filter U).length
end Go.Proofs.YtgcfpbjifjklbaaDoor
namespace Go.Proofs.YtgcfpbjifjklbaaDoor
open Go.RowKit
namespace Cs
def hasK (S : Nat → Nat → Bool) (s : Sym) (k : Nat) : Bool := if s.term then decide (k = 1) else S s.n.toNat k
def canK (S : Nat → Nat → Bool) : List Sym → Nat → Bool
  | [], k => decide (k = 0)
  | s :: l, k => (List.range (k + 1)).any fun i => hasK S s i && canK S l (k - i)
def splitK (S : Nat → Nat → Bool) (a b : List Sym) (k : Nat) : Bool := (List.range (k + 1)).any fun i => canK S a i && canK S b (k - i)
theorem canK_cons {S : Nat → Nat → Bool} {s : Sym} {l : List Sym} {k : Nat} : canK S (s :: l) k = true ↔ ∃ i, i ≤ k ∧ hasK S s i = true ∧ canK S l (k - i) = true := by
  rw [canK, List.any_eq_true]
  constructor
  · rintro ⟨i, hi, h⟩
    rw [Bool.and_eq_true] at h
    exact ⟨i, by have := List.mem_range.1 hi; omega, h⟩
  · rintro ⟨i, hi, h1, h2⟩
    exact ⟨i, List.mem_range.2 (by omega), by rw [h1, h2]; rfl⟩
def Fine (S : Nat → Nat → Bool) (G : Nat → Nat → Prop) (l : List Sym) (k : Nat) : Prop :=
  ∀ (p : Nat) (s : Sym) (i a : Nat), l[p]? = some s → s.term = false → S s.n.toNat i = true → a + i ≤ k → canK S (l.take p) a = true → canK S (l.drop (p + 1)) (k - a - i) = true → G s.n.toNat i
theorem Fine.head {S : Nat → Nat → Bool} {G : Nat → Nat → Prop} {s : Sym} {l : List Sym} {k i : Nat} (h : Fine S G (s :: l) k) (hi : i ≤ k) (h1 : hasK S s i = true) (h2 : canK S l (k - i) = true) (ht : s.term = false) : G s.n.toNat i := by
  refine h 0 s i 0 rfl ht ?_ (by omega) rfl (by simpa using h2)
  unfold hasK at h1
  rw [ht] at h1
  simpa using h1
theorem Fine.tail {S : Nat → Nat → Bool} {G : Nat → Nat → Prop} {s : Sym} {l : List Sym} {k i : Nat} (h : Fine S G (s :: l) k) (hi : i ≤ k) (h1 : hasK S s i = true) : Fine S G l (k - i) := by
  intro p s' j a hp ht hS ha h2 h3
  refine h (p + 1) s' j (i + a) hp ht hS (by omega) ?_ ?_
  · rw [List.take_succ_cons, canK_cons]
    exact ⟨i, by omega, h1, by rw [Nat.add_sub_cancel_left]; exact h2⟩
  · rw [List.drop_succ_cons]
    have : k - (i + a) - j = k - i - a - j := by omega
    rw [this]; exact h3
def reachN (T : Nat → Nat → Bool) (size u : Nat) : Nat := ((List.range size).filter fun v => T u v).length
def okK (T M : Nat → Nat → Bool) (n size f A k : Nat) : Prop := M A k = true ∨ reachN T size (A * (n + 1) + k) < f
section
variable {rules : List Rule} {S M T : Nat → Nat → Bool} {N n size : Nat} {cap many : Int}
theorem okK.mono {f f' A k : Nat} (h : okK T M n size f A k) (hf : f ≤ f') : okK T M n size f' A k := h.imp id fun h => by omega
end
end Cs
end Go.Proofs.YtgcfpbjifjklbaaDoor
namespace Go.Proofs.YtgcfpbjifjklbaaDoor
open Go.RowKit
namespace Cs
def updB (F : Nat → Nat → Bool) (a b : Nat) : Nat → Nat → Bool := fun k l => if k = a ∧ l = b then true else F k l
def e1 (S : Nat → Nat → Bool) (n : Nat) (r : Rule) (k i : Nat) (F : Nat → Nat → Bool) (j : Nat) : Nat → Nat → Bool :=
  if (S ((r.right.getD i ⟨true, 0⟩).n.toNat) j && splitK S (r.right.take i) (r.right.drop (i + 1)) (k - j)) = true then updB F (r.left.toNat * (n + 1) + k) ((r.right.getD i ⟨true, 0⟩).n.toNat * (n + 1) + j) else F
def e2 (S : Nat → Nat → Bool) (n : Nat) (r : Rule) (k i : Nat) (F : Nat → Nat → Bool) (jm : Nat) : Nat → Nat → Bool := (List.range jm).foldl (e1 S n r k i) F
def e3 (S : Nat → Nat → Bool) (n : Nat) (r : Rule) (k : Nat) (F : Nat → Nat → Bool) (im : Nat) : Nat → Nat → Bool := (List.range im).foldl (fun F i => if (r.right.getD i ⟨true, 0⟩).term then F else e2 S n r k i F (k + 1)) F
def e4 (S : Nat → Nat → Bool) (n : Nat) (r : Rule) (F : Nat → Nat → Bool) (km : Nat) : Nat → Nat → Bool := (List.range km).foldl (fun F k => e3 S n r k F r.right.length) F
def e5 (S : Nat → Nat → Bool) (n : Nat) (l : List Rule) : Nat → Nat → Bool := l.foldl (fun F r => e4 S n r F (n + 1)) (fun _ _ => false)
section
variable {S : Nat → Nat → Bool} {n : Nat} {u v : Nat}
end
def p1 (r : Rule) (st : (Nat → Nat → Bool) × Bool) (k : Nat) : (Nat → Nat → Bool) × Bool := if (!st.1 r.left.toNat k && canK st.1 r.right k) = true then (updB st.1 r.left.toNat k, true) else st
def p2 (n : Nat) (st : (Nat → Nat → Bool) × Bool) (r : Rule) : (Nat → Nat → Bool) × Bool := (List.range (n + 1)).foldl (p1 r) st
def p3 (n : Nat) (l : List Rule) (S : Nat → Nat → Bool) : (Nat → Nat → Bool) × Bool := l.foldl (p2 n) (S, false)
end Cs
end Go.Proofs.YtgcfpbjifjklbaaDoor
namespace Go.Proofs.YtgcfpbjifjklbaaDoor
open Go.RowKit
namespace Cs
def enL (S : Nat → Nat → Bool) (o : Sym → Nat → List Tree) : List Sym → Nat → List (List Tree)
  | [], k => if k = 0 then [[]] else []
  | s :: l, k => (List.range (k + 1)).flatMap fun i => if (hasK S s i && canK S l (k - i)) = true then (o s i).flatMap fun x => (enL S o l (k - i)).map (x :: ·) else []
def Gd (M T : Nat → Nat → Bool) (N n size f A k : Nat) : Prop := A < N ∧ k ≤ n ∧ M A k = false ∧ reachN T size (A * (n + 1) + k) < f
theorem Fine.mono {S : Nat → Nat → Bool} {G G' : Nat → Nat → Prop} {l : List Sym} {k : Nat} (h : Fine S G l k) (hg : ∀ A i, G A i → G' A i) : Fine S G' l k := fun p s i a h1 h2 h3 h4 h5 h6 => hg _ _ (h p s i a h1 h2 h3 h4 h5 h6)
section
variable {rules : List Rule} {S M T : Nat → Nat → Bool} {N n size : Nat} {cap many : Int}
theorem Gd.mono {f f' A k : Nat} (h : Gd M T N n size f A k) (hf : f ≤ f') : Gd M T N n size f' A k := ⟨h.1, h.2.1, h.2.2.1, Nat.lt_of_lt_of_le h.2.2.2 hf⟩
end
def prodL (xs : List Tree) (ys : List (List Tree)) : List (List Tree) := xs.flatMap fun x => ys.map (x :: ·)
def blk (S : Nat → Nat → Bool) (o : Sym → Nat → List Tree) (s : Sym) (l : List Sym) (k i : Nat) : List (List Tree) := if (hasK S s i && canK S l (k - i)) = true then prodL (o s i) (enL S o l (k - i)) else []
def pre (S : Nat → Nat → Bool) (o : Sym → Nat → List Tree) (s : Sym) (l : List Sym) (k m : Nat) : List (List Tree) := (List.range m).flatMap (blk S o s l k)
section
variable {rules : List Rule} {S M T : Nat → Nat → Bool} {N n size : Nat} {cap many : Int}
end
end Cs
end Go.Proofs.YtgcfpbjifjklbaaDoor
namespace Go.Proofs.YtgcfpbjifjklbaaDoor
open Go.RowKit
namespace Cs
section
variable {rules : List Rule} {S M T : Nat → Nat → Bool} {N n size : Nat} {cap many : Int}
end
end Cs
end Go.Proofs.YtgcfpbjifjklbaaDoor
namespace Go.Proofs.YtgcfpbjifjklbaaDoor
open Go.RowKit
theorem made_at (z : Value) (n j : Nat) (h : j < n) : (madeCells #[z] n)[j]? = some z := by
  simp [madeCells, h, Nat.mod_one]
structure Tab (B bt n m : Nat) (rb : Nat → Nat) (lo : Nat) (val : Nat → Nat → Int) (wr : World) : Prop where
  tb : ∃ cs, wr.heap[bt]? = some (.cells cs 37 (0, 0)) ∧ cs.size = n + 1 ∧ ∀ k, lo ≤ k → k ≤ n → cs[k]? = some (.slice (some ⟨rb k, 0, none⟩) (m + 1) (m + 1))
  row : ∀ k, lo ≤ k → k ≤ n → ∃ cs, wr.heap[rb k]? = some (.cells cs 3 (0, 0)) ∧ cs.size = m + 1 ∧ ∀ j, j ≤ m → cs[j]? = some (.int .i64 (val k j))
  inj : ∀ k k', lo ≤ k → k ≤ n → lo ≤ k' → k' ≤ n → rb k = rb k' → k = k'
  ne : ∀ k, lo ≤ k → k ≤ n → rb k ≠ bt ∧ B ≤ rb k
  bB : B ≤ bt
section
variable {B bt n m : Nat} {rb : Nat → Nat} {lo : Nat} {val : Nat → Nat → Int} {wr w' : World}
theorem Tab.keep (h : Tab B bt n m rb lo val wr) (hb : Below wr.heap.size wr w') : Tab B bt n m rb lo val w' := by
  obtain ⟨⟨cs, h1, h2, h3⟩, h4, h5, h6, h7⟩ := h
  refine ⟨⟨cs, bx_keep h1 hb, h2, h3⟩, fun k hk hn => ?_, h5, h6, h7⟩
  obtain ⟨rs, r1, r2⟩ := h4 k hk hn
  exact ⟨rs, bx_keep r1 hb, r2⟩
theorem Tab.grown {row : Option Nat} (h : Tab B bt n m rb lo val wr) (hg : wr.grownBy w' row) (hr : ∀ k, row = some k → k ≠ bt ∧ ∀ i, lo ≤ i → i ≤ n → rb i ≠ k) : Tab B bt n m rb lo val w' := by
  obtain ⟨⟨cs, h1, h2, h3⟩, h4, h5, h6, h7⟩ := h
  refine ⟨⟨cs, ?_, h2, h3⟩, fun k hk hn => ?_, h5, h6, h7⟩
  · rw [hg.block bt (Array.getElem?_eq_some_iff.1 h1).1 (fun e => (hr bt e.symm).1 rfl)]; exact h1
  · obtain ⟨rs, r1, r2⟩ := h4 k hk hn
    refine ⟨rs, ?_, r2⟩
    rw [hg.block (rb k) (Array.getElem?_eq_some_iff.1 r1).1 (fun e => (hr _ e.symm).2 k hk hn rfl)]; exact r1
theorem Tab.hdr (h : Tab B bt n m rb lo val wr) {k : Nat} (hk : lo ≤ k) (hn : k ≤ n) : wr.cell? ⟨bt, k, none⟩ = some (.slice (some ⟨rb k, 0, none⟩) (m + 1) (m + 1)) := by
  obtain ⟨cs, h1, h2, h3⟩ := h.tb
  simp [World.cell?, h1, h3 k hk hn]
theorem Tab.cell (h : Tab B bt n m rb lo val wr) {k j : Nat} (hk : lo ≤ k) (hn : k ≤ n) (hj : j ≤ m) : wr.cell? ⟨rb k, j, none⟩ = some (.int .i64 (val k j)) := by
  obtain ⟨cs, h1, h2, h3⟩ := h.row k hk hn
  simp [World.cell?, h1, h3 j hj]
theorem Tab.free (h : Tab B bt n m rb lo val wr) {k : Nat} (hk : lo ≤ k) (hn : k ≤ n) (j : Nat) : wr.frozen? ⟨rb k, j, none⟩ = false := by
  obtain ⟨cs, h1, h2, h3⟩ := h.row k hk hn
  simp [World.frozen?, h1]
theorem Tab.lt (h : Tab B bt n m rb lo val wr) : bt < wr.heap.size := by
  obtain ⟨cs, h1, _⟩ := h.tb
  exact (Array.getElem?_eq_some_iff.1 h1).1
theorem Tab.rlt (h : Tab B bt n m rb lo val wr) {k : Nat} (hk : lo ≤ k) (hn : k ≤ n) : rb k < wr.heap.size := by
  obtain ⟨cs, h1, _⟩ := h.row k hk hn
  exact (Array.getElem?_eq_some_iff.1 h1).1
theorem Tab.set (h : Tab B bt n m rb lo val wr) {i j : Nat} (hi : lo ≤ i) (hin : i ≤ n) (hj : j ≤ m) (x : Int) : Tab B bt n m rb lo (fun k l => if k = i ∧ l = j then x else val k l) (wr.setCell ⟨rb i, j, none⟩ (.int .i64 x)) := by
  obtain ⟨⟨cs, h1, h2, h3⟩, h4, h5, h6, h7⟩ := h
  refine ⟨⟨cs, bx_other h1 (fun e => (h6 i hi hin).1 e.symm) _ _, h2, h3⟩, fun k hk hn => ?_, h5, h6, h7⟩
  obtain ⟨rs, r1, r2, r3⟩ := h4 k hk hn
  by_cases e : k = i
  · subst e
    refine ⟨rs.setIfInBounds j (.int .i64 x), bx_set r1 _ _, by simpa using r2, fun l hl => ?_⟩
    rw [Array.getElem?_setIfInBounds]
    by_cases e2 : j = l
    · subst e2
      rw [if_pos rfl, if_pos (by omega)]; simp
    · rw [if_neg e2, r3 l hl]
      simp [show ¬ l = j from fun h => e2 h.symm]
  · refine ⟨rs, bx_other r1 (fun e2 => e (h5 k i hk hn hi hin e2)) _ _, r2, fun l hl => ?_⟩
    rw [r3 l hl]; simp [e]
theorem Tab.add {i : Nat} (h : Tab B bt n m rb (i + 1) val wr) (hi : i ≤ n) (hB : B ≤ wr.heap.size) :
    Tab B bt n m (fun k => if k = i then wr.heap.size else rb k) i (fun k l => if k = i then 0 else val k l) ((wr.alloc (.cells (madeCells #[.int .i64 0] (m + 1)) 3)).setCell ⟨bt, i, none⟩ (.slice (some ⟨wr.heap.size, 0, none⟩) (m + 1) (m + 1))) := by
  have hbt := h.lt
  have hrl := fun k hk hn => h.rlt (k := k) hk hn
  obtain ⟨⟨cs, h1, h2, h3⟩, h4, h5, h6, h7⟩ := h
  have hba : Below wr.heap.size wr (wr.alloc (.cells (madeCells #[.int .i64 0] (m + 1)) 3)) := (Below.refl _ _).alloc (Nat.le_refl _) _
  refine ⟨⟨cs.setIfInBounds i (.slice (some ⟨wr.heap.size, 0, none⟩) (m + 1) (m + 1)), bx_set (bx_keep h1 hba) _ _, by simpa using h2, fun k hk hn => ?_⟩, fun k hk hn => ?_, fun k k' hk hn hk' hn' e => ?_, fun k hk hn => ?_, h7⟩
  · rw [Array.getElem?_setIfInBounds]
    by_cases e : i = k
    · subst e
      rw [if_pos rfl, if_pos (by omega)]; simp
    · rw [if_neg e, h3 k (by omega) hn]
      simp [show ¬ k = i from fun h => e h.symm]
  · by_cases e : k = i
    · subst e
      refine ⟨madeCells #[.int .i64 0] (m + 1), ?_, size_madeCells _ _, fun j hj => ?_⟩
      · simp only [if_true]
        exact bx_other (bx_new _ _ _ rfl) (by omega) _ _
      · rw [made_at _ _ _ (by omega)]; simp
    · obtain ⟨rs, r1, r2, r3⟩ := h4 k (by omega) hn
      refine ⟨rs, ?_, r2, fun j hj => by rw [r3 j hj]; simp [e]⟩
      simp only [e, if_false]
      exact bx_other (bx_keep r1 hba) (h6 k (by omega) hn).1 _ _
  · by_cases e1 : k = i <;> by_cases e2 : k' = i <;> simp only [e1, e2, if_true, if_false] at e ⊢
    · have := hrl k' (by omega) hn'; omega
    · have := hrl k (by omega) hn; omega
    · exact h5 k k' (by omega) hn (by omega) hn' e
  · by_cases e : k = i
    · subst e; simp only [if_true]; omega
    · simp only [e, if_false]; exact h6 k (by omega) hn
theorem Tab.eq {val' : Nat → Nat → Int} (h : Tab B bt n m rb lo val wr) (he : ∀ k j, lo ≤ k → k ≤ n → j ≤ m → val k j = val' k j) : Tab B bt n m rb lo val' wr := by
  obtain ⟨h1, h4, h5, h6, h7⟩ := h
  refine ⟨h1, fun k hk hn => ?_, h5, h6, h7⟩
  obtain ⟨rs, r1, r2, r3⟩ := h4 k hk hn
  exact ⟨rs, r1, r2, fun j hj => by rw [r3 j hj, he k j hk hn hj]⟩
end
end Go.Proofs.YtgcfpbjifjklbaaDoor
namespace Go.Proofs.YtgcfpbjifjklbaaDoor
open Go.RowKit
namespace Cs
structure Tb (te : TypeId) (lo hi bt N M : Nat) (rb : Nat → Nat) (val : Nat → Nat → Value) (W : World) : Prop where
  hdr : ∃ cs T, W.heap[bt]? = some (.cells cs T (0, 0)) ∧ ∀ a, a < N → cs[a]? = some (.slice (some ⟨rb a, 0, none⟩) M M)
  row : ∀ a, a < N → ∃ cs, W.heap[rb a]? = some (.cells cs te (0, 0)) ∧ cs.size = M ∧ ∀ k, k < M → cs[k]? = some (val a k)
  inj : ∀ a b, a < N → b < N → rb a = rb b → a = b
  ne : ∀ a, a < N → rb a ≠ bt ∧ lo ≤ rb a ∧ rb a < hi
  pl : lo ≤ bt ∧ bt < hi
section
variable {te : TypeId} {lo hi bt N M : Nat} {rb : Nat → Nat} {val : Nat → Nat → Value} {W W' : World}
theorem Tb.other (h : Tb te lo hi bt N M rb val W) (hs : ∀ k, lo ≤ k → k < hi → W'.heap[k]? = W.heap[k]?) : Tb te lo hi bt N M rb val W' := by
  obtain ⟨⟨cs, T, h1, h2⟩, h3, h4, h5, h6⟩ := h
  refine ⟨⟨cs, T, by rw [hs bt h6.1 h6.2]; exact h1, h2⟩, fun a ha => ?_, h4, h5, h6⟩
  obtain ⟨rs, r1, r2⟩ := h3 a ha
  exact ⟨rs, by rw [hs _ (h5 a ha).2.1 (h5 a ha).2.2]; exact r1, r2⟩
theorem Tb.keep (h : Tb te lo hi bt N M rb val W) (hh : hi ≤ W.heap.size) (hb : Below W.heap.size W W') : Tb te lo hi bt N M rb val W' := h.other fun k _ h2 => hb.block k (by omega)
theorem Tb.head (h : Tb te lo hi bt N M rb val W) {a : Nat} (ha : a < N) : W.cell? ⟨bt, a, none⟩ = some (.slice (some ⟨rb a, 0, none⟩) M M) := by
  obtain ⟨cs, T, h1, h2⟩ := h.hdr
  simp [World.cell?, h1, h2 a ha]
theorem Tb.cell (h : Tb te lo hi bt N M rb val W) {a k : Nat} (ha : a < N) (hk : k < M) : W.cell? ⟨rb a, k, none⟩ = some (val a k) := by
  obtain ⟨cs, h1, h2, h3⟩ := h.row a ha
  simp [World.cell?, h1, h3 k hk]
theorem Tb.free (h : Tb te lo hi bt N M rb val W) {a : Nat} (ha : a < N) (k : Nat) : W.frozen? ⟨rb a, k, none⟩ = false := by
  obtain ⟨cs, h1, h2, h3⟩ := h.row a ha
  simp [World.frozen?, h1]
theorem Tb.set (h : Tb te lo hi bt N M rb val W) {a k : Nat} (ha : a < N) (hk : k < M) (x : Value) : Tb te lo hi bt N M rb (fun b l => if b = a ∧ l = k then x else val b l) (W.setCell ⟨rb a, k, none⟩ x) := by
  obtain ⟨⟨cs, T, h1, h2⟩, h3, h4, h5, h6⟩ := h
  refine ⟨⟨cs, T, bx_other h1 (fun e => (h5 a ha).1 e.symm) _ _, h2⟩, fun b hb => ?_, h4, h5, h6⟩
  obtain ⟨rs, r1, r2, r3⟩ := h3 b hb
  by_cases e : b = a
  · subst e
    refine ⟨rs.setIfInBounds k x, bx_set r1 _ _, by simpa using r2, fun l hl => ?_⟩
    rw [Array.getElem?_setIfInBounds]
    by_cases e2 : k = l
    · subst e2
      rw [if_pos rfl, if_pos (by omega)]; simp
    · rw [if_neg e2, r3 l hl]
      simp [show ¬ l = k from fun h => e2 h.symm]
  · refine ⟨rs, bx_other r1 (fun e2 => e (h4 b a hb ha e2)) _ _, r2, fun l hl => ?_⟩
    rw [r3 l hl]; simp [e]
theorem Tb.eq {val' : Nat → Nat → Value} (h : Tb te lo hi bt N M rb val W) (he : ∀ a k, a < N → k < M → val a k = val' a k) : Tb te lo hi bt N M rb val' W := by
  obtain ⟨h1, h3, h4, h5, h6⟩ := h
  refine ⟨h1, fun a ha => ?_, h4, h5, h6⟩
  obtain ⟨rs, r1, r2, r3⟩ := h3 a ha
  exact ⟨rs, r1, r2, fun k hk => by rw [r3 k hk, he a k ha hk]⟩
end
structure TbI (te tr : TypeId) (B M : Nat) (x : Value) (L : List Nat) (v : Value) (W : World) : Prop where
  own : W.ownsRow B tr 1 v L.length (L.map fun b => .slice (some ⟨b, 0, none⟩) M M)
  rows : ∀ b ∈ L, B ≤ b ∧ b < W.heap.size ∧ v.ownBlock ≠ some b ∧ ∃ cs, W.heap[b]? = some (.cells cs te (0, 0)) ∧ cs.size = M ∧ ∀ k, k < M → cs[k]? = some x
  nd : L.Nodup
  le : B ≤ W.heap.size
section
variable {te tr : TypeId} {B M : Nat} {x : Value} {L : List Nat} {v : Value} {W W' : World}
theorem TbI.nil (te tr : TypeId) (B M : Nat) (x : Value) (W : World) (h : B ≤ W.heap.size) : TbI te tr B M x [] (.slice none 0 0) W := ⟨World.ownsRow_nil _ _ _ _, (fun b hb => by cases hb), List.nodup_nil, h⟩
theorem TbI.keep (h : TbI te tr B M x L v W) (hb : Below W.heap.size W W') : TbI te tr B M x L v W' := by
  obtain ⟨h1, h2, h3, h4⟩ := h
  refine ⟨own_keep h1 hb, fun b hb' => ?_, h3, Nat.le_trans h4 hb.size⟩
  obtain ⟨k1, k2, k3, cs, k4, k5⟩ := h2 b hb'
  exact ⟨k1, Nat.lt_of_lt_of_le k2 hb.size, k3, cs, bx_keep k4 hb, k5⟩
theorem TbI.add {g : Nat} {v' : Value} {cs : Array Value} (h : TbI te tr B M x L v W) (hg : W.heap[g]? = some (.cells cs te (0, 0))) (hc : cs.size = M) (hx : ∀ k, k < M → cs[k]? = some x) (hgB : B ≤ g) (hgv : v.ownBlock ≠ some g) (hgL : g ∉ L)
    (ho : W'.ownsRow B tr 1 v' (L.length + 1) ((L.map fun b => .slice (some ⟨b, 0, none⟩) M M) ++ [.slice (some ⟨g, 0, none⟩) M M])) (hgr : W.grownBy W' v.ownBlock) (hat : v'.ownBlock = v.ownBlock ∨ ∃ k, v'.ownBlock = some k ∧ W.heap.size ≤ k) : TbI te tr B M x (L ++ [g]) v' W' := by
  obtain ⟨h1, h2, h3, h4⟩ := h
  have hv' : ∀ b, b < W.heap.size → v.ownBlock ≠ some b → v'.ownBlock ≠ some b := by
    intro b hb hv
    rcases hat with e | ⟨j, e, hj⟩
    · rw [e]; exact hv
    · rw [e]; intro e; cases e; omega
  have hgl := (Array.getElem?_eq_some_iff.1 hg).1
  refine ⟨by rw [List.length_append, List.map_append]; exact ho, fun b hb => ?_, ?_, Nat.le_trans h4 hgr.size⟩
  · rcases List.mem_append.1 hb with hb | hb
    · obtain ⟨k1, k2, k3, cs', k4, k5⟩ := h2 b hb
      exact ⟨k1, Nat.lt_of_lt_of_le k2 hgr.size, hv' b k2 k3, cs', (hgr.block b k2 (fun e => k3 e.symm)).trans k4, k5⟩
    · rw [List.mem_singleton] at hb
      subst hb
      exact ⟨hgB, Nat.lt_of_lt_of_le hgl hgr.size, hv' b hgl hgv, cs, (hgr.block b hgl (fun e => hgv e.symm)).trans hg, hc, hx⟩
  · rw [List.nodup_append]
    exact ⟨h3, by simp, fun a ha b hb => by rw [List.mem_singleton] at hb; subst hb; exact fun e => hgL (e ▸ ha)⟩
theorem TbI.fin (h : TbI te tr B M x L v W) (h0 : 0 < L.length) : ∃ bt cap, v = .slice (some ⟨bt, 0, none⟩) L.length cap ∧ ∃ rb, Tb te B W.heap.size bt L.length M rb (fun _ _ => x) W := by
  obtain ⟨h1, h2, h3, h4⟩ := h
  obtain ⟨g, cap, rfl, hg1, hg2⟩ := h1.form h0
  refine ⟨g, cap, rfl, fun a => L.getD a 0, ?_⟩
  have hget : ∀ a, a < L.length → L.getD a 0 ∈ L ∧ L[a]? = some (L.getD a 0) := fun a ha => by
    rw [List.getD_eq_getElem?_getD, List.getElem?_eq_getElem ha]
    exact ⟨List.getElem_mem ha, rfl⟩
  refine ⟨?_, fun a ha => ?_, fun a b ha hb e => ?_, fun a ha => ?_, hg1, hg2⟩
  · rcases h1.2 with ⟨h', _⟩ | ⟨g', cap', cur, h', _, hh, _, _, _, htake⟩
    · cases h'
    · cases h'
      refine ⟨cur, tr, hh, fun a ha => ?_⟩
      have e : (L.map fun b => Value.slice (some ⟨b, 0, none⟩) M M)[a]? = some (.slice (some ⟨L.getD a 0, 0, none⟩) M M) := by
        rw [List.getElem?_map, (hget a ha).2]; rfl
      rw [← htake, List.getElem?_take, if_pos (by omega)] at e
      simpa using e
  · obtain ⟨_, _, _, cs, k4, k5, k6⟩ := h2 _ (hget a ha).1
    exact ⟨cs, k4, k5, k6⟩
  · exact (List.getElem?_inj ha h3).1 (by rw [(hget a ha).2, (hget b hb).2, e])
  · obtain ⟨k1, k2, k3, _⟩ := h2 _ (hget a ha).1
    exact ⟨fun e => k3 (by rw [e]; rfl), k1, k2⟩
end
end Cs
end Go.Proofs.YtgcfpbjifjklbaaDoor
namespace Go.Proofs.YtgcfpbjifjklbaaDoor
open Go.RowKit
theorem DescRel.keep {t : Tree} {p : List Int} {w : World} {i : Nat} {cur : Tree} {v : Value} {wr w' : World} (h : DescRel t p w i cur v wr) (hb : Below wr.heap.size wr w') : DescRel t p w i cur v w' :=
  ⟨bx_keep h.box hb, h.kid, bx_keep h.res hb, h.eq, h.bel.trans (hb.mono h.bel.size)⟩
mutual
theorem size_mono : ∀ (t : Tree), ∀ k ∈ t.kids, k.size < t.size
  | .node r tm ks => by
    intro k hk
    have := sizeL_mem ks k hk
    simp [Tree.size]; omega
theorem sizeL_mem : ∀ (ks : List Tree), ∀ k ∈ ks, k.size ≤ sizeL ks
  | [], k, h => by simp at h
  | x :: ks, k, h => by
    rcases List.mem_cons.1 h with rfl | h
    · simp [sizeL]
    · have := sizeL_mem ks k h; simp [sizeL]; omega
end
end Go.Proofs.YtgcfpbjifjklbaaDoor
namespace Go.Proofs.YtgcfpbjifjklbaaDoor
open Go.RowKit
def putT : Tree → List Int → Tree → Tree
  | _, [], s => s
  | t, i :: p, s => .node t.rule t.term (t.kids.mapIdx fun j k => if (j : Int) = i then putT k p s else k)
structure WithRel (S0 : Nat → Prop) (t s : Tree) (vs : Value) (K : List Tree) (w : World) (i : Nat) (vr : Value) (wr : World) : Prop where
  row : RowRel (fun k => S0 k ∨ w.heap.size + 1 + 1 + 1 + 1 ≤ k) (w.heap.size + 1 + 1 + 1 + 1) (w.heap.size + 1 + 1 + 1) t.rule t.term (K.take i) vr wr
  res : wr.heap[w.heap.size + 1 + 1]? = some (.cells #[.int .i64 0, .int .i64 0, .slice none 0 0] 32 (0, 0))
  sub : wr.heap[w.heap.size + 1]? = some (.cells #[.int .i64 s.rule, .int .i64 s.term, vs] 32 (0, 0))
  bel : Below w.heap.size w wr
theorem WithRel.next {S0 : Nat → Prop} {t s pt : Tree} {vs u vr : Value} {K : List Tree} {w wr w3 w4 : World} {i g cap4 : Nat} {xs : List Value} (h : WithRel S0 t s vs K w i vr wr) (hb : Below wr.heap.size wr w3) (htl : (K.take i).length = i)
    (ho : wr.ownsRow (w.heap.size + 1 + 1 + 1 + 1) 32 3 vr i xs) (hd : RdAll (fun k => (S0 k ∨ w.heap.size + 1 + 1 + 1 + 1 ≤ k) ∧ vr.ownBlock ≠ some k) wr ((K.take i).map Tree.d) xs) (hk : K.take (i + 1) = K.take i ++ [pt])
    (hr : Rd (fun k => (S0 k ∨ w.heap.size + 1 + 1 + 1 + 1 ≤ k) ∧ vr.ownBlock ≠ some k) w3 (.sl (pt.kids.map Tree.d)) [u])
    (ho4 : w4.ownsRow (w.heap.size + 1 + 1 + 1 + 1) 32 3 (.slice (some ⟨g, 0, none⟩) (i + 1) cap4) (i + 1) (xs ++ [.int .i64 pt.rule, .int .i64 pt.term, u])) (hg : w3.grownBy w4 vr.ownBlock) (hat : vr.ownBlock = some g ∨ w3.heap.size ≤ g) :
    w4.heap[w.heap.size + 1 + 1 + 1]? = some (.cells #[.int .i64 t.rule, .int .i64 t.term, vr] 32 (0, 0)) ∧ WithRel S0 t s vs K w (i + 1) (.slice (some ⟨g, 0, none⟩) (i + 1) cap4) (w4.setCell ⟨w.heap.size + 1 + 1 + 1, 2, none⟩ (.slice (some ⟨g, 0, none⟩) (i + 1) cap4)) := by
  have hst := RowRel.step (h.row.keep hb) htl (own_keep ho hb) (hd.below hb) hr ho4 hg hat
  have hle := h.row.le
  have hsz := hb.size
  have hother : ∀ k, k < w.heap.size + 1 + 1 + 1 + 1 → k < wr.heap.size → w4.heap[k]? = w3.heap[k]? := fun k hk hlt => hg.block k (by omega) (fun e => by have := (ho.lt k e.symm).1; omega)
  refine ⟨hst.1, ⟨by rw [hk]; exact hst.2, ?_, ?_, ?_⟩⟩
  · refine bx_other ?_ (by omega) _ _
    rw [hother _ (by omega) (by omega)]; exact bx_keep h.res hb
  · refine bx_other ?_ (by omega) _ _
    rw [hother _ (by omega) (by omega)]; exact bx_keep h.sub hb
  · exact ((h.bel.trans (hb.mono h.bel.size)).grown hg (by have := h.bel.size; omega) (fun k e => by have := (ho.lt k e).1; omega)).setCell (by simp; omega) _
end Go.Proofs.YtgcfpbjifjklbaaDoor
namespace Go.Proofs.YtgcfpbjifjklbaaDoor
open Go.RowKit
mutual
def parts : Tree → List Tree
  | .node r t ks => .node r t ks :: partsL ks
def partsL : List Tree → List Tree
  | [] => []
  | k :: ks => parts k ++ partsL ks
end
mutual
def aps : Tree → List (List Int)
  | .node _ _ ks => [] :: apsL 0 ks
def apsL : Nat → List Tree → List (List Int)
  | _, [] => []
  | n, k :: ks => (aps k).map (fun p => (n : Int) :: p) ++ apsL (n + 1) ks
end
mutual
def chg : Tree → Int → Tree → Tree × Int
  | .node r t ks, n, b => if n = 0 then (b, -1) else (.node r t (chgL ks (n - 1) b).1, (chgL ks (n - 1) b).2)
def chgL : List Tree → Int → Tree → List Tree × Int
  | [], n, _ => ([], n)
  | k :: ks, n, b => if 0 ≤ n then ((chg k n b).1 :: (chgL ks (chg k n b).2 b).1, (chgL ks (chg k n b).2 b).2) else (k :: (chgL ks n b).1, (chgL ks n b).2)
end
mutual
def good (g : Gram) : Tree → Prop
  | .node r _ ks => (r = -1 → ks = []) ∧ -1 ≤ r ∧ r < g.rules.length ∧ goodL g ks
def goodL (g : Gram) : List Tree → Prop
  | [] => True
  | k :: ks => good g k ∧ goodL g ks
end
mutual
theorem parts_len : ∀ t : Tree, (parts t).length = t.size
  | .node r tm ks => by simp [parts, Tree.size, partsL_len ks]
theorem partsL_len : ∀ ks : List Tree, (partsL ks).length = sizeL ks
  | [] => by simp [partsL, sizeL]
  | k :: ks => by simp [partsL, sizeL, parts_len k, partsL_len ks]
end
mutual
theorem aps_len : ∀ t : Tree, (aps t).length = t.size
  | .node r tm ks => by simp [aps, Tree.size, apsL_len ks]
theorem apsL_len : ∀ (ks : List Tree) (n : Nat), (apsL n ks).length = sizeL ks
  | [], n => by simp [apsL, sizeL]
  | k :: ks, n => by simp [apsL, sizeL, aps_len k, apsL_len ks]
end
mutual
theorem ap_le : ∀ (t : Tree), ∀ p ∈ aps t, p.length < t.size
  | .node r tm ks => by
    rw [aps, Tree.size]
    intro p hp
    rcases List.mem_cons.1 hp with rfl | hp
    · simp
    · have := apL_le ks 0 p hp; omega
theorem apL_le : ∀ (ks : List Tree) (n : Nat), ∀ p ∈ apsL n ks, p.length ≤ sizeL ks
  | [], n => by simp [apsL]
  | k :: ks, n => by
    rw [apsL, sizeL]
    intro p hp
    rw [List.mem_append] at hp
    rcases hp with hp | hp
    · rw [List.mem_map] at hp
      obtain ⟨q, hq, rfl⟩ := hp
      have := ap_le k q hq
      simp; omega
    · have := apL_le ks (n + 1) p hp; omega
end
mutual
theorem part_size : ∀ (t : Tree), ∀ y ∈ parts t, y.size ≤ t.size
  | .node r tm ks => by
    rw [parts]
    intro y hy
    rcases List.mem_cons.1 hy with rfl | hy
    · exact Nat.le_refl _
    · have := partL_size ks y hy; rw [Tree.size]; omega
theorem partL_size : ∀ (ks : List Tree), ∀ y ∈ partsL ks, y.size ≤ sizeL ks
  | [] => by simp [partsL]
  | k :: ks => by
    rw [partsL, sizeL]
    intro y hy
    rcases List.mem_append.1 hy with hy | hy
    · have := part_size k y hy; omega
    · have := partL_size ks y hy; omega
end
mutual
theorem good_part {g : Gram} : ∀ (t : Tree), good g t → ∀ y ∈ parts t, good g y
  | .node r tm ks, h => by
    rw [parts]
    intro y hy
    rcases List.mem_cons.1 hy with rfl | hy
    · exact h
    · rw [good] at h; exact goodL_part ks h.2.2.2 y hy
theorem goodL_part {g : Gram} : ∀ (ks : List Tree), goodL g ks → ∀ y ∈ partsL ks, good g y
  | [], _ => by simp [partsL]
  | k :: ks, h => by
    rw [partsL]
    rw [goodL] at h
    intro y hy
    rcases List.mem_append.1 hy with hy | hy
    · exact good_part k h.1 y hy
    · exact goodL_part ks h.2 y hy
end
mutual
theorem nodes_parts {g : Gram} : ∀ (t : Tree), good g t → nodes t = parts t
  | .node r tm ks, h => by
    rw [good] at h
    rw [nodes, parts]
    by_cases hr : r = -1
    · rw [if_pos hr, h.1 hr, partsL]
    · rw [if_neg hr, nodesL_parts ks h.2.2.2]
theorem nodesL_parts {g : Gram} : ∀ (ks : List Tree), goodL g ks → nodesL ks = partsL ks
  | [], _ => by simp [nodesL, partsL]
  | k :: ks, h => by
    rw [goodL] at h
    rw [nodesL, partsL, nodes_parts k h.1, nodesL_parts ks h.2]
end
mutual
theorem good_of {g : Gram} : ∀ (t : Tree), (nodes t).all (nodeOk g) = true → good g t
  | .node r tm ks, h => by
    rw [nodes, List.all_cons, Bool.and_eq_true] at h
    obtain ⟨h1, h2⟩ := h
    rw [good]
    by_cases hr : r = -1
    · have hk : ks = [] := by
        simp [nodeOk, Tree.rule, Tree.kids, hr] at h1
        exact h1.2.2
      subst hk
      exact ⟨fun _ => rfl, by omega, by omega, trivial⟩
    · rw [if_neg hr] at h2
      refine ⟨fun e => absurd e hr, ?_, ?_, goodL_of ks h2⟩
      · by_cases h0 : r < 0
        · simp [nodeOk, Tree.rule, hr, h0] at h1
        · omega
      · by_cases h0 : r < 0
        · omega
        · by_cases h3 : r.toNat < g.rules.length
          · omega
          · have e : g.rules[r.toNat]? = none := List.getElem?_eq_none (by omega)
            simp [nodeOk, Tree.rule, hr, h0, e] at h1
theorem goodL_of {g : Gram} : ∀ (ks : List Tree), (nodesL ks).all (nodeOk g) = true → goodL g ks
  | [], _ => trivial
  | k :: ks, h => by
    rw [nodesL, List.all_append, Bool.and_eq_true] at h
    exact ⟨good_of k h.1, goodL_of ks h.2⟩
end
theorem chgL_done : ∀ (ks : List Tree) (b : Tree), chgL ks (-1) b = (ks, -1)
  | [], b => by simp [chgL]
  | k :: ks, b => by rw [chgL, if_neg (by omega), chgL_done ks b]
mutual
theorem chg_past : ∀ (t : Tree) (n : Nat) (b : Tree), t.size ≤ n → chg t n b = (t, (n : Int) - t.size)
  | .node r tm ks, n, b, h => by
    rw [Tree.size] at h
    have h1 := chgL_past ks (n - 1) b (by omega)
    rw [show ((n - 1 : Nat) : Int) = (n : Int) - 1 by omega] at h1
    rw [chg, if_neg (by omega), h1, Tree.size]
    simp; omega
theorem chgL_past : ∀ (ks : List Tree) (n : Nat) (b : Tree), sizeL ks ≤ n → chgL ks n b = (ks, (n : Int) - sizeL ks)
  | [], n, b, h => by simp [chgL, sizeL]
  | k :: ks, n, b, h => by
    rw [sizeL] at h
    have h1 := chg_past k n b (by omega)
    have h2 := chgL_past ks (n - k.size) b (by omega)
    rw [show ((n - k.size : Nat) : Int) = (n : Int) - k.size by omega] at h2
    rw [chgL, if_pos (by omega), h1, h2, sizeL]
    simp; omega
end
theorem mapIdx_if {ks : List Tree} (j : Nat) (f : Tree → Tree) : (ks.mapIdx fun m k => if (m : Int) = (j : Int) then f k else k) = ks.modify j f := by
  refine List.ext_getElem (by simp) fun i h1 h2 => ?_
  simp only [List.getElem_mapIdx, List.getElem_modify]
  by_cases e : j = i
  · rw [if_pos (by omega), if_pos e]
  · rw [if_neg (by omega), if_neg e]
theorem putT_modify (t : Tree) (j : Nat) (p : List Int) (b : Tree) : putT t ((j : Int) :: p) b = .node t.rule t.term (t.kids.modify j fun k => putT k p b) := by
  rw [putT, mapIdx_if j fun k => putT k p b]
mutual
theorem chg_put : ∀ (t : Tree) (n : Nat) (b : Tree) (h : n < (aps t).length), chg t n b = (putT t (aps t)[n] b, -1)
  | .node r tm ks, n, b, h => by
    cases n with
    | zero => simp [chg, aps, putT]
    | succ n =>
      have hn : n < (apsL 0 ks).length := by simpa [aps] using h
      obtain ⟨j, p, e1, e2, e3⟩ := chgL_put ks 0 n b hn
      rw [chg, if_neg (by omega)]
      rw [show ((n + 1 : Nat) : Int) - 1 = (n : Int) by omega, e3]
      have e4 : (aps (.node r tm ks))[n + 1] = (apsL 0 ks)[n] := by simp [aps]
      rw [e4, e1, Nat.zero_add, putT_modify]
      rfl
theorem chgL_put : ∀ (ks : List Tree) (m n : Nat) (b : Tree) (h : n < (apsL m ks).length), ∃ j p, (apsL m ks)[n] = ((m + j : Nat) : Int) :: p ∧ j < ks.length ∧ chgL ks n b = (ks.modify j (fun k => putT k p b), -1)
  | [], m, n, b, h => by simp [apsL] at h
  | k :: ks, m, n, b, h => by
    by_cases hn : n < (aps k).length
    · refine ⟨0, (aps k)[n], ?_, by simp, ?_⟩
      · simp only [apsL]
        rw [List.getElem_append_left (by simpa using hn)]; simp
      · rw [chgL, if_pos (by omega), chg_put k n b hn, chgL_done]
        simp
    · have hl := h
      simp only [apsL, List.length_append, List.length_map] at hl
      have hs : k.size ≤ n := by rw [← aps_len]; omega
      obtain ⟨j, p, e1, e2, e3⟩ := chgL_put ks (m + 1) (n - k.size) b (by rw [aps_len] at hl; omega)
      refine ⟨j + 1, p, ?_, by simpa using e2, ?_⟩
      · simp only [apsL]
        rw [List.getElem_append_right (by simp; omega)]
        simp only [List.length_map, aps_len]
        rw [e1, show m + 1 + j = m + (j + 1) by omega]
      · rw [chgL, if_pos (by omega), chg_past k n b hs]
        simp only
        rw [show (n : Int) - k.size = ((n - k.size : Nat) : Int) by omega, e3]
        simp
end
end Go.Proofs.YtgcfpbjifjklbaaDoor
namespace Go.Proofs.YtgcfpbjifjklbaaDoor
open Go.RowKit
end Go.Proofs.YtgcfpbjifjklbaaDoor
namespace Go.Proofs.YtgcfpbjifjklbaaDoor
open Go.RowKit
theorem Rd.tail {S : Nat → Prop} {w : World} {ds : List D} {b off n cap k : Nat} (h : Rd S w (.sl ds) [.slice (some ⟨b, off, none⟩) n cap]) (hk : ∀ d ∈ ds, d.cells = k) (hn : 1 ≤ n) :
    Rd S w (.sl (ds.drop 1)) [.slice (some ⟨b, if cap = 1 then off else off + k, none⟩) (n - 1) (cap - 1)] := by
  obtain ⟨a', cap', L, e, h1, h2, h3, h4, h5⟩ := h
  simp at e
  obtain ⟨rfl, rfl, rfl⟩ := e
  cases ds with
  | nil => simp at hn
  | cons d ds =>
    obtain ⟨c1, c2, rfl, h6, h7⟩ := h5
    have hl : c1.length = k := by rw [Rd.len d c1 h6]; exact hk d List.mem_cons_self
    simp only [List.drop_succ_cons, List.drop_zero, List.length_cons] at *
    refine ⟨_, cap - 1, c2, rfl, by omega, by omega, (fun h => by cases h), fun i hi => ⟨_, rfl, ?_, ?_⟩, h7⟩
    · obtain ⟨x, hx, hS, _⟩ := h4 (c1.length + i) (by simp; omega)
      cases hx
      exact hS
    · obtain ⟨x, hx, _, hc⟩ := h4 (c1.length + i) (by simp; omega)
      cases hx
      rw [add_at] at hc ⊢
      have hc1 : ¬ cap = 1 := by
        intro e
        have : ds = [] := List.eq_nil_of_length_eq_zero (by omega)
        subst this
        simp [RdAll] at h7
        subst h7
        simp at hi
      rw [if_neg hc1, Nat.add_assoc, ← hl, hc]
      simp
theorem Rd.headed {S : Nat → Prop} {w : World} {ds : List D} {v : Value} {k : Nat} (h : Rd S w (.sl ds) [v]) (h0 : 0 < ds.length) (hk : ∀ d ∈ ds, d.cells = k) (hp : 0 < k) : ∃ b off cap, v = .slice (some ⟨b, off, none⟩) ds.length cap ∧ ds.length ≤ cap ∧ cap ≤ maxLen := by
  obtain ⟨a, cap, rfl, h1, h2⟩ := h.form
  obtain ⟨b, off, cs, ha, _⟩ := h.at hk hp h0
  subst ha
  exact ⟨b, off, cap, rfl, h1, h2⟩
structure InR (Q : Nat → Prop) (B : Nat) (w3 : World) (vo : Value) (ds : List D) (v : Value) (wr : World) : Prop where
  row : RowD Q B 32 3 ds v wr
  gr : w3.grownBy wr vo.ownBlock
  at' : v.ownBlock = vo.ownBlock ∨ ∃ k, v.ownBlock = some k ∧ w3.heap.size ≤ k
theorem InR.start {Q : Nat → Prop} {B : Nat} {w3 : World} {vo : Value} {ds : List D} (h : RowD Q B 32 3 ds vo w3) : InR Q B w3 vo ds vo w3 := ⟨h, ⟨rfl, rfl, rfl, Nat.le_refl _, fun _ _ _ => rfl⟩, .inl rfl⟩
theorem InR.keep {Q : Nat → Prop} {B : Nat} {w3 : World} {vo : Value} {ds : List D} {v : Value} {wr w' : World} (h : InR Q B w3 vo ds v wr) (hb : Below wr.heap.size wr w') : InR Q B w3 vo ds v w' :=
  ⟨h.row.keep hb, grown_trans h.gr (grown_below hb _), h.at'⟩
theorem InR.rd {Q : Nat → Prop} {B : Nat} {w3 : World} {vo : Value} {ds : List D} {v : Value} {wr : World} (h : InR Q B w3 vo ds v wr) {d : D} {cs : List Value} (hd : Rd (fun k => vo.ownBlock ≠ some k) w3 d cs) : Rd (fun k => k < wr.heap.size ∧ v.ownBlock ≠ some k) wr d cs := by
  refine Rd.keep (fun k hk hlt => ⟨⟨Nat.lt_of_lt_of_le hlt h.gr.size, fun e => ?_⟩, h.gr.block k hlt (fun e => hk e.symm)⟩) _ _ hd
  rcases h.at' with h2 | ⟨j, h2, hj⟩
  · rw [h2] at e; exact hk e
  · rw [h2] at e; cases e; omega
theorem InR.block {Q : Nat → Prop} {B : Nat} {w3 : World} {vo : Value} {ds : List D} {v : Value} {wr : World} (h : InR Q B w3 vo ds v wr) {b : Nat} {o : Obj} (hb : w3.heap[b]? = some o) (hne : vo.ownBlock ≠ some b) : wr.heap[b]? = some o := by
  rw [h.gr.block b (Array.getElem?_eq_some_iff.1 hb).1 (fun e => hne e.symm)]; exact hb
theorem InR.below {Q : Nat → Prop} {B : Nat} {w1 w3 : World} {vo : Value} {ds : List D} {v : Value} {wr : World} (h : InR Q B w3 vo ds v wr) (hb : Below B w1 w3) (hB : B ≤ w3.heap.size) (hvo : ∀ k, vo.ownBlock = some k → B ≤ k) : Below B w1 wr := hb.grown h.gr hB hvo
theorem InR.step {Q : Nat → Prop} {B : Nat} {w3 : World} {vo : Value} {ds : List D} {v v' : Value} {W0 W1 : World} {xs : List Value} {n : Nat} {T : Nat → Prop} {t : Tree} {u : Value} (h : InR Q B w3 vo ds v W0) (ho : W0.ownsRow B 32 3 v n xs) (hd : RdAll (fun k => Q k ∧ v.ownBlock ≠ some k) W0 ds xs) (hn : n = ds.length)
    (hr : Rd T W0 (.sl (t.kids.map Tree.d)) [u]) (hT : ∀ k, T k → Q k ∧ v.ownBlock ≠ some k)
    (ho' : W1.ownsRow B 32 3 v' (n + 1) (xs ++ [.int .i64 t.rule, .int .i64 t.term, u])) (hg : W0.grownBy W1 v.ownBlock) (hat : v'.ownBlock = v.ownBlock ∨ ∃ k, v'.ownBlock = some k ∧ W0.heap.size ≤ k) : InR Q B w3 vo (ds ++ [t.d]) v' W1 := by
  refine ⟨RowD.step (es := [t.d]) ho hd hn (RdAll.one (rd_tree hr)) (fun k hk _ => hT k hk) h.row.le ho' hg hat, ?_, ?_⟩
  · refine ⟨hg.os.trans h.gr.os, hg.tape.trans h.gr.tape, hg.output.trans h.gr.output, Nat.le_trans h.gr.size hg.size, fun k hk hne => ?_⟩
    rw [hg.block k (Nat.lt_of_lt_of_le hk h.gr.size) ?_, h.gr.block k hk hne]
    intro e
    rcases h.at' with h2 | ⟨j, h2, hj⟩
    · exact hne (by rw [e, h2])
    · rw [h2] at e; cases e; omega
  · have := h.gr.size
    rcases hat with h2 | ⟨j, h2, hj⟩
    · rw [h2]; exact h.at'
    · exact .inr ⟨j, h2, by omega⟩
end Go.Proofs.YtgcfpbjifjklbaaDoor
