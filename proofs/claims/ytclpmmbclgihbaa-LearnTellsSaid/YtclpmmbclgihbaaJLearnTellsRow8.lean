/- The contract of dfa.Live. The contract of dfa.Parts. Which nonterminals derive others: two ways to reckon it, in plain Lean. Plain: what a census asks: which lengths lists of symbols can have; why counting ends. Plain: the edges of a census, the passes of its tables; why counting ends. Plain: all trees of a symbol with a length, in order; how many, and which has a number. Plain: which tree has a number: first the rule, then the lengths. A table of numbers in memory, that is being filled. Tables in memory whose rows were appended; the contracts of census.table. The contract of tree.At. Trees with one subtree put in another's place: the words. Which trees are valid, in plain Lean: two ways to say it. Smaller trees, in plain Lean: two ways to list them, and that they agree. The contract of tree.Size. The contracts of Nodes, Yield and Codes. The contract of parts. A list of trees that is being made, beside memory that is only read. The contracts of gram.Has, gram.Order, gram.Compare and of slices' functions of symbols and rules. The contract of gram.Check. A census counter in memory; its readers: has, can, split. census.Counter.Of and List. census.Counter.Of. -/
import Derived.Test.YtclpmmbclgihbaaJLearnTellsRow3
import Derived.Test.YtclpmmbclgihbaaJLearnTellsRow1
import Derived.Test.YtclpmmbclgihbaaJLearnTellsRow7
import Derived.Laws.EntriesVeiled
import Derived.Deep.OwnRows
import Derived.Test.YtclpmmbclgihbaaJLearnTellsRow2
import Derived.Deep.LoopGhost
import Derived.Deep.DeepCutAuto
import Derived.Test.YtclpmmbclgihbaaJLearnTellsRow6
import Derived.StillTailTactics
import Derived.WalkSmall
import Derived.Deep.RegionHeld3
import Derived.Test.YtclpmmbclgihbaaJLearnTellsRow4
import Derived.BigQuiet
import Derived.Lib.MinMax
namespace Go.Proofs.Ytclpmmbclgihbaa
open Go.RowKit
namespace Df

/-- behind the first loop: the row of Bools in block g, the work behind it -/
structure LvM (n g : Nat) (w2 : World) (M : Nat → Bool) (v : Value) (wk : List Int) (wr : World) : Prop where
  bel : Below g w2 wr
  vr : Vrow 4 g n (fun k => .bool (M k)) wr
  own : wr.ownsRow (g + 1) 3 1 v wk.length (ints wk)
theorem LvM.sz {n g : Nat} {w2 : World} {M : Nat → Bool} {v : Value} {wk : List Int} {wr : World} (h : LvM n g w2 M v wk wr) : g + 1 ≤ wr.heap.size := h.vr.lt
theorem LvM.start {n g : Nat} (w2 : World) (hg : g = w2.heap.size) : LvM n g w2 (fun _ => false) (.slice none 0 0) [] (w2.alloc (.cells (madeCells #[.bool false] n) 4)) :=
  ⟨by rw [hg]; exact (Below.refl _ _).alloc (Nat.le_refl _) _, vrow_new w2 _ _ n hg, World.ownsRow_nil _ _ _ _⟩
theorem LvM.mark {n g : Nat} {w2 : World} {M : Nat → Bool} {v : Value} {wk : List Int} {wr : World} (h : LvM n g w2 M v wk wr) {s : Nat} (hs : s < n) : LvM n g w2 (setM M s) v wk (wr.setCell ⟨g, s, none⟩ (.bool true)) := by
  obtain ⟨h1, h2, h3⟩ := h
  refine ⟨h1.setCell (p := ⟨g, s, none⟩) (Nat.le_refl _) _, h2.set hs fun k _ => ?_, own_blk h3 fun k hk => Below.heap_setCell _ _ _ _ ?_⟩
  · unfold setM; by_cases e : k = s <;> simp [e]
  · have := (h3.lt k hk).1
    show k ≠ g
    omega
theorem LvM.push {n g : Nat} {w2 : World} {M : Nat → Bool} {v v' : Value} {wk : List Int} {wr w' : World} {s : Int} (h : LvM n g w2 M v wk wr) (ho : w'.ownsRow (g + 1) 3 1 v' (wk.length + 1) (ints wk ++ [.int .i64 s])) (hg : wr.grownBy w' v.ownBlock) : LvM n g w2 M v' (wk ++ [s]) w' := by
  have hz := h.sz
  obtain ⟨h1, h2, h3⟩ := h
  exact ⟨h1.grown hg (by omega) (fun k e => by have := (h3.lt k e).1; omega), h2.grown hg (fun e => by have := (h3.lt _ e).1; omega), by rw [List.length_append, ints_append]; exact ho⟩
/-- what dfa.Live returns -/
def LivPost (x : Dfa) (n : Nat) (w : World) (e : Ending) (w' : World) : Prop := ∃ (g : Nat) (M : Nat → Bool), e = .returned (.slice (some ⟨g, 0, none⟩) n n) ∧ (∀ s, M s = true ↔ Liv x s) ∧ Vrow 4 g n (fun k => .bool (M k)) w' ∧ w.heap.size ≤ g ∧ Below w.heap.size w w'

set_option maxHeartbeats 4000000 in
set_option maxRecDepth 100000 in
theorem liveE (x : Dfa) (hx : Right x) (aa an : Option Addr) (ca cn : Nat) (n : Nat) (hn : x.next.length = n) (w : World) (hA : Sl w (.slice aa n ca) (ints x.acc)) (hN : Rd AnyB w (.sl (x.next.map D.ints)) [.slice an n cn]) :
    Calls Try.prog 38 #[.agg #[.int .i64 x.start, .slice aa n ca, .slice an n cn]] w (LivPost x n w) := by
  have h200 := hx.states
  have hacl := hx.accs
  rw [hn] at h200 hacl
  obtain ⟨hn0, hn2⟩ := h200
  obtain ⟨PST, HP⟩ := nameIt (LivPost x n w)
  have HFIN : Hid (∀ (g : Nat) (M : Nat → Bool) (w' : World), (∀ s, M s = true ↔ Liv x s) → Vrow 4 g n (fun k => .bool (M k)) w' → w.heap.size ≤ g → Below w.heap.size w w' → PST (.returned (.slice (some ⟨g, 0, none⟩) n n)) w') := by
    intro g M w' h1 h2 h3 h4; rw [← HP.out]; exact ⟨g, M, rfl, h1, h2, h3, h4⟩
  rw [HP.out]
  clear HP
  have hmk : ∀ W : World, (Instr.makeSlice 23 (.int .i64 (n : Int)) (.int .i64 (n : Int))).run Try.prog W = .ok (.slice (some ⟨W.heap.size, 0, none⟩) n n) (W.alloc (.cells (madeCells #[.slice none 0 0] n) 22)) := fun W => by
    have := run_make_row' (P := Try.prog) 23 22 (.slice none 0 0) 24 Try.underlying23 (by kernel_rfl) rfl .i64 .i64 n (by omega) (by omega) W
    simpa using this
  have hmb : ∀ W : World, (Instr.makeSlice 65 (.int .i64 (n : Int)) (.int .i64 (n : Int))).run Try.prog W = .ok (.slice (some ⟨W.heap.size, 0, none⟩) n n) (W.alloc (.cells (madeCells #[.bool false] n) 4)) := fun W => by
    have := run_make_row' (P := Try.prog) 65 4 (.bool false) 1 Try.underlying65 (by kernel_rfl) rfl .i64 .i64 n (by omega) (by omega) W
    simpa using this
  obtain ⟨st, HST⟩ := nameIt x.start
  obtain ⟨w0, HW0⟩ := nameIt (w.alloc (.cells #[.int .i64 st, .slice aa n ca, .slice an n cn] 25))
  have hb0 : Below w.heap.size w w0 := by rw [← HW0.out]; exact (Below.refl _ _).alloc (Nat.le_refl _) _
  have HB0 := Lib.hid hb0
  have HX0 : Hid (w0.heap[w.heap.size]? = some (.cells #[.int .i64 st, .slice aa n ca, .slice an n cn] 25 (0, 0))) := by rw [← HW0.out]; exact bx_new _ _ _ rfl
  have HAX := Lib.hid (hA.keep hb0)
  have HNX := Lib.hid (hN.below hb0)
  obtain ⟨bt, HBT⟩ := nameIt w0.heap.size
  obtain ⟨w1, HW1⟩ := nameIt (w0.alloc (.cells (madeCells #[.slice none 0 0] n) 22))
  have hb1 : Below w0.heap.size w0 w1 := by rw [← HW1.out]; exact (Below.refl _ _).alloc (Nat.le_refl _) _
  have HB1 := Lib.hid hb1
  have HT1 : Hid (OwnT 22 3 bt (bt + 1) n (fun _ => .slice none 0 0) (fun _ => []) w1) := by rw [← HW1.out]; exact OwnT.start w0 HBT.out.symm (by omega)
  have HI1 := Lib.hid (inL_start x)
  have HSZ1 : Hid (bt + 1 ≤ w1.heap.size) := by show _ ≤ _; rw [← HW1.out, ← HBT.out]; simp
  have HXX := Lib.hid hx
  have HNN := Lib.hid hn
  have HACL := Lib.hid hacl
  obtain ⟨x0, x1, x2⟩ := bx_cells3 HX0.out
  obtain ⟨y0, y1, y2⟩ := bx_cells3 (bx_keep HX0.out hb1)
  rw [HST.out]
  clear hb0 hb1 hA hN hx hn hacl
  go_enter Try.func38, Try.ntmps38
  go_upto_region 1 with fail
  rw [HW0.out]
  go_upto_region 2 with fail
  rw [HW1.out, HBT.out]
  go_wp2_with fail
  go_loopg [4, 5, 7, 22] n (fun gg v4 v5 v7 v22 wr => ∃ (s : Nat) (val : Nat → Value) (L : Nat → List Int), s ≤ n ∧ n - s ≤ gg ∧ v22 = .int .i64 s ∧ Hid (OwnT 22 3 bt (bt + 1) n val L wr) ∧ Hid (InL x s 0 L) ∧ Hid (Below w0.heap.size w0 wr) ∧ Hid (bt + 1 ≤ wr.heap.size))
  case atStart => exact ⟨0, _, _, by omega, by omega, rfl, HT1, HI1, HB1, HSZ1⟩
  case round =>
    clear HT1 HI1 HB1 y0 y1 y2 x0 x1 x2 HSZ1
    obtain ⟨s, val, L, hs, hg, rfl, HT, HI, HB, HSZ⟩ := hrel
    obtain ⟨wo, rfl⟩ : ∃ wo : World, wo = wr := ⟨_, rfl⟩
    by_cases hlt : s < n
    · have hlt' : (s : Int) < (n : Int) := by omega
      have hs0 : (0 : Int) ≤ (s : Int) := by omega
      have hsx : s < x.next.length := by rw [HNN.out]; exact hlt
      obtain ⟨b, off, vr, hae, c0, hsl⟩ := Rd.rowI_at HNX.out hsx
      have hml := HXX.out.rows _ (List.getElem_mem hsx)
      have hmw := HXX.out.syms
      obtain ⟨ar, kr, rfl⟩ := hsl.form
      rw [ints_len] at c0 hsl
      have HED := Lib.hid (fun c (h : c < x.next[s].length) => edge_at hsx h)
      have HTG := Lib.hid (fun c (h : c < x.next[s].length) => HXX.out.next _ (List.getElem_mem hsx) _ (List.getElem_mem h))
      obtain ⟨R, HR⟩ := nameIt x.next[s]
      simp only [HR.out] at HED HTG hml hsl c0
      obtain ⟨m, HM⟩ := nameIt R.length
      rw [HM.out] at hml hsl c0
      have hm16 : m ≤ 16 := by omega
      have HROW : Hid (∀ c L, c = m → InL x s c L → InL x (s + 1) 0 L) := by
        intro c L hc h
        exact inL_row HXX.out hsx (by rw [HR.out, HM.out]; exact hc) h
      subst hae
      have HSL := Lib.hid hsl
      have c2 := (HB.out.cell (lt_of_cell c0)).trans c0
      clear hsl hml hmw c0
      go_wp2_with fail
      go_loopg [7, 29] m (fun gg v7 v29 wr => ∃ (c : Nat) (val : Nat → Value) (L : Nat → List Int), c ≤ m ∧ m - c ≤ gg ∧ v29 = .int .i64 c ∧ Hid (OwnT 22 3 bt (bt + 1) n val L wr) ∧ Hid (InL x s c L) ∧ Hid (Below w0.heap.size w0 wr) ∧ Hid (bt + 1 ≤ wr.heap.size))
      case atStart => exact ⟨0, val, L, by omega, by omega, rfl, HT, HI, HB, HSZ⟩
      case round =>
        clear HT HI HB HSZ c2
        obtain ⟨c, val, L, hc, hgg, rfl, HT, HI, HB, HSZ⟩ := hrel
        obtain ⟨w2, rfl⟩ : ∃ ww : World, ww = wr := ⟨_, rfl⟩
        by_cases hcm : c < m
        · have hcm' : (c : Int) < (m : Int) := by omega
          have hc0 : (0 : Int) ≤ (c : Int) := by omega
          obtain ⟨ba, oa, hae, hca⟩ := (HSL.out.keep HB.out).at hcm
          have hcR : c < R.length := by rw [HM.out]; exact hcm
          have c1 := hca c (by rw [ints_len]; exact hcR)
          rw [ints_get] at c1
          have hed := HED.out c hcR
          have htg := HTG.out c hcR
          obtain ⟨v, HV⟩ := nameIt R[c]
          rw [HV.out] at c1 hed htg
          rw [HNN.out] at htg
          subst hae
          clear hca
          by_cases hv0 : v < 0
          · have hv0' : ¬ (0 : Int) ≤ v := by omega
            have HI2 := Lib.hid (inL_neg hed hv0 HI.out)
            clear hed htg hv0
            go_wp2_with fail
            go_roundg (m - (c + 1))
            case measure => omega
            case rel => exact ⟨c + 1, val, L, by omega, by omega, by go_num, HT, HI2, HB, HSZ⟩
          · obtain ⟨t, ht⟩ : ∃ t : Nat, v = (t : Int) := ⟨v.toNat, by omega⟩
            subst ht
            have htn : t < n := by omega
            have htn' : (t : Int) < (n : Int) := by omega
            have ht0 : (0 : Int) ≤ (t : Int) := by omega
            have HI2 := Lib.hid (inL_add hed HI.out)
            have hro := HT.out.row t htn
            have hll := (HI.out t (by rw [HNN.out]; exact htn)).2
            have hhd := HT.out.tb.cell htn
            obtain ⟨av, cv, hvv, -, -⟩ := own_len hro
            obtain ⟨ln, HLN⟩ := nameIt (L t).length
            rw [HLN.out] at hll hro hvv
            have HVV := Lib.hid hvv
            rw [hvv] at hhd hro
            have HRO := Lib.hid hro
            have hl4 : ln ≤ 4000 := by omega
            clear hed htg hv0 hvv hro hll
            go_wp2_with (at_builtin; refine wp_app1at elInt rfl _ _ rfl HRO.out rfl rfl rfl rfl rfl (by omega) (by unfold maxLen; omega) HSZ.out ?_)
            intro v' w3 ho hg3 hat
            have hap := HT.out.app htn (s := (s : Int)) (by rw [HLN.out]; exact ho) (by rw [HVV.out]; exact hg3) (by rw [HVV.out]; exact hat)
            rw [HVV.out] at hap
            obtain ⟨d1, d2, d3⟩ := hap
            have HT2 := Lib.hid d3
            have HB3 : Hid (Below w0.heap.size w0 w3) := HB.out.grown hg3 HB.out.size (fun k e => by have := (HRO.out.lt k e).1; rw [HBT.out]; omega)
            have HB4 : Hid (Below w0.heap.size w0 (w3.setCell ⟨bt, t, none⟩ v')) := HB3.out.setCell (p := ⟨bt, t, none⟩) (by rw [HBT.out]; exact Nat.le_refl _) _
            have hz3 := HSZ.out
            have hz4 := hg3.size
            have HSZ4 : Hid (bt + 1 ≤ (w3.setCell ⟨bt, t, none⟩ v').heap.size) := by show _ ≤ _; rw [World.size_setCell]; omega
            obtain ⟨g3, k3, rfl, -, -, -, -, -⟩ := own_at ho hat
            clear ho hg3 hat d3 hz3 hz4
            go_wp2_with fail
            go_roundg (m - (c + 1))
            case measure => omega
            case rel => exact ⟨c + 1, _, _, by omega, by omega, by go_num, HT2, HI2, HB4, HSZ4⟩
        · have hcm' : ¬ (c : Int) < (m : Int) := by omega
          have HI2 := Lib.hid (HROW.out c L (by omega) HI.out)
          go_wp2_with fail
          go_roundg (n - (s + 1))
          case measure => omega
          case rel => exact ⟨s + 1, val, L, by omega, by omega, by go_num, HT, HI2, HB, HSZ⟩
    · obtain rfl : s = n := by omega
      have hlt' : ¬ (s : Int) < (s : Int) := by omega
      obtain ⟨g, HG⟩ := nameIt wo.heap.size
      obtain ⟨w3, HW3⟩ := nameIt (wo.alloc (.cells (madeCells #[.bool false] s) 4))
      have HM3 : Hid (LvM s g wo (fun _ => false) (.slice none 0 0) [] w3) := by rw [← HW3.out]; exact LvM.start wo HG.out.symm
      have HA3 := Lib.hid (lvA_start x)
      obtain ⟨x0, x1, x2⟩ := bx_cells3 (bx_keep HX0.out HB.out)
      have HX3 : Hid (∀ wr, Below g wo wr → wr.heap[w.heap.size]? = some (.cells #[.int .i64 st, .slice aa s ca, .slice an s cn] 25 (0, 0)) ∧ Sl wr (.slice aa s ca) (ints x.acc)) := fun wr hb => by
        have hb3 : Below wo.heap.size wo wr := by rw [HG.out]; exact hb
        exact ⟨bx_keep (bx_keep HX0.out HB.out) hb3, (HAX.out.keep HB.out).keep hb3⟩
      have HBF : Hid (∀ wr, Below g wo wr → Below w.heap.size w wr) := fun wr hb => by
        have hs1 := HB0.out.size
        have hs2 := HB.out.size
        have hs3 := HG.out
        exact (HB0.out.trans (HB.out.mono (by omega))).trans (hb.mono (by omega))
      have HGW : Hid (w.heap.size ≤ g) := by
        show _ ≤ _
        have hs1 := HB0.out.size
        have hs2 := HB.out.size
        have hs3 := HG.out
        omega
      have HIN := Lib.hid (fun t (h : t < s) p => inL_end (by rw [HNN.out]; exact HI.out) (t := t) (p := p) (by rw [HNN.out]; exact h))
      have HLL := Lib.hid (fun t (h : t < s) => (HI.out t (by rw [HNN.out]; exact h)).2)
      obtain ⟨z0, z1, z2⟩ := bx_cells3 (HX3.out w3 HM3.out.bel).1
      have hs0' : 0 < s := hn0
      go_upto_region 13 with fail
      rw [HW3.out, HG.out]
      go_wp2_with fail
      go_loopg [9, 10, 11, 54] s (fun gg v9 v10 v11 v54 wr => ∃ (i : Nat) (M : Nat → Bool) (wk : List Int), i ≤ s ∧ s - i ≤ gg ∧ v54 = .int .i64 i ∧ Hid (LvM s g wo M v9 wk wr) ∧ Hid (LvA x i M wk))
      case atStart => exact ⟨0, _, _, by omega, by omega, rfl, HM3, HA3⟩
      case round =>
        clear HM3 HA3 z0 z1 z2 x0 x1 x2
        obtain ⟨i, M, wk, hi, hg3, rfl, HM, HA⟩ := hrel
        obtain ⟨w4, rfl⟩ : ∃ ww : World, ww = wr := ⟨_, rfl⟩
        by_cases hin : i < s
        · have hia : i < x.acc.length := by rw [HACL.out]; exact hin
          have hin' : (i : Int) < (s : Int) := by omega
          have hi0 : (0 : Int) ≤ (i : Int) := by omega
          obtain ⟨ba, oa, hae, hca⟩ := (HX3.out w4 HM.out.bel).2.at hin
          have c1 := hca i (by rw [ints_len]; exact hia)
          rw [ints_get] at c1
          have hac : x.acc[i]? = some x.acc[i] := List.getElem?_eq_getElem hia
          obtain ⟨a, HAN⟩ := nameIt x.acc[i]
          rw [HAN.out] at c1 hac
          subst hae
          clear hca
          by_cases ha0 : a < 0
          · have ha0' : ¬ (0 : Int) ≤ a := by omega
            have HA2 := Lib.hid (lvA_no hac ha0 HA.out)
            clear ha0 hac
            go_wp2_with fail
            go_roundg (s - (i + 1))
            case measure => omega
            case rel => exact ⟨i + 1, M, wk, by omega, by omega, by go_num, HM, HA2⟩
          · have ha0' : (0 : Int) ≤ a := by omega
            have HA2 := Lib.hid (lvA_yes (by rw [HNN.out]; exact hin) hac ha0' HA.out)
            have q0 := HM.out.vr.cell hin
            have qf := HM.out.vr.free i
            have hme := HA.out.meas
            obtain ⟨av, cv, hvv, -, -⟩ := own_len HM.out.own
            subst hvv
            have HM4 := Lib.hid (HM.out.mark hin)
            have HRO := Lib.hid HM4.out.own
            obtain ⟨ln, HLN⟩ := nameIt wk.length
            rw [HLN.out] at hme HM4 HRO ⊢
            rw [HNN.out] at hme
            have hl4 : ln ≤ 400 := by omega
            clear ha0 hac hme
            go_wp2_with (at_builtin; refine wp_app1at elInt rfl _ _ rfl HRO.out rfl rfl (by simp) rfl rfl (by omega) (by unfold maxLen; omega) HM4.out.sz ?_)
            intro v' w5 ho hg5 hat
            have HM5 := Lib.hid (HM4.out.push (s := (i : Int)) (by rw [HLN.out]; exact ho) hg5)
            obtain ⟨g5, k5, rfl, -, -, -, -, -⟩ := own_at ho hat
            clear ho hg5 hat
            go_wp2_with fail
            go_roundg (s - (i + 1))
            case measure => omega
            case rel => exact ⟨i + 1, _, _, by omega, by omega, by go_num, HM5, HA2⟩
        · have hin' : ¬ (i : Int) < (s : Int) := by omega
          have HI0 := Lib.hid (lvI_start HXX.out (by rw [HACL.out]; omega) HA.out)
          go_wp2_with fail
          go_loopg [9, 12, 14] (2 * s) (fun gg v9 v12 v14 wr => ∃ (M : Nat → Bool) (wk : List Int), 2 * notM M s + wk.length ≤ gg ∧ Hid (LvM s g wo M v9 wk wr) ∧ Hid (LvI x M wk none))
          case atStart => exact ⟨M, wk, by have := HI0.out.meas; rw [HNN.out] at this; exact this, HM, HI0⟩
          case round =>
            clear HM HI0 HA
            obtain ⟨M, wk, hme, HM, HL⟩ := hrel
            obtain ⟨w5, rfl⟩ : ∃ ww : World, ww = wr := ⟨_, rfl⟩
            rcases List.eq_nil_or_concat wk with rfl | ⟨wk', p, rfl⟩
            · obtain ⟨av, cv, hvv, -, -⟩ := own_len HM.out.own
              subst hvv
              have HE := Lib.hid (HFIN.out g M w5 (fun k => lvI_end HL.out k) HM.out.vr HGW.out (HBF.out w5 HM.out.bel))
              go_wp2_with fail
              exact HE.out
            · rw [List.concat_eq_append] at hme HM HL
              obtain ⟨t, ht, htn, hmt⟩ := HL.out.work p (List.mem_append.2 (.inr (by simp)))
              subst ht
              rw [HNN.out] at htn
              have hm2 := HL.out.meas
              rw [HNN.out] at hm2
              have HL6 := Lib.hid (lvI_pop HL.out)
              have HMT := Lib.hid hmt
              obtain ⟨ll, HLLN⟩ := nameIt (wk' ++ [(t : Int)]).length
              obtain ⟨lm, HLM⟩ := nameIt wk'.length
              have hll : ll = lm + 1 := by rw [← HLLN.out, ← HLM.out, List.length_append]; rfl
              obtain ⟨g6, cv, hvv, -, -⟩ := HM.out.own.form (by rw [HLLN.out]; omega)
              obtain ⟨_, _, hvv2, hcl, -⟩ := own_len HM.out.own
              rw [hvv] at hvv2
              cases hvv2
              rw [HLLN.out] at hcl
              rw [HLLN.out] at hvv hme hm2
              subst hvv
              have hown := HM.out.own
              rw [HLLN.out] at hown
              have hsl := sl_of_own hown
              have hown2 := own_front hown (m := lm) (by omega)
              have HM6 : Hid (LvM s g wo M (.slice (some ⟨g6, 0, none⟩) lm cv) wk' w5) := by
                obtain ⟨h1, h2, h3⟩ := HM.out
                refine ⟨h1, h2, ?_⟩
                rw [ints_append, List.take_left' (by rw [ints_len]; exact HLM.out)] at hown2
                rw [HLM.out]; exact hown2
              have c1 : w5.cell? ⟨g6, lm, none⟩ = some (.int .i64 (t : Int)) := by
                obtain ⟨b, o, hae, hca⟩ := hsl.at (k := lm) (by omega)
                cases hae
                have hlx : lm < (wk' ++ [(t : Int)]).length := by rw [HLLN.out]; omega
                have h1 := hca lm (by rw [ints_len]; exact hlx)
                rw [Nat.zero_add, ints_get] at h1
                have h2 : (wk' ++ [(t : Int)])[lm]? = some (t : Int) := by rw [← HLM.out]; simp
                obtain ⟨_, h3⟩ := List.getElem?_eq_some_iff.1 h2
                rw [h3] at h1
                exact h1
              have hsub : IntKind.i64.wrap ((ll : Int) - 1) = (lm : Int) := by rw [IntWalk.i64_in _ (by omega)]; omega
              have hlm0 : (0 : Int) ≤ (lm : Int) := by omega
              have hlml : (lm : Int) < (ll : Int) := by omega
              have hll0 : (0 : Int) < (ll : Int) := by omega
              have hllN : 0 < ll := by omega
              have hlmc : (lm : Int) ≤ (cv : Int) := by omega
              have htn' : (t : Int) < (s : Int) := by omega
              have ht0 : (0 : Int) ≤ (t : Int) := by omega
              have hb5 : Below wo.heap.size wo w5 := by rw [HG.out]; exact HM.out.bel
              have hro := HT.out.row t htn
              have hhd := (HT.out.tb.keep hb5).cell htn
              have hrs := sl_of_own hro
              obtain ⟨at', ct, hvt⟩ := hrs.form
              rw [ints_len] at hvt
              have hrl := HLL.out t htn
              have hhin := HIN.out t htn
              obtain ⟨R, HR⟩ := nameIt (L t)
              rw [HR.out] at hvt hrs hrl
              simp only [HR.out] at hhin
              obtain ⟨lt, HLT⟩ := nameIt R.length
              rw [HLT.out] at hvt hrl
              rw [hvt] at hhd hrs
              have HRS := Lib.hid hrs
              have HHI := Lib.hid hhin
              have hlt4 : lt ≤ 4000 := by omega
              obtain ⟨mm, HMM⟩ := nameIt (2 * notM M s + lm)
              have hmg := Nat.le_trans (show mm + 1 ≤ 2 * notM M s + ll by rw [← HMM.out]; omega) hme
              have HTK : Hid (∀ p ∈ R.take 0, M p.toNat = true) := fun p hp => by simp at hp
              have HM9 : Hid (2 * notM M s + wk'.length ≤ mm) := by show _ ≤ _; rw [← HMM.out, HLM.out]; exact Nat.le_refl _
              clear hsl hown2 hb5 hro hvt hll hrs hhin hme hm2 hown hrl hcl hmt
              go_wp2_with fail
              go_loopg [9, 14, 88] lt (fun gg v9 v14 v88 wr => ∃ (j : Nat) (M : Nat → Bool) (wk : List Int), j ≤ lt ∧ lt - j ≤ gg ∧ v88 = .int .i64 j ∧ Hid (LvM s g wo M v9 wk wr) ∧ Hid (LvI x M wk (some t)) ∧ Hid (M t = true) ∧ Hid (∀ p ∈ R.take j, M p.toNat = true) ∧ Hid (2 * notM M s + wk.length ≤ mm))
              case atStart => exact ⟨0, M, wk', by omega, by omega, rfl, HM6, HL6, HMT, HTK, HM9⟩
              case round =>
                clear HM6 HL6 HMT HTK HM HL c1 hhd HMM HM9
                obtain ⟨j, M, wk, hj, hgj, rfl, HM, HL, HMT, HTK, HME⟩ := hrel
                obtain ⟨w7, rfl⟩ : ∃ ww : World, ww = wr := ⟨_, rfl⟩
                have hb7 : Below wo.heap.size wo w7 := by rw [HG.out]; exact HM.out.bel
                by_cases hjl : j < lt
                · have hjl' : (j : Int) < (lt : Int) := by omega
                  have hj0 : (0 : Int) ≤ (j : Int) := by omega
                  have hjR : j < R.length := by rw [HLT.out]; exact hjl
                  obtain ⟨ba, oa, hae, hca⟩ := (HRS.out.keep hb7).at hjl
                  have c1 := hca j (by rw [ints_len]; exact hjR)
                  rw [ints_get] at c1
                  obtain ⟨q, c, hq, hed⟩ := (HHI.out R[j]).1 (List.getElem_mem hjR)
                  have htk : ∀ M' : Nat → Bool, (∀ p ∈ R.take j, M' p.toNat = true) → M' q = true → ∀ p ∈ R.take (j + 1), M' p.toNat = true := by
                    intro M' h1 h2 p hp
                    rw [List.take_succ_eq_append_getElem hjR, List.mem_append] at hp
                    rcases hp with hp | hp
                    · exact h1 p hp
                    · simp at hp
                      rw [hp, hq]; exact h2
                  have HTN := Lib.hid htk
                  have hqn := edge_lt hed
                  rw [HNN.out] at hqn
                  rw [hq] at c1
                  have hq0 : (0 : Int) ≤ (q : Int) := by omega
                  have hqn' : (q : Int) < (s : Int) := by omega
                  have q0 := HM.out.vr.cell hqn
                  have qf := HM.out.vr.free q
                  have HED := Lib.hid hed
                  subst hae
                  obtain ⟨mq, HMQ⟩ := nameIt (M q)
                  rw [HMQ.out] at q0
                  clear hca hb7 htk hq hed
                  cases mq with
                  | true =>
                    have HTK2 := Lib.hid (HTN.out M HTK.out HMQ.out)
                    go_wp2_with fail
                    go_roundg (lt - (j + 1))
                    case measure => omega
                    case rel => exact ⟨j + 1, M, wk, by omega, by omega, by go_num, HM, HL, HMT, HTK2, HME⟩
                  | false =>
                    have HL2 := Lib.hid (lvI_push HL.out HED.out HMT.out HMQ.out)
                    have HMT2 : Hid (setM M q t = true) := setM_ge HMT.out
                    have HTK2 := Lib.hid (HTN.out (setM M q) (fun p hp => setM_ge (HTK.out p hp)) (setM_self M q))
                    have hns := notM_set HMQ.out hqn
                    have hme := HME.out
                    have hm2 := HL.out.meas
                    rw [HNN.out] at hm2
                    obtain ⟨av, cv2, hvv, -, -⟩ := own_len HM.out.own
                    subst hvv
                    have HM4 := Lib.hid (HM.out.mark hqn)
                    have HRO := Lib.hid HM4.out.own
                    have HME2 : Hid (2 * notM (setM M q) s + (wk ++ [(q : Int)]).length ≤ mm) := by show _ ≤ _; rw [List.length_append]; simp; omega
                    obtain ⟨ln, HLN⟩ := nameIt wk.length
                    rw [HLN.out] at hm2 HM4 HRO ⊢
                    have hl4 : ln ≤ 400 := by omega
                    clear hns hme hm2
                    go_wp2_with (at_builtin; refine wp_app1at elInt rfl _ _ rfl HRO.out rfl rfl (by simp) rfl rfl (by omega) (by unfold maxLen; omega) HM4.out.sz ?_)
                    intro v' w8 ho hg8 hat
                    have HM8 := Lib.hid (HM4.out.push (s := (q : Int)) (by rw [HLN.out]; exact ho) hg8)
                    obtain ⟨g8, k8, rfl, -, -, -, -, -⟩ := own_at ho hat
                    clear ho hg8 hat
                    go_wp2_with fail
                    go_roundg (lt - (j + 1))
                    case measure => omega
                    case rel => exact ⟨j + 1, _, _, by omega, by omega, by go_num, HM8, HL2, HMT2, HTK2, HME2⟩
                · have hjl' : ¬ (j : Int) < (lt : Int) := by omega
                  have HL2 := Lib.hid (lvI_done HHI.out (fun p hp => HTK.out p (by rw [List.take_of_length_le (by rw [HLT.out]; omega)]; exact hp)) HL.out)
                  have hme := HME.out
                  go_wp2_with fail
                  go_roundg mm
                  case measure => exact hmg
                  case rel => exact ⟨M, wk, hme, HM, HL2⟩
end Df
end Go.Proofs.Ytclpmmbclgihbaa
namespace Go.Proofs.Ytclpmmbclgihbaa
open Go.RowKit
namespace Df

/-- the boxes of dfa.Parts: q: the first one behind dfa.Live -/
structure PtB (n : Nat) (M : Nat → Bool) (w0 : World) (q lg : Nat) (pv cv : Value) (wr : World) : Prop where
  bel : Below w0.heap.size w0 wr
  lo : w0.heap.size ≤ lg ∧ lg < q
  lbx : wr.heap[q]? = some (.cells #[.slice (some ⟨lg, 0, none⟩) n n] 65 (0, 0))
  lv : Vrow 4 lg n (fun s => .bool (M s)) wr
  pbx : wr.heap[q + 1 + 1]? = some (.cells #[pv] 22 (0, 0))
  cbx : wr.heap[q + 1 + 1 + 1]? = some (.cells #[cv] 3 (0, 0))
  kbx : wr.heap[q + 1 + 1 + 1 + 1]? = some (.cells #[.func (.func 40) #[] #[]] 70 (0, 0))
section
variable {n : Nat} {M : Nat → Bool} {w0 : World} {q lg : Nat} {pv cv : Value} {wr w' : World}
theorem PtB.keep (h : PtB n M w0 q lg pv cv wr) (hb : Below wr.heap.size wr w') : PtB n M w0 q lg pv cv w' :=
  ⟨h.bel.trans (hb.mono h.bel.size), h.lo, bx_keep h.lbx hb, h.lv.keep hb, bx_keep h.pbx hb, bx_keep h.cbx hb, bx_keep h.kbx hb⟩
theorem PtB.num (h : PtB n M w0 q lg pv cv wr) {w1 : World} (hb : Below wr.heap.size wr w1) (v1 v2 : Value) : PtB n M w0 q lg v1 v2 ((w1.setCell ⟨q + 1 + 1, 0, none⟩ v1).setCell ⟨q + 1 + 1 + 1, 0, none⟩ v2) := by
  obtain ⟨h1, ⟨h2, h2'⟩, h3, h4, h5, h6, h7⟩ := h.keep hb
  refine ⟨(h1.setCell (p := ⟨q + 1 + 1, 0, none⟩) (by show _ ≤ q + 1 + 1; omega) _).setCell (p := ⟨q + 1 + 1 + 1, 0, none⟩) (by show _ ≤ q + 1 + 1 + 1; omega) _, ⟨h2, h2'⟩, ?_, ?_, ?_, ?_, ?_⟩
  · exact bx_other (bx_other h3 (by omega) _ _) (by omega) _ _
  · exact (h4.other (by omega) _ _).other (by omega) _ _
  · refine bx_other ?_ (by omega) _ _
    rw [bx_set h5]; rfl
  · have h8 := bx_other (c := q + 1 + 1) h6 (by omega) 0 v1
    rw [bx_set h8]; rfl
  · exact bx_other (bx_other h7 (by omega) _ _) (by omega) _ _
end
/-- what dfa.Parts returns: the numbers of the first round that tells no more apart -/
def PartsPost (x : Dfa) (n : Nat) (w : World) (e : Ending) (w' : World) : Prop := ∃ (g j : Nat) (M : Nat → Bool), e = .returned (.slice (some ⟨g, 0, none⟩) n n) ∧ (∀ s, M s = true ↔ Liv x s) ∧ ptC x M n (j + 1) = ptC x M n j ∧ Vrow 3 g n (fun s => .int .i64 (ptI x M n (j + 1) s)) w' ∧ w.heap.size ≤ g ∧ Below w.heap.size w w'

set_option maxHeartbeats 4000000 in
set_option maxRecDepth 100000 in
theorem partsE (x : Dfa) (hx : Right x) (hlo : ∀ v ∈ x.acc, v ≤ 9223372036854775807) (aa an : Option Addr) (ca cn : Nat) (n : Nat) (hn : x.next.length = n) (w : World) (hA : Sl w (.slice aa n ca) (ints x.acc)) (hN : Rd AnyB w (.sl (x.next.map D.ints)) [.slice an n cn]) :
    Calls Try.prog 29 #[.agg #[.int .i64 x.start, .slice aa n ca, .slice an n cn]] w (PartsPost x n w) := by
  have h200 := hx.states
  have hacl := hx.accs
  rw [hn] at h200 hacl
  obtain ⟨hn0, hn2⟩ := h200
  have hms : ∀ W : World, (Instr.makeSlice 22 (.int .i64 (n : Int)) (.int .i64 (n : Int))).run Try.prog W = .ok (.slice (some ⟨W.heap.size, 0, none⟩) n n) (W.alloc (.cells (madeCells #[.int .i64 0] n) 3)) := fun W => by
    have := run_make_row' (P := Try.prog) 22 3 (.int .i64 0) 8 Try.underlying22 (by kernel_rfl) rfl .i64 .i64 n (by omega) (by omega) W
    simpa using this
  have HLV := Lib.hid (fun W (h1 : Sl W (.slice aa n ca) (ints x.acc)) (h2 : Rd AnyB W (.sl (x.next.map D.ints)) [.slice an n cn]) => liveE x hx aa an ca cn n hn W h1 h2)
  obtain ⟨st, HST⟩ := nameIt x.start
  simp only [HST.out] at HLV
  obtain ⟨w0, HW0⟩ := nameIt (w.alloc (.cells #[.int .i64 st, .slice aa n ca, .slice an n cn] 25))
  have hb0 : Below w.heap.size w w0 := by rw [← HW0.out]; exact (Below.refl _ _).alloc (Nat.le_refl _) _
  have HB0 := Lib.hid hb0
  have HX0 : Hid (w0.heap[w.heap.size]? = some (.cells #[.int .i64 st, .slice aa n ca, .slice an n cn] 25 (0, 0))) := by rw [← HW0.out]; exact bx_new _ _ _ rfl
  have HAX := Lib.hid (hA.keep hb0)
  have HNX := Lib.hid (hN.below hb0)
  have HXX := Lib.hid hx
  have HNN := Lib.hid hn
  have HACL := Lib.hid hacl
  have HLO := Lib.hid hlo
  obtain ⟨x0, x1, x2⟩ := bx_cells3 HX0.out
  obtain ⟨PST, HPS⟩ := nameIt (PartsPost x n w)
  have HFIN : Hid (∀ (g j : Nat) (M : Nat → Bool) (w' : World), (∀ s, M s = true ↔ Liv x s) → ptC x M n (j + 1) = ptC x M n j → Vrow 3 g n (fun s => .int .i64 (ptI x M n (j + 1) s)) w' → w.heap.size ≤ g → Below w.heap.size w w' → PST (.returned (.slice (some ⟨g, 0, none⟩) n n)) w') := by
    intro g j M w' h1 h2 h3 h4 h5; rw [← HPS.out]; exact ⟨g, j, M, rfl, h1, h2, h3, h4, h5⟩
  rw [HPS.out, HST.out]
  obtain ⟨db, HDB⟩ := nameIt w.heap.size
  rw [HDB.out] at x0 x1 x2 HX0
  clear hb0 hA hN hx hn hacl hlo HPS
  go_enter Try.func29, Try.ntmps29
  go_upto_region 1 with fail
  rw [HW0.out, HDB.out]
  go_wp2_with fail
  with_reducible refine (HLV.out w0 HAX.out HNX.out).mono ?_
  rintro e w1 ⟨lg, M, rfl, hM, hVM, hlg, hb1⟩
  have HM := Lib.hid hM
  have HVM := Lib.hid hVM
  have HLG := Lib.hid hlg
  have HB1 := Lib.hid hb1
  obtain ⟨y0, y1, y2⟩ := bx_cells3 (bx_keep HX0.out hb1)
  have hdb1 := lt_of_cell y0
  clear hM hVM hlg hb1 x0 x1 x2
  obtain ⟨q, HQ⟩ := nameIt w1.heap.size
  obtain ⟨w2, HW2⟩ := nameIt (((((w1.alloc (.cells #[.slice (some ⟨lg, 0, none⟩) n n] 65)).alloc (.cells (madeCells #[.int .i64 0] n) 3)).alloc (.cells #[.slice (some ⟨q + 1, 0, none⟩) n n] 22)).alloc (.cells #[.int .i64 0] 3)).alloc (.cells #[.func (.func 40) #[] #[]] 70))
  have HP2 : Hid (PtB n M w0 q lg (.slice (some ⟨q + 1, 0, none⟩) n n) (.int .i64 0) w2) := by
    have hlgq := HVM.out.lt
    have hq := HQ.out
    rw [← HW2.out]
    have k0 := Below.refl w1.heap.size w1
    have k1 := k0.alloc (Nat.le_refl _) (.cells #[.slice (some ⟨lg, 0, none⟩) n n] 65)
    have k2 := k1.alloc k1.size (.cells (madeCells #[.int .i64 0] n) 3)
    have k3 := k2.alloc k2.size (.cells #[.slice (some ⟨q + 1, 0, none⟩) n n] 22)
    have k4 := k3.alloc k3.size (.cells #[.int .i64 0] 3)
    have k5 := k4.alloc k4.size (.cells #[.func (.func 40) #[] #[]] 70)
    refine ⟨HB1.out.trans (k5.mono HB1.out.size), ⟨HLG.out, by omega⟩, ?_, HVM.out.keep k5, ?_, ?_, ?_⟩
    · exact bx_keep (bx_keep (bx_keep (bx_keep (bx_new w1 _ q hq.symm) ((Below.refl _ _).alloc (Nat.le_refl _) _)) ((Below.refl _ _).alloc (Nat.le_refl _) _)) ((Below.refl _ _).alloc (Nat.le_refl _) _)) ((Below.refl _ _).alloc (Nat.le_refl _) _)
    · exact bx_keep (bx_keep (bx_new _ _ (q + 1 + 1) (by simp; omega)) ((Below.refl _ _).alloc (Nat.le_refl _) _)) ((Below.refl _ _).alloc (Nat.le_refl _) _)
    · exact bx_keep (bx_new _ _ (q + 1 + 1 + 1) (by simp; omega)) ((Below.refl _ _).alloc (Nat.le_refl _) _)
    · exact bx_new _ _ (q + 1 + 1 + 1 + 1) (by simp; omega)
  have HDX : Hid (∀ W, Below w0.heap.size w0 W → W.heap[db]? = some (.cells #[.int .i64 st, .slice aa n ca, .slice an n cn] 25 (0, 0)) ∧ Sl W (.slice aa n ca) (ints x.acc) ∧ Rd AnyB W (.sl (x.next.map D.ints)) [.slice an n cn]) := fun W hb => ⟨bx_keep HX0.out hb, HAX.out.keep hb, HNX.out.below hb⟩
  have HN1 : Hid (∀ (fn : Nat) (lb : Array Value) (kk : Nat → List Int) (po : Nat) (cv : Value) (W : World), (∀ s, (kk s).length ≤ 1000) → (∀ args w, (callFunc fn args).run Try.prog w = .ok (.enter fn args) w) → KeyFn fn lb n M kk W → PtB n M w0 q lg (.slice (some ⟨po, 0, none⟩) n n) cv W →
      Calls Try.prog 39 #[.func (.func fn) #[] lb, .pointer (some ⟨q + 1 + 1, 0, none⟩), .pointer (some ⟨q, 0, none⟩), .pointer (some ⟨q + 1 + 1 + 1, 0, none⟩)] W (NumPost n M (fun s => u8b (kk s)) (q + 1 + 1) (q + 1 + 1 + 1) W)) := fun fn lb kk po cv W h1 h2 h3 h4 =>
    numberE fn lb n (by omega) M kk h1 (q + 1 + 1) q (q + 1 + 1 + 1) lg _ cv W h2 h3 h4.pbx h4.lbx h4.cbx (by omega) h4.lv
  have HKA : Hid (KeyFn 41 #[.pointer (some ⟨q + 1 + 1 + 1 + 1, 0, none⟩), .pointer (some ⟨db, 0, none⟩)] n M (kkA x) w2) := by
    intro W s hs hm hb
    have hbt := HP2.out.keep hb
    obtain ⟨d1, d2, d3⟩ := HDX.out W hbt.bel
    exact keyAE x s (by rw [HACL.out]; exact hs) (fun v hv => ⟨by have := HXX.out.acc v hv; omega, HLO.out v hv⟩) _ _ _ _ _ n ca HACL.out W hbt.kbx d1 d2
  have HC1 := Lib.hid (HN1.out _ _ (kkA x) _ _ w2 (fun s => by simp [kkA, b4]) (fun _ _ => rfl) HKA.out HP2.out)
  go_upto_region 6 with fail
  rw [HQ.out, HW2.out]
  go_wp2_with fail
  with_reducible refine HC1.out.mono ?_
  rintro e w3 hpost
  obtain ⟨np, w4, rfl, rfl, hb4, hnp, hvp⟩ := hpost
  have hk2 := lt_of_cell (bx_cells1 HP2.out.kbx)
  have HP3 := Lib.hid (HP2.out.num hb4 (.slice (some ⟨np, 0, none⟩) n n) (.int .i64 ((seenTo M (fun s => u8b (kkA x s)) n).length : Int)))
  have HV3 := Lib.hid ((hvp.other (b := q + 1 + 1) (by have : q + 1 + 1 + 1 + 1 < w2.heap.size := hk2; omega) 0 (.slice (some ⟨np, 0, none⟩) n n)).other (b := q + 1 + 1 + 1) (by have : q + 1 + 1 + 1 + 1 < w2.heap.size := hk2; omega) 0 (.int .i64 ((seenTo M (fun s => u8b (kkA x s)) n).length : Int)))
  have HNP3 : Hid (w0.heap.size ≤ np) := by
    show _ ≤ _
    have := HP2.out.bel.size
    omega
  obtain ⟨w5, HW5⟩ := nameIt ((w4.setCell ⟨q + 1 + 1, 0, none⟩ (.slice (some ⟨np, 0, none⟩) n n)).setCell ⟨q + 1 + 1 + 1, 0, none⟩ (.int .i64 ((seenTo M (fun s => u8b (kkA x s)) n).length : Int)))
  rw [HW5.out] at HP3 HV3
  rw [HW5.out]
  clear hb4 hnp hvp hk2 y0 y1 y2 hdb1
  go_wp2_with fail
  go_loopg [8, 9] n (fun gg v8 v9 wr => ∃ j po : Nat, n - ptC x M n j ≤ gg ∧ Hid (PtB n M w0 q lg (.slice (some ⟨po, 0, none⟩) n n) (.int .i64 (ptC x M n j : Int)) wr) ∧ Hid (Vrow 3 po n (fun s => .int .i64 (ptI x M n j s)) wr) ∧ Hid (w0.heap.size ≤ po))
  case atStart => exact ⟨0, np, Nat.sub_le _ _, HP3, HV3, HNP3⟩
  case round =>
    clear HP3 HV3 HNP3 HC1 HKA HP2
    obtain ⟨j, po, hgj, HP, HV, HPO⟩ := hrel
    obtain ⟨wo, rfl⟩ : ∃ wo : World, wo = wr := ⟨_, rfl⟩
    have c0 := bx_cells1 HP.out.cbx
    have p0 := bx_cells1 HP.out.pbx
    have hmono := ptC_mono (x := x) (M := M) hn2 j
    have hle := ptC_le x M n (j + 1)
    obtain ⟨cj, HCJ⟩ := nameIt (ptC x M n j)
    rw [HCJ.out] at c0 hgj hmono
    have hq2 : q + 1 + 1 < wo.heap.size := lt_of_cell p0
    have hq3 : q + 1 + 1 + 1 < wo.heap.size := lt_of_cell c0
    go_upto_region 7 with fail
    go_cut [8, 9] (fun t8 t9 wx => t8 = .int .i64 (cj : Int) ∧ t9 = .pointer (some ⟨wo.heap.size, 0, none⟩) ∧ Hid (Below wo.heap.size wo wx) ∧ Hid (wx.heap[wo.heap.size]? = some (.cells #[.slice (some ⟨po, 0, none⟩) n n] 22 (0, 0))))
    case first =>
      go_region_law (fail)
      all_goals (go_wp2_with fail; go_meet; exact ⟨rfl, rfl, (Below.refl _ _).drew.alloc (Nat.le_refl _) _, bx_new _ _ _ rfl⟩)
    case rest =>
      obtain ⟨rfl, rfl, HBC, HOX⟩ := hcut
      obtain ⟨w6, rfl⟩ : ∃ ww : World, ww = wc := ⟨_, rfl⟩
      have HPC := Lib.hid (HP.out.keep HBC.out)
      have HVC := Lib.hid (HV.out.keep HBC.out)
      obtain ⟨ob, HOB⟩ := nameIt wo.heap.size
      rw [HOB.out] at HOX
      rw [HOB.out]
      have HKB : Hid (KeyFn 42 #[.pointer (some ⟨q + 1 + 1 + 1 + 1, 0, none⟩), .pointer (some ⟨ob, 0, none⟩), .pointer (some ⟨db, 0, none⟩)] n M (kkB x (ptI x M n j)) w6) := by
        intro W s hs hm hb
        have hbt := HPC.out.keep hb
        obtain ⟨d1, d2, d3⟩ := HDX.out W hbt.bel
        exact keyBE x HXX.out (ptI x M n j) (fun k hk => by
          have := numP_range (M := M) (k := ptK x M n j) (n := n) (i := k) (by rw [← HNN.out]; exact hk)
          show -1 ≤ numP M (ptK x M n j) n k ∧ numP M (ptK x M n j) n k ≤ 1000
          omega) s (by rw [HNN.out]; exact hs) _ _ _ po _ _ an n cn HNN.out W hbt.kbx (bx_keep HOX.out hb) d1 d3 (HVC.out.keep hb)
      have HC6 := Lib.hid (HN1.out _ _ (kkB x (ptI x M n j)) po _ w6 (fun s => by
        unfold kkB
        rw [keyTo_len _ _ (Nat.le_refl _)]
        have hw := HXX.out.syms
        by_cases h : s < x.next.length
        · have h2 := HXX.out.rows _ (List.getElem_mem h)
          have h3 : x.next.getD s [] = x.next[s] := by simp [List.getD_eq_getElem?_getD, List.getElem?_eq_getElem h]
          rw [h3]; omega
        · have h3 : x.next.getD s [] = [] := by simp [List.getD_eq_getElem?_getD, List.getElem?_eq_none (Nat.le_of_not_lt h)]
          rw [h3]; simp) (fun _ _ => rfl) HKB.out HPC.out)
      clear HKB c0 p0 hq2 hq3
      go_wp2_with fail
      with_reducible refine HC6.out.mono ?_
      rintro e w7 hpost
      obtain ⟨np, w8, rfl, rfl, hb8, hnp, hvp⟩ := hpost
      have hk2 := lt_of_cell (bx_cells1 HPC.out.kbx)
      have HP9 := Lib.hid (HPC.out.num hb8 (.slice (some ⟨np, 0, none⟩) n n) (.int .i64 ((seenTo M (fun s => u8b (kkB x (ptI x M n j) s)) n).length : Int)))
      have HV9 := Lib.hid ((hvp.other (b := q + 1 + 1) (by have : q + 1 + 1 + 1 + 1 < w6.heap.size := hk2; omega) 0 (.slice (some ⟨np, 0, none⟩) n n)).other (b := q + 1 + 1 + 1) (by have : q + 1 + 1 + 1 + 1 < w6.heap.size := hk2; omega) 0 (.int .i64 ((seenTo M (fun s => u8b (kkB x (ptI x M n j) s)) n).length : Int)))
      have HNP9 : Hid (w0.heap.size ≤ np) := by
        show _ ≤ _
        have := HPC.out.bel.size
        omega
      obtain ⟨w9, HW9⟩ := nameIt ((w8.setCell ⟨q + 1 + 1, 0, none⟩ (.slice (some ⟨np, 0, none⟩) n n)).setCell ⟨q + 1 + 1 + 1, 0, none⟩ (.int .i64 ((seenTo M (fun s => u8b (kkB x (ptI x M n j) s)) n).length : Int)))
      rw [HW9.out] at HP9 HV9
      rw [HW9.out]
      have hc1 : (seenTo M (fun s => u8b (kkB x (ptI x M n j) s)) n).length = ptC x M n (j + 1) := rfl
      rw [hc1] at HP9
      have c9 := bx_cells1 HP9.out.cbx
      have p9 := bx_cells1 HP9.out.pbx
      obtain ⟨c1, HC1N⟩ := nameIt (ptC x M n (j + 1))
      rw [HC1N.out] at c9 hmono hle
      clear hb8 hnp hvp hk2 hc1
      by_cases hcc : c1 = cj
      · have hci : (c1 : Int) = (cj : Int) := by omega
        have HE := Lib.hid (HFIN.out np j M w9 HM.out (by rw [HCJ.out, HC1N.out]; exact hcc) HV9.out (Nat.le_trans HB0.out.size HNP9.out) (HB0.out.trans (HP9.out.bel.mono HB0.out.size)))
        subst hcc
        clear hci
        go_wp2_with fail
        exact HE.out
      · have hci : ¬ (c1 : Int) = (cj : Int) := by omega
        have hcb : ((c1 : Int) == (cj : Int)) = false := by simpa using hci
        have hlt : cj < c1 := by omega
        have HP9' : Hid (PtB n M w0 q lg (.slice (some ⟨np, 0, none⟩) n n) (.int .i64 (ptC x M n (j + 1) : Int)) w9) := HP9.out
        clear hcc
        go_wp2_with fail
        go_roundg (n - c1)
        case measure => omega
        case rel => exact ⟨j + 1, np, by rw [HC1N.out]; exact Nat.le_refl _, HP9', HV9, HNP9⟩
end Df
end Go.Proofs.Ytclpmmbclgihbaa
namespace Go.Proofs.Ytclpmmbclgihbaa
open Go.RowKit

inductive Pth (E : List (Nat × Nat)) : Nat → Nat → Prop
  | one {i j : Nat} : (i, j) ∈ E → Pth E i j
  | cons {i j k : Nat} : (i, j) ∈ E → Pth E j k → Pth E i k
theorem Pth.trans {E : List (Nat × Nat)} {i j k : Nat} (h : Pth E i j) (h2 : Pth E j k) : Pth E i k := by
  induction h with
  | one h => exact .cons h h2
  | cons h _ ih => exact .cons h (ih h2)
/-- in rounds over the places between -/
def fw (E : List (Nat × Nat)) : Nat → Nat → Nat → Bool
  | 0, i, j => decide ((i, j) ∈ E)
  | k + 1, i, j => fw E k i j || (fw E k i k && fw E k k j)
def cnt (N : Nat) (U : Nat → Bool) : Nat := ((List.range N).filter U).length
end Go.Proofs.Ytclpmmbclgihbaa
namespace Go.Proofs.Ytclpmmbclgihbaa
open Go.RowKit
namespace Cs

def hasK (S : Nat → Nat → Bool) (s : Sym) (k : Nat) : Bool := if s.term then decide (k = 1) else S s.n.toNat k
def canK (S : Nat → Nat → Bool) : List Sym → Nat → Bool
  | [], k => decide (k = 0)
  | s :: l, k => (List.range (k + 1)).any fun i => hasK S s i && canK S l (k - i)
def splitK (S : Nat → Nat → Bool) (a b : List Sym) (k : Nat) : Bool := (List.range (k + 1)).any fun i => canK S a i && canK S b (k - i)
theorem canK_cons {S : Nat → Nat → Bool} {s : Sym} {l : List Sym} {k : Nat} : canK S (s :: l) k = true ↔ ∃ i, i ≤ k ∧ hasK S s i = true ∧ canK S l (k - i) = true := by
  rw [canK, List.any_eq_true]
  constructor
  · rintro ⟨i, hi, h⟩
    rw [Bool.and_eq_true] at h
    exact ⟨i, by have := List.mem_range.1 hi; omega, h⟩
  · rintro ⟨i, hi, h1, h2⟩
    exact ⟨i, List.mem_range.2 (by omega), by rw [h1, h2]; rfl⟩
/-- a list of at most so many trees of symbols, in which all that is asked for is good -/
def Fine (S : Nat → Nat → Bool) (G : Nat → Nat → Prop) (l : List Sym) (k : Nat) : Prop :=
  ∀ (p : Nat) (s : Sym) (i a : Nat), l[p]? = some s → s.term = false → S s.n.toNat i = true → a + i ≤ k → canK S (l.take p) a = true → canK S (l.drop (p + 1)) (k - a - i) = true → G s.n.toNat i
theorem Fine.head {S : Nat → Nat → Bool} {G : Nat → Nat → Prop} {s : Sym} {l : List Sym} {k i : Nat} (h : Fine S G (s :: l) k) (hi : i ≤ k) (h1 : hasK S s i = true) (h2 : canK S l (k - i) = true) (ht : s.term = false) : G s.n.toNat i := by
  refine h 0 s i 0 rfl ht ?_ (by omega) rfl (by simpa using h2)
  unfold hasK at h1
  rw [ht] at h1
  simpa using h1
theorem Fine.tail {S : Nat → Nat → Bool} {G : Nat → Nat → Prop} {s : Sym} {l : List Sym} {k i : Nat} (h : Fine S G (s :: l) k) (hi : i ≤ k) (h1 : hasK S s i = true) : Fine S G l (k - i) := by
  intro p s' j a hp ht hS ha h2 h3
  refine h (p + 1) s' j (i + a) hp ht hS (by omega) ?_ ?_
  · rw [List.take_succ_cons, canK_cons]
    exact ⟨i, by omega, h1, by rw [Nat.add_sub_cancel_left]; exact h2⟩
  · rw [List.drop_succ_cons]
    have : k - (i + a) - j = k - i - a - j := by omega
    rw [this]; exact h3
/-- how many nodes a node leads to -/
def reachN (T : Nat → Nat → Bool) (size u : Nat) : Nat := ((List.range size).filter fun v => T u v).length
/-- a table of truth values as edges -/
def edg (size : Nat) (F : Nat → Nat → Bool) : List (Nat × Nat) := (List.range size).flatMap fun i => ((List.range size).filter fun j => F i j).map fun j => (i, j)
/-- all that a node leads to -/
def clo (size : Nat) (F : Nat → Nat → Bool) (i j : Nat) : Bool := fw (edg size F) size i j
/-- what leads to itself, or to such: looked at below jm -/
def manyK (T : Nat → Nat → Bool) (jm u : Nat) : Bool := (List.range jm).any fun j => (u == j || T u j) && T j j
/-- a node from which counting ends, in so many steps -/
def okK (T M : Nat → Nat → Bool) (n size f A k : Nat) : Prop := M A k = true ∨ reachN T size (A * (n + 1) + k) < f
section
variable {rules : List Rule} {S M T : Nat → Nat → Bool} {N n size : Nat} {cap many : Int}
theorem okK.mono {f f' A k : Nat} (h : okK T M n size f A k) (hf : f ≤ f') : okK T M n size f' A k := h.imp id fun h => by omega
end
end Cs
end Go.Proofs.Ytclpmmbclgihbaa
namespace Go.Proofs.Ytclpmmbclgihbaa
open Go.RowKit
namespace Cs

def updB (F : Nat → Nat → Bool) (a b : Nat) : Nat → Nat → Bool := fun k l => if k = a ∧ l = b then true else F k l
/-- one place: rule r at length k, symbol i, of length j -/
def e1 (S : Nat → Nat → Bool) (n : Nat) (r : Rule) (k i : Nat) (F : Nat → Nat → Bool) (j : Nat) : Nat → Nat → Bool :=
  if (S ((r.right.getD i ⟨true, 0⟩).n.toNat) j && splitK S (r.right.take i) (r.right.drop (i + 1)) (k - j)) = true then updB F (r.left.toNat * (n + 1) + k) ((r.right.getD i ⟨true, 0⟩).n.toNat * (n + 1) + j) else F
def e2 (S : Nat → Nat → Bool) (n : Nat) (r : Rule) (k i : Nat) (F : Nat → Nat → Bool) (jm : Nat) : Nat → Nat → Bool := (List.range jm).foldl (e1 S n r k i) F
def e3 (S : Nat → Nat → Bool) (n : Nat) (r : Rule) (k : Nat) (F : Nat → Nat → Bool) (im : Nat) : Nat → Nat → Bool := (List.range im).foldl (fun F i => if (r.right.getD i ⟨true, 0⟩).term then F else e2 S n r k i F (k + 1)) F
def e4 (S : Nat → Nat → Bool) (n : Nat) (r : Rule) (F : Nat → Nat → Bool) (km : Nat) : Nat → Nat → Bool := (List.range km).foldl (fun F k => e3 S n r k F r.right.length) F
section
variable {S : Nat → Nat → Bool} {n : Nat} {u v : Nat}
end
/-- a pass over the table of lengths -/
def p1 (r : Rule) (st : (Nat → Nat → Bool) × Bool) (k : Nat) : (Nat → Nat → Bool) × Bool := if (!st.1 r.left.toNat k && canK st.1 r.right k) = true then (updB st.1 r.left.toNat k, true) else st
def p2 (n : Nat) (st : (Nat → Nat → Bool) × Bool) (r : Rule) : (Nat → Nat → Bool) × Bool := (List.range (n + 1)).foldl (p1 r) st
def p3 (n : Nat) (l : List Rule) (S : Nat → Nat → Bool) : (Nat → Nat → Bool) × Bool := l.foldl (p2 n) (S, false)
end Cs
end Go.Proofs.Ytclpmmbclgihbaa
namespace Go.Proofs.Ytclpmmbclgihbaa
open Go.RowKit
namespace Cs

/-- all lists of trees of symbols with a length together -/
def enL (S : Nat → Nat → Bool) (o : Sym → Nat → List Tree) : List Sym → Nat → List (List Tree)
  | [], k => if k = 0 then [[]] else []
  | s :: l, k => (List.range (k + 1)).flatMap fun i => if (hasK S s i && canK S l (k - i)) = true then (o s i).flatMap fun x => (enL S o l (k - i)).map (x :: ·) else []
def symE (S : Nat → Nat → Bool) (e : Nat → Nat → List Tree) (s : Sym) (k : Nat) : List Tree := if hasK S s k = false then [] else if s.term then [.node (-1) s.n []] else e s.n.toNat k
def enR (S : Nat → Nat → Bool) (o : Sym → Nat → List Tree) (A : Int) (k : Nat) : List Rule → Nat → List Tree
  | [], _ => []
  | r :: rs, j => (if r.left = A then (enL S o r.right k).map fun ks => Tree.node (j : Int) 0 ks else []) ++ enR S o A k rs (j + 1)
/-- all trees of a nonterminal of at most so many levels -/
def enF (rules : List Rule) (S : Nat → Nat → Bool) : Nat → Nat → Nat → List Tree
  | 0, _, _ => []
  | f + 1, A, k => if S A k = false then [] else enR S (symE S (enF rules S f)) (A : Int) k rules 0
/-- a node from which no circle is reached, in so many steps -/
def Gd (M T : Nat → Nat → Bool) (N n size f A k : Nat) : Prop := A < N ∧ k ≤ n ∧ M A k = false ∧ reachN T size (A * (n + 1) + k) < f
theorem Fine.mono {S : Nat → Nat → Bool} {G G' : Nat → Nat → Prop} {l : List Sym} {k : Nat} (h : Fine S G l k) (hg : ∀ A i, G A i → G' A i) : Fine S G' l k := fun p s i a h1 h2 h3 h4 h5 h6 => hg _ _ (h p s i a h1 h2 h3 h4 h5 h6)
section
variable {rules : List Rule} {S M T : Nat → Nat → Bool} {N n size : Nat} {cap many : Int}
theorem Gd.mono {f f' A k : Nat} (h : Gd M T N n size f A k) (hf : f ≤ f') : Gd M T N n size f' A k := ⟨h.1, h.2.1, h.2.2.1, Nat.lt_of_lt_of_le h.2.2.2 hf⟩
/-- the trees of a nonterminal -/
def EN (rules : List Rule) (S : Nat → Nat → Bool) (size : Nat) : Nat → Nat → List Tree := enF rules S (size + 2)
end
def prodL (xs : List Tree) (ys : List (List Tree)) : List (List Tree) := xs.flatMap fun x => ys.map (x :: ·)
/-- the block of lists whose first tree has a length -/
def blk (S : Nat → Nat → Bool) (o : Sym → Nat → List Tree) (s : Sym) (l : List Sym) (k i : Nat) : List (List Tree) := if (hasK S s i && canK S l (k - i)) = true then prodL (o s i) (enL S o l (k - i)) else []
def pre (S : Nat → Nat → Bool) (o : Sym → Nat → List Tree) (s : Sym) (l : List Sym) (k m : Nat) : List (List Tree) := (List.range m).flatMap (blk S o s l k)
section
variable {rules : List Rule} {S M T : Nat → Nat → Bool} {N n size : Nat} {cap many : Int}
end
end Cs
end Go.Proofs.Ytclpmmbclgihbaa
namespace Go.Proofs.Ytclpmmbclgihbaa
open Go.RowKit
namespace Cs

section
variable {rules : List Rule} {S M T : Nat → Nat → Bool} {N n size : Nat} {cap many : Int}
end
end Cs
end Go.Proofs.Ytclpmmbclgihbaa
namespace Go.Proofs.Ytclpmmbclgihbaa
open Go.RowKit

theorem made_at (z : Value) (n j : Nat) (h : j < n) : (madeCells #[z] n)[j]? = some z := by
  simp [madeCells, h, Nat.mod_one]

/-- rows lo .. n of the table in block bt are there: row k in block rb k, of m + 1 numbers -/
structure Tab (B bt n m : Nat) (rb : Nat → Nat) (lo : Nat) (val : Nat → Nat → Int) (wr : World) : Prop where
  tb : ∃ cs, wr.heap[bt]? = some (.cells cs 22 (0, 0)) ∧ cs.size = n + 1 ∧ ∀ k, lo ≤ k → k ≤ n → cs[k]? = some (.slice (some ⟨rb k, 0, none⟩) (m + 1) (m + 1))
  row : ∀ k, lo ≤ k → k ≤ n → ∃ cs, wr.heap[rb k]? = some (.cells cs 3 (0, 0)) ∧ cs.size = m + 1 ∧ ∀ j, j ≤ m → cs[j]? = some (.int .i64 (val k j))
  inj : ∀ k k', lo ≤ k → k ≤ n → lo ≤ k' → k' ≤ n → rb k = rb k' → k = k'
  ne : ∀ k, lo ≤ k → k ≤ n → rb k ≠ bt ∧ B ≤ rb k
  bB : B ≤ bt
section
variable {B bt n m : Nat} {rb : Nat → Nat} {lo : Nat} {val : Nat → Nat → Int} {wr w' : World}
theorem Tab.keep (h : Tab B bt n m rb lo val wr) (hb : Below wr.heap.size wr w') : Tab B bt n m rb lo val w' := by
  obtain ⟨⟨cs, h1, h2, h3⟩, h4, h5, h6, h7⟩ := h
  refine ⟨⟨cs, bx_keep h1 hb, h2, h3⟩, fun k hk hn => ?_, h5, h6, h7⟩
  obtain ⟨rs, r1, r2⟩ := h4 k hk hn
  exact ⟨rs, bx_keep r1 hb, r2⟩
theorem Tab.grown {row : Option Nat} (h : Tab B bt n m rb lo val wr) (hg : wr.grownBy w' row) (hr : ∀ k, row = some k → k ≠ bt ∧ ∀ i, lo ≤ i → i ≤ n → rb i ≠ k) : Tab B bt n m rb lo val w' := by
  obtain ⟨⟨cs, h1, h2, h3⟩, h4, h5, h6, h7⟩ := h
  refine ⟨⟨cs, ?_, h2, h3⟩, fun k hk hn => ?_, h5, h6, h7⟩
  · rw [hg.block bt (Array.getElem?_eq_some_iff.1 h1).1 (fun e => (hr bt e.symm).1 rfl)]; exact h1
  · obtain ⟨rs, r1, r2⟩ := h4 k hk hn
    refine ⟨rs, ?_, r2⟩
    rw [hg.block (rb k) (Array.getElem?_eq_some_iff.1 r1).1 (fun e => (hr _ e.symm).2 k hk hn rfl)]; exact r1
theorem Tab.hdr (h : Tab B bt n m rb lo val wr) {k : Nat} (hk : lo ≤ k) (hn : k ≤ n) : wr.cell? ⟨bt, k, none⟩ = some (.slice (some ⟨rb k, 0, none⟩) (m + 1) (m + 1)) := by
  obtain ⟨cs, h1, h2, h3⟩ := h.tb
  simp [World.cell?, h1, h3 k hk hn]
theorem Tab.cell (h : Tab B bt n m rb lo val wr) {k j : Nat} (hk : lo ≤ k) (hn : k ≤ n) (hj : j ≤ m) : wr.cell? ⟨rb k, j, none⟩ = some (.int .i64 (val k j)) := by
  obtain ⟨cs, h1, h2, h3⟩ := h.row k hk hn
  simp [World.cell?, h1, h3 j hj]
theorem Tab.free (h : Tab B bt n m rb lo val wr) {k : Nat} (hk : lo ≤ k) (hn : k ≤ n) (j : Nat) : wr.frozen? ⟨rb k, j, none⟩ = false := by
  obtain ⟨cs, h1, h2, h3⟩ := h.row k hk hn
  simp [World.frozen?, h1]
theorem Tab.lt (h : Tab B bt n m rb lo val wr) : bt < wr.heap.size := by
  obtain ⟨cs, h1, _⟩ := h.tb
  exact (Array.getElem?_eq_some_iff.1 h1).1
theorem Tab.rlt (h : Tab B bt n m rb lo val wr) {k : Nat} (hk : lo ≤ k) (hn : k ≤ n) : rb k < wr.heap.size := by
  obtain ⟨cs, h1, _⟩ := h.row k hk hn
  exact (Array.getElem?_eq_some_iff.1 h1).1
/-- a number stored -/
theorem Tab.set (h : Tab B bt n m rb lo val wr) {i j : Nat} (hi : lo ≤ i) (hin : i ≤ n) (hj : j ≤ m) (x : Int) : Tab B bt n m rb lo (fun k l => if k = i ∧ l = j then x else val k l) (wr.setCell ⟨rb i, j, none⟩ (.int .i64 x)) := by
  obtain ⟨⟨cs, h1, h2, h3⟩, h4, h5, h6, h7⟩ := h
  refine ⟨⟨cs, bx_other h1 (fun e => (h6 i hi hin).1 e.symm) _ _, h2, h3⟩, fun k hk hn => ?_, h5, h6, h7⟩
  obtain ⟨rs, r1, r2, r3⟩ := h4 k hk hn
  by_cases e : k = i
  · subst e
    refine ⟨rs.setIfInBounds j (.int .i64 x), bx_set r1 _ _, by simpa using r2, fun l hl => ?_⟩
    rw [Array.getElem?_setIfInBounds]
    by_cases e2 : j = l
    · subst e2
      rw [if_pos rfl, if_pos (by omega)]; simp
    · rw [if_neg e2, r3 l hl]
      simp [show ¬ l = j from fun h => e2 h.symm]
  · refine ⟨rs, bx_other r1 (fun e2 => e (h5 k i hk hn hi hin e2)) _ _, r2, fun l hl => ?_⟩
    rw [r3 l hl]; simp [e]
/-- a new row: laid, and its header stored -/
theorem Tab.add {i : Nat} (h : Tab B bt n m rb (i + 1) val wr) (hi : i ≤ n) (hB : B ≤ wr.heap.size) :
    Tab B bt n m (fun k => if k = i then wr.heap.size else rb k) i (fun k l => if k = i then 0 else val k l) ((wr.alloc (.cells (madeCells #[.int .i64 0] (m + 1)) 3)).setCell ⟨bt, i, none⟩ (.slice (some ⟨wr.heap.size, 0, none⟩) (m + 1) (m + 1))) := by
  have hbt := h.lt
  have hrl := fun k hk hn => h.rlt (k := k) hk hn
  obtain ⟨⟨cs, h1, h2, h3⟩, h4, h5, h6, h7⟩ := h
  have hba : Below wr.heap.size wr (wr.alloc (.cells (madeCells #[.int .i64 0] (m + 1)) 3)) := (Below.refl _ _).alloc (Nat.le_refl _) _
  refine ⟨⟨cs.setIfInBounds i (.slice (some ⟨wr.heap.size, 0, none⟩) (m + 1) (m + 1)), bx_set (bx_keep h1 hba) _ _, by simpa using h2, fun k hk hn => ?_⟩, fun k hk hn => ?_, fun k k' hk hn hk' hn' e => ?_, fun k hk hn => ?_, h7⟩
  · rw [Array.getElem?_setIfInBounds]
    by_cases e : i = k
    · subst e
      rw [if_pos rfl, if_pos (by omega)]; simp
    · rw [if_neg e, h3 k (by omega) hn]
      simp [show ¬ k = i from fun h => e h.symm]
  · by_cases e : k = i
    · subst e
      refine ⟨madeCells #[.int .i64 0] (m + 1), ?_, size_madeCells _ _, fun j hj => ?_⟩
      · simp only [if_true]
        exact bx_other (bx_new _ _ _ rfl) (by omega) _ _
      · rw [made_at _ _ _ (by omega)]; simp
    · obtain ⟨rs, r1, r2, r3⟩ := h4 k (by omega) hn
      refine ⟨rs, ?_, r2, fun j hj => by rw [r3 j hj]; simp [e]⟩
      simp only [e, if_false]
      exact bx_other (bx_keep r1 hba) (h6 k (by omega) hn).1 _ _
  · by_cases e1 : k = i <;> by_cases e2 : k' = i <;> simp only [e1, e2, if_true, if_false] at e ⊢
    · have := hrl k' (by omega) hn'; omega
    · have := hrl k (by omega) hn; omega
    · exact h5 k k' (by omega) hn (by omega) hn' e
  · by_cases e : k = i
    · subst e; simp only [if_true]; omega
    · simp only [e, if_false]; exact h6 k (by omega) hn
theorem Tab.eq {val' : Nat → Nat → Int} (h : Tab B bt n m rb lo val wr) (he : ∀ k j, lo ≤ k → k ≤ n → j ≤ m → val k j = val' k j) : Tab B bt n m rb lo val' wr := by
  obtain ⟨h1, h4, h5, h6, h7⟩ := h
  refine ⟨h1, fun k hk hn => ?_, h5, h6, h7⟩
  obtain ⟨rs, r1, r2, r3⟩ := h4 k hk hn
  exact ⟨rs, r1, r2, fun j hj => by rw [r3 j hj, he k j hk hn hj]⟩
end
end Go.Proofs.Ytclpmmbclgihbaa
namespace Go.Proofs.Ytclpmmbclgihbaa
open Go.RowKit
namespace Cs

/-- a table of N rows of M one-cell values; all of it in blocks from lo on, below hi -/
structure Tb (te : TypeId) (lo hi bt N M : Nat) (rb : Nat → Nat) (val : Nat → Nat → Value) (W : World) : Prop where
  hdr : ∃ cs T, W.heap[bt]? = some (.cells cs T (0, 0)) ∧ ∀ a, a < N → cs[a]? = some (.slice (some ⟨rb a, 0, none⟩) M M)
  row : ∀ a, a < N → ∃ cs, W.heap[rb a]? = some (.cells cs te (0, 0)) ∧ cs.size = M ∧ ∀ k, k < M → cs[k]? = some (val a k)
  inj : ∀ a b, a < N → b < N → rb a = rb b → a = b
  ne : ∀ a, a < N → rb a ≠ bt ∧ lo ≤ rb a ∧ rb a < hi
  pl : lo ≤ bt ∧ bt < hi
section
variable {te : TypeId} {lo hi bt N M : Nat} {rb : Nat → Nat} {val : Nat → Nat → Value} {W W' : World}
theorem Tb.other (h : Tb te lo hi bt N M rb val W) (hs : ∀ k, lo ≤ k → k < hi → W'.heap[k]? = W.heap[k]?) : Tb te lo hi bt N M rb val W' := by
  obtain ⟨⟨cs, T, h1, h2⟩, h3, h4, h5, h6⟩ := h
  refine ⟨⟨cs, T, by rw [hs bt h6.1 h6.2]; exact h1, h2⟩, fun a ha => ?_, h4, h5, h6⟩
  obtain ⟨rs, r1, r2⟩ := h3 a ha
  exact ⟨rs, by rw [hs _ (h5 a ha).2.1 (h5 a ha).2.2]; exact r1, r2⟩
theorem Tb.keep (h : Tb te lo hi bt N M rb val W) (hh : hi ≤ W.heap.size) (hb : Below W.heap.size W W') : Tb te lo hi bt N M rb val W' := h.other fun k _ h2 => hb.block k (by omega)
theorem Tb.head (h : Tb te lo hi bt N M rb val W) {a : Nat} (ha : a < N) : W.cell? ⟨bt, a, none⟩ = some (.slice (some ⟨rb a, 0, none⟩) M M) := by
  obtain ⟨cs, T, h1, h2⟩ := h.hdr
  simp [World.cell?, h1, h2 a ha]
theorem Tb.cell (h : Tb te lo hi bt N M rb val W) {a k : Nat} (ha : a < N) (hk : k < M) : W.cell? ⟨rb a, k, none⟩ = some (val a k) := by
  obtain ⟨cs, h1, h2, h3⟩ := h.row a ha
  simp [World.cell?, h1, h3 k hk]
theorem Tb.free (h : Tb te lo hi bt N M rb val W) {a : Nat} (ha : a < N) (k : Nat) : W.frozen? ⟨rb a, k, none⟩ = false := by
  obtain ⟨cs, h1, h2, h3⟩ := h.row a ha
  simp [World.frozen?, h1]
theorem Tb.set (h : Tb te lo hi bt N M rb val W) {a k : Nat} (ha : a < N) (hk : k < M) (x : Value) : Tb te lo hi bt N M rb (fun b l => if b = a ∧ l = k then x else val b l) (W.setCell ⟨rb a, k, none⟩ x) := by
  obtain ⟨⟨cs, T, h1, h2⟩, h3, h4, h5, h6⟩ := h
  refine ⟨⟨cs, T, bx_other h1 (fun e => (h5 a ha).1 e.symm) _ _, h2⟩, fun b hb => ?_, h4, h5, h6⟩
  obtain ⟨rs, r1, r2, r3⟩ := h3 b hb
  by_cases e : b = a
  · subst e
    refine ⟨rs.setIfInBounds k x, bx_set r1 _ _, by simpa using r2, fun l hl => ?_⟩
    rw [Array.getElem?_setIfInBounds]
    by_cases e2 : k = l
    · subst e2
      rw [if_pos rfl, if_pos (by omega)]; simp
    · rw [if_neg e2, r3 l hl]
      simp [show ¬ l = k from fun h => e2 h.symm]
  · refine ⟨rs, bx_other r1 (fun e2 => e (h4 b a hb ha e2)) _ _, r2, fun l hl => ?_⟩
    rw [r3 l hl]; simp [e]
theorem Tb.eq {val' : Nat → Nat → Value} (h : Tb te lo hi bt N M rb val W) (he : ∀ a k, a < N → k < M → val a k = val' a k) : Tb te lo hi bt N M rb val' W := by
  obtain ⟨h1, h3, h4, h5, h6⟩ := h
  refine ⟨h1, fun a ha => ?_, h4, h5, h6⟩
  obtain ⟨rs, r1, r2, r3⟩ := h3 a ha
  exact ⟨rs, r1, r2, fun k hk => by rw [r3 k hk, he a k ha hk]⟩
end
/-- while it is made: the rows so far, their headers in a row of the call's own -/
structure TbI (te tr : TypeId) (B M : Nat) (x : Value) (L : List Nat) (v : Value) (W : World) : Prop where
  own : W.ownsRow B tr 1 v L.length (L.map fun b => .slice (some ⟨b, 0, none⟩) M M)
  rows : ∀ b ∈ L, B ≤ b ∧ b < W.heap.size ∧ v.ownBlock ≠ some b ∧ ∃ cs, W.heap[b]? = some (.cells cs te (0, 0)) ∧ cs.size = M ∧ ∀ k, k < M → cs[k]? = some x
  nd : L.Nodup
  le : B ≤ W.heap.size
section
variable {te tr : TypeId} {B M : Nat} {x : Value} {L : List Nat} {v : Value} {W W' : World}
theorem TbI.nil (te tr : TypeId) (B M : Nat) (x : Value) (W : World) (h : B ≤ W.heap.size) : TbI te tr B M x [] (.slice none 0 0) W := ⟨World.ownsRow_nil _ _ _ _, (fun b hb => by cases hb), List.nodup_nil, h⟩
theorem TbI.keep (h : TbI te tr B M x L v W) (hb : Below W.heap.size W W') : TbI te tr B M x L v W' := by
  obtain ⟨h1, h2, h3, h4⟩ := h
  refine ⟨own_keep h1 hb, fun b hb' => ?_, h3, Nat.le_trans h4 hb.size⟩
  obtain ⟨k1, k2, k3, cs, k4, k5⟩ := h2 b hb'
  exact ⟨k1, Nat.lt_of_lt_of_le k2 hb.size, k3, cs, bx_keep k4 hb, k5⟩
/-- a row is added: it was laid in block g, filled -/
theorem TbI.add {g : Nat} {v' : Value} {cs : Array Value} (h : TbI te tr B M x L v W) (hg : W.heap[g]? = some (.cells cs te (0, 0))) (hc : cs.size = M) (hx : ∀ k, k < M → cs[k]? = some x) (hgB : B ≤ g) (hgv : v.ownBlock ≠ some g) (hgL : g ∉ L)
    (ho : W'.ownsRow B tr 1 v' (L.length + 1) ((L.map fun b => .slice (some ⟨b, 0, none⟩) M M) ++ [.slice (some ⟨g, 0, none⟩) M M])) (hgr : W.grownBy W' v.ownBlock) (hat : v'.ownBlock = v.ownBlock ∨ ∃ k, v'.ownBlock = some k ∧ W.heap.size ≤ k) : TbI te tr B M x (L ++ [g]) v' W' := by
  obtain ⟨h1, h2, h3, h4⟩ := h
  have hv' : ∀ b, b < W.heap.size → v.ownBlock ≠ some b → v'.ownBlock ≠ some b := by
    intro b hb hv
    rcases hat with e | ⟨j, e, hj⟩
    · rw [e]; exact hv
    · rw [e]; intro e; cases e; omega
  have hgl := (Array.getElem?_eq_some_iff.1 hg).1
  refine ⟨by rw [List.length_append, List.map_append]; exact ho, fun b hb => ?_, ?_, Nat.le_trans h4 hgr.size⟩
  · rcases List.mem_append.1 hb with hb | hb
    · obtain ⟨k1, k2, k3, cs', k4, k5⟩ := h2 b hb
      exact ⟨k1, Nat.lt_of_lt_of_le k2 hgr.size, hv' b k2 k3, cs', (hgr.block b k2 (fun e => k3 e.symm)).trans k4, k5⟩
    · rw [List.mem_singleton] at hb
      subst hb
      exact ⟨hgB, Nat.lt_of_lt_of_le hgl hgr.size, hv' b hgl hgv, cs, (hgr.block b hgl (fun e => hgv e.symm)).trans hg, hc, hx⟩
  · rw [List.nodup_append]
    exact ⟨h3, by simp, fun a ha b hb => by rw [List.mem_singleton] at hb; subst hb; exact fun e => hgL (e ▸ ha)⟩
theorem TbI.fin (h : TbI te tr B M x L v W) (h0 : 0 < L.length) : ∃ bt cap, v = .slice (some ⟨bt, 0, none⟩) L.length cap ∧ ∃ rb, Tb te B W.heap.size bt L.length M rb (fun _ _ => x) W := by
  obtain ⟨h1, h2, h3, h4⟩ := h
  obtain ⟨g, cap, rfl, hg1, hg2⟩ := h1.form h0
  refine ⟨g, cap, rfl, fun a => L.getD a 0, ?_⟩
  have hget : ∀ a, a < L.length → L.getD a 0 ∈ L ∧ L[a]? = some (L.getD a 0) := fun a ha => by
    rw [List.getD_eq_getElem?_getD, List.getElem?_eq_getElem ha]
    exact ⟨List.getElem_mem ha, rfl⟩
  refine ⟨?_, fun a ha => ?_, fun a b ha hb e => ?_, fun a ha => ?_, hg1, hg2⟩
  · rcases h1.2 with ⟨h', _⟩ | ⟨g', cap', cur, h', _, hh, _, _, _, htake⟩
    · cases h'
    · cases h'
      refine ⟨cur, tr, hh, fun a ha => ?_⟩
      have e : (L.map fun b => Value.slice (some ⟨b, 0, none⟩) M M)[a]? = some (.slice (some ⟨L.getD a 0, 0, none⟩) M M) := by
        rw [List.getElem?_map, (hget a ha).2]; rfl
      rw [← htake, List.getElem?_take, if_pos (by omega)] at e
      simpa using e
  · obtain ⟨_, _, _, cs, k4, k5, k6⟩ := h2 _ (hget a ha).1
    exact ⟨cs, k4, k5, k6⟩
  · exact (List.getElem?_inj ha h3).1 (by rw [(hget a ha).2, (hget b hb).2, e])
  · obtain ⟨k1, k2, k3, _⟩ := h2 _ (hget a ha).1
    exact ⟨fun e => k3 (by rw [e]; rfl), k1, k2⟩
end
end Cs
end Go.Proofs.Ytclpmmbclgihbaa
namespace Go.Proofs.Ytclpmmbclgihbaa
open Go.RowKit

mutual
theorem size_mono : ∀ (t : Tree), ∀ k ∈ t.kids, k.size < t.size
  | .node r tm ks => by
    intro k hk
    have := sizeL_mem ks k hk
    simp [Tree.size]; omega
theorem sizeL_mem : ∀ (ks : List Tree), ∀ k ∈ ks, k.size ≤ sizeL ks
  | [], k, h => by simp at h
  | x :: ks, k, h => by
    rcases List.mem_cons.1 h with rfl | h
    · simp [sizeL]
    · have := sizeL_mem ks k h; simp [sizeL]; omega
end
end Go.Proofs.Ytclpmmbclgihbaa
namespace Go.Proofs.Ytclpmmbclgihbaa
open Go.RowKit

def putT : Tree → List Int → Tree → Tree
  | _, [], s => s
  | t, i :: p, s => .node t.rule t.term (t.kids.mapIdx fun j k => if (j : Int) = i then putT k p s else k)
end Go.Proofs.Ytclpmmbclgihbaa
namespace Go.Proofs.Ytclpmmbclgihbaa

def rootS (g : Gram) (t : Tree) : Sym := if t.rule < 0 then ⟨true, t.term⟩ else match g.rules[t.rule.toNat]? with | some r => ⟨false, r.left⟩ | none => ⟨true, t.term⟩
def kidOk (g : Gram) (k : Tree) (s : Sym) : Bool := decide (-1 ≤ k.rule) && (decide (k.rule < g.rules.length) && decide (rootS g k = s))
def kidsOk (g : Gram) (ks : List Tree) (l : List Sym) : Bool := decide (ks.length = l.length) && (List.zip ks l).all fun x => kidOk g x.1 x.2
def nodeOk (g : Gram) (t : Tree) : Bool :=
  if t.rule = -1 then decide (0 ≤ t.term) && (decide (t.term < g.terms) && decide (t.kids.length = 0))
  else if t.rule < 0 then false else match g.rules[t.rule.toNat]? with
    | none => false
    | some r => decide (t.term = 0) && kidsOk g t.kids r.right
mutual
theorem kid_node : ∀ (t x k : Tree), x ∈ nodes t → x.rule ≠ -1 → k ∈ x.kids → k ∈ nodes t
  | .node r tm ks, x, k, hx, hr, hk => by
    rw [nodes] at hx ⊢
    rcases List.mem_cons.1 hx with rfl | hx
    · simp only [Tree.rule, Tree.kids] at hr hk
      rw [if_neg hr]
      exact List.mem_cons_of_mem _ (kid_mem ks k hk)
    · by_cases h : r = -1
      · rw [if_pos h] at hx; simp at hx
      · rw [if_neg h] at hx ⊢
        exact List.mem_cons_of_mem _ (kid_nodeL ks x k hx hr hk)
theorem kid_nodeL : ∀ (ks : List Tree) (x k : Tree), x ∈ nodesL ks → x.rule ≠ -1 → k ∈ x.kids → k ∈ nodesL ks
  | [], x, k, hx, _, _ => by simp [nodesL] at hx
  | y :: ks, x, k, hx, hr, hk => by
    rw [nodesL] at hx ⊢
    rcases List.mem_append.1 hx with h | h
    · exact List.mem_append_left _ (kid_node y x k h hr hk)
    · exact List.mem_append_right _ (kid_nodeL ks x k h hr hk)
theorem kid_mem : ∀ (ks : List Tree) (k : Tree), k ∈ ks → k ∈ nodesL ks
  | [], k, h => by simp at h
  | y :: ks, k, h => by
    rw [nodesL]
    rcases List.mem_cons.1 h with rfl | h
    · refine List.mem_append_left _ ?_
      rw [nodes_eq]; exact List.mem_cons_self
    · exact List.mem_append_right _ (kid_mem ks k h)
end

end Go.Proofs.Ytclpmmbclgihbaa
namespace Go.Proofs.Ytclpmmbclgihbaa
open Go.RowKit

mutual
/-- all subtrees in preorder -/
def parts : Tree → List Tree
  | .node r t ks => .node r t ks :: partsL ks
def partsL : List Tree → List Tree
  | [] => []
  | k :: ks => parts k ++ partsL ks
end
mutual
/-- their paths -/
def aps : Tree → List (List Int)
  | .node _ _ ks => [] :: apsL 0 ks
def apsL : Nat → List Tree → List (List Int)
  | _, [] => []
  | n, k :: ks => (aps k).map (fun p => (n : Int) :: p) ++ apsL (n + 1) ks
end
mutual
/-- the subtree with the number n replaced -/
def chg : Tree → Int → Tree → Tree × Int
  | .node r t ks, n, b => if n = 0 then (b, -1) else (.node r t (chgL ks (n - 1) b).1, (chgL ks (n - 1) b).2)
def chgL : List Tree → Int → Tree → List Tree × Int
  | [], n, _ => ([], n)
  | k :: ks, n, b => if 0 ≤ n then ((chg k n b).1 :: (chgL ks (chg k n b).2 b).1, (chgL ks (chg k n b).2 b).2) else (k :: (chgL ks n b).1, (chgL ks n b).2)
end
mutual
/-- leaves have no kids, and all rules are there -/
def good (g : Gram) : Tree → Prop
  | .node r _ ks => (r = -1 → ks = []) ∧ -1 ≤ r ∧ r < g.rules.length ∧ goodL g ks
def goodL (g : Gram) : List Tree → Prop
  | [] => True
  | k :: ks => good g k ∧ goodL g ks
end

mutual
theorem parts_len : ∀ t : Tree, (parts t).length = t.size
  | .node r tm ks => by simp [parts, Tree.size, partsL_len ks]
theorem partsL_len : ∀ ks : List Tree, (partsL ks).length = sizeL ks
  | [] => by simp [partsL, sizeL]
  | k :: ks => by simp [partsL, sizeL, parts_len k, partsL_len ks]
end
mutual
theorem aps_len : ∀ t : Tree, (aps t).length = t.size
  | .node r tm ks => by simp [aps, Tree.size, apsL_len ks]
theorem apsL_len : ∀ (ks : List Tree) (n : Nat), (apsL n ks).length = sizeL ks
  | [], n => by simp [apsL, sizeL]
  | k :: ks, n => by simp [apsL, sizeL, aps_len k, apsL_len ks]
end
mutual
theorem ap_le : ∀ (t : Tree), ∀ p ∈ aps t, p.length < t.size
  | .node r tm ks => by
    rw [aps, Tree.size]
    intro p hp
    rcases List.mem_cons.1 hp with rfl | hp
    · simp
    · have := apL_le ks 0 p hp; omega
theorem apL_le : ∀ (ks : List Tree) (n : Nat), ∀ p ∈ apsL n ks, p.length ≤ sizeL ks
  | [], n => by simp [apsL]
  | k :: ks, n => by
    rw [apsL, sizeL]
    intro p hp
    rw [List.mem_append] at hp
    rcases hp with hp | hp
    · rw [List.mem_map] at hp
      obtain ⟨q, hq, rfl⟩ := hp
      have := ap_le k q hq
      simp; omega
    · have := apL_le ks (n + 1) p hp; omega
end
mutual
theorem part_size : ∀ (t : Tree), ∀ y ∈ parts t, y.size ≤ t.size
  | .node r tm ks => by
    rw [parts]
    intro y hy
    rcases List.mem_cons.1 hy with rfl | hy
    · exact Nat.le_refl _
    · have := partL_size ks y hy; rw [Tree.size]; omega
theorem partL_size : ∀ (ks : List Tree), ∀ y ∈ partsL ks, y.size ≤ sizeL ks
  | [] => by simp [partsL]
  | k :: ks => by
    rw [partsL, sizeL]
    intro y hy
    rcases List.mem_append.1 hy with hy | hy
    · have := part_size k y hy; omega
    · have := partL_size ks y hy; omega
end
mutual
theorem good_part {g : Gram} : ∀ (t : Tree), good g t → ∀ y ∈ parts t, good g y
  | .node r tm ks, h => by
    rw [parts]
    intro y hy
    rcases List.mem_cons.1 hy with rfl | hy
    · exact h
    · rw [good] at h; exact goodL_part ks h.2.2.2 y hy
theorem goodL_part {g : Gram} : ∀ (ks : List Tree), goodL g ks → ∀ y ∈ partsL ks, good g y
  | [], _ => by simp [partsL]
  | k :: ks, h => by
    rw [partsL]
    rw [goodL] at h
    intro y hy
    rcases List.mem_append.1 hy with hy | hy
    · exact good_part k h.1 y hy
    · exact goodL_part ks h.2 y hy
end
mutual
theorem nodes_parts {g : Gram} : ∀ (t : Tree), good g t → nodes t = parts t
  | .node r tm ks, h => by
    rw [good] at h
    rw [nodes, parts]
    by_cases hr : r = -1
    · rw [if_pos hr, h.1 hr, partsL]
    · rw [if_neg hr, nodesL_parts ks h.2.2.2]
theorem nodesL_parts {g : Gram} : ∀ (ks : List Tree), goodL g ks → nodesL ks = partsL ks
  | [], _ => by simp [nodesL, partsL]
  | k :: ks, h => by
    rw [goodL] at h
    rw [nodesL, partsL, nodes_parts k h.1, nodesL_parts ks h.2]
end
mutual
theorem good_of {g : Gram} : ∀ (t : Tree), (nodes t).all (nodeOk g) = true → good g t
  | .node r tm ks, h => by
    rw [nodes, List.all_cons, Bool.and_eq_true] at h
    obtain ⟨h1, h2⟩ := h
    rw [good]
    by_cases hr : r = -1
    · have hk : ks = [] := by
        simp [nodeOk, Tree.rule, Tree.kids, hr] at h1
        exact h1.2.2
      subst hk
      exact ⟨fun _ => rfl, by omega, by omega, trivial⟩
    · rw [if_neg hr] at h2
      refine ⟨fun e => absurd e hr, ?_, ?_, goodL_of ks h2⟩
      · by_cases h0 : r < 0
        · simp [nodeOk, Tree.rule, hr, h0] at h1
        · omega
      · by_cases h0 : r < 0
        · omega
        · by_cases h3 : r.toNat < g.rules.length
          · omega
          · have e : g.rules[r.toNat]? = none := List.getElem?_eq_none (by omega)
            simp [nodeOk, Tree.rule, hr, h0, e] at h1
theorem goodL_of {g : Gram} : ∀ (ks : List Tree), (nodesL ks).all (nodeOk g) = true → goodL g ks
  | [], _ => trivial
  | k :: ks, h => by
    rw [nodesL, List.all_append, Bool.and_eq_true] at h
    exact ⟨good_of k h.1, goodL_of ks h.2⟩
end

theorem chgL_done : ∀ (ks : List Tree) (b : Tree), chgL ks (-1) b = (ks, -1)
  | [], b => by simp [chgL]
  | k :: ks, b => by rw [chgL, if_neg (by omega), chgL_done ks b]
mutual
theorem chg_past : ∀ (t : Tree) (n : Nat) (b : Tree), t.size ≤ n → chg t n b = (t, (n : Int) - t.size)
  | .node r tm ks, n, b, h => by
    rw [Tree.size] at h
    have h1 := chgL_past ks (n - 1) b (by omega)
    rw [show ((n - 1 : Nat) : Int) = (n : Int) - 1 by omega] at h1
    rw [chg, if_neg (by omega), h1, Tree.size]
    simp; omega
theorem chgL_past : ∀ (ks : List Tree) (n : Nat) (b : Tree), sizeL ks ≤ n → chgL ks n b = (ks, (n : Int) - sizeL ks)
  | [], n, b, h => by simp [chgL, sizeL]
  | k :: ks, n, b, h => by
    rw [sizeL] at h
    have h1 := chg_past k n b (by omega)
    have h2 := chgL_past ks (n - k.size) b (by omega)
    rw [show ((n - k.size : Nat) : Int) = (n : Int) - k.size by omega] at h2
    rw [chgL, if_pos (by omega), h1, h2, sizeL]
    simp; omega
end
theorem mapIdx_if {ks : List Tree} (j : Nat) (f : Tree → Tree) : (ks.mapIdx fun m k => if (m : Int) = (j : Int) then f k else k) = ks.modify j f := by
  refine List.ext_getElem (by simp) fun i h1 h2 => ?_
  simp only [List.getElem_mapIdx, List.getElem_modify]
  by_cases e : j = i
  · rw [if_pos (by omega), if_pos e]
  · rw [if_neg (by omega), if_neg e]
theorem putT_modify (t : Tree) (j : Nat) (p : List Int) (b : Tree) : putT t ((j : Int) :: p) b = .node t.rule t.term (t.kids.modify j fun k => putT k p b) := by
  rw [putT, mapIdx_if j fun k => putT k p b]
mutual
/-- the n-th path replaced is the n-th part changed -/
theorem chg_put : ∀ (t : Tree) (n : Nat) (b : Tree) (h : n < (aps t).length), chg t n b = (putT t (aps t)[n] b, -1)
  | .node r tm ks, n, b, h => by
    cases n with
    | zero => simp [chg, aps, putT]
    | succ n =>
      have hn : n < (apsL 0 ks).length := by simpa [aps] using h
      obtain ⟨j, p, e1, e2, e3⟩ := chgL_put ks 0 n b hn
      rw [chg, if_neg (by omega)]
      rw [show ((n + 1 : Nat) : Int) - 1 = (n : Int) by omega, e3]
      have e4 : (aps (.node r tm ks))[n + 1] = (apsL 0 ks)[n] := by simp [aps]
      rw [e4, e1, Nat.zero_add, putT_modify]
      rfl
theorem chgL_put : ∀ (ks : List Tree) (m n : Nat) (b : Tree) (h : n < (apsL m ks).length), ∃ j p, (apsL m ks)[n] = ((m + j : Nat) : Int) :: p ∧ j < ks.length ∧ chgL ks n b = (ks.modify j (fun k => putT k p b), -1)
  | [], m, n, b, h => by simp [apsL] at h
  | k :: ks, m, n, b, h => by
    by_cases hn : n < (aps k).length
    · refine ⟨0, (aps k)[n], ?_, by simp, ?_⟩
      · simp only [apsL]
        rw [List.getElem_append_left (by simpa using hn)]; simp
      · rw [chgL, if_pos (by omega), chg_put k n b hn, chgL_done]
        simp
    · have hl := h
      simp only [apsL, List.length_append, List.length_map] at hl
      have hs : k.size ≤ n := by rw [← aps_len]; omega
      obtain ⟨j, p, e1, e2, e3⟩ := chgL_put ks (m + 1) (n - k.size) b (by rw [aps_len] at hl; omega)
      refine ⟨j + 1, p, ?_, by simpa using e2, ?_⟩
      · simp only [apsL]
        rw [List.getElem_append_right (by simp; omega)]
        simp only [List.length_map, aps_len]
        rw [e1, show m + 1 + j = m + (j + 1) by omega]
      · rw [chgL, if_pos (by omega), chg_past k n b hs]
        simp only
        rw [show (n : Int) - k.size = ((n - k.size : Nat) : Int) by omega, e3]
        simp
end

def leftOf (g : Gram) (t : Tree) : Option Int := (g.rules[t.rule.toNat]?).map (·.left)
def smallR1 (g : Gram) (t : Tree) (n : Nat) (x y : Tree) : List Tree := if 0 ≤ y.rule ∧ leftOf g y = leftOf g x then [(chg t n y).1] else []
def smallR (g : Gram) (t : Tree) (n : Nat) (x : Tree) : List Tree := if x.rule < 0 then [] else ((parts x).drop 1).flatMap (smallR1 g t n x)
def smallerR (g : Gram) (t : Tree) : List Tree := (parts t).zipIdx.flatMap fun z => smallR g t z.2 z.1

def least (g : Gram) (F : Tree → Bool) : Nat → Tree → Tree
  | 0, t => t
  | m + 1, t => match (smallerR g t).find? F with
    | some v => least g F m v
    | none => t
end Go.Proofs.Ytclpmmbclgihbaa
namespace Go.Proofs.Ytclpmmbclgihbaa
open Go.RowKit

end Go.Proofs.Ytclpmmbclgihbaa
namespace Go.Proofs.Ytclpmmbclgihbaa
open Go.RowKit

end Go.Proofs.Ytclpmmbclgihbaa
namespace Go.Proofs.Ytclpmmbclgihbaa
open Go.RowKit

end Go.Proofs.Ytclpmmbclgihbaa
namespace Go.Proofs.Ytclpmmbclgihbaa
open Go.RowKit

/-- the rest of a slice of data without its first -/
theorem Rd.tail {S : Nat → Prop} {w : World} {ds : List D} {b off n cap k : Nat} (h : Rd S w (.sl ds) [.slice (some ⟨b, off, none⟩) n cap]) (hk : ∀ d ∈ ds, d.cells = k) (hn : 1 ≤ n) :
    Rd S w (.sl (ds.drop 1)) [.slice (some ⟨b, if cap = 1 then off else off + k, none⟩) (n - 1) (cap - 1)] := by
  obtain ⟨a', cap', L, e, h1, h2, h3, h4, h5⟩ := h
  simp at e
  obtain ⟨rfl, rfl, rfl⟩ := e
  cases ds with
  | nil => simp at hn
  | cons d ds =>
    obtain ⟨c1, c2, rfl, h6, h7⟩ := h5
    have hl : c1.length = k := by rw [Rd.len d c1 h6]; exact hk d List.mem_cons_self
    simp only [List.drop_succ_cons, List.drop_zero, List.length_cons] at *
    refine ⟨_, cap - 1, c2, rfl, by omega, by omega, (fun h => by cases h), fun i hi => ⟨_, rfl, ?_, ?_⟩, h7⟩
    · obtain ⟨x, hx, hS, _⟩ := h4 (c1.length + i) (by simp; omega)
      cases hx
      exact hS
    · obtain ⟨x, hx, _, hc⟩ := h4 (c1.length + i) (by simp; omega)
      cases hx
      rw [add_at] at hc ⊢
      have hc1 : ¬ cap = 1 := by
        intro e
        have : ds = [] := List.eq_nil_of_length_eq_zero (by omega)
        subst this
        simp [RdAll] at h7
        subst h7
        simp at hi
      rw [if_neg hc1, Nat.add_assoc, ← hl, hc]
      simp

end Go.Proofs.Ytclpmmbclgihbaa
namespace Go.Proofs.Ytclpmmbclgihbaa
open Go.RowKit

end Go.Proofs.Ytclpmmbclgihbaa
namespace Go.Proofs.Ytclpmmbclgihbaa
open Go.RowKit

/-- the first elements of a slice -/
theorem Rd.start {S : Nat → Prop} {w : World} {ds : List D} {a : Option Addr} {n cap i : Nat} (h : Rd S w (.sl ds) [.slice a n cap]) (hi : i ≤ ds.length) : Rd S w (.sl (ds.take i)) [.slice a i cap] := by
  obtain ⟨a', cap', L, e, h1, h2, h3, h4, h5⟩ := h
  simp at e
  obtain ⟨rfl, rfl, rfl⟩ := e
  rw [← List.take_append_drop i ds] at h5
  obtain ⟨c1, c2, rfl, h6, h7⟩ := h5.split
  refine ⟨a, cap, c1, by simp; omega, by simp; omega, h2, h3, fun j hj => ?_, h6⟩
  have := h4 j (by simp; omega)
  rwa [List.getElem_append_left hj] at this

end Go.Proofs.Ytclpmmbclgihbaa
namespace Go.Proofs.Ytclpmmbclgihbaa
open Go.RowKit
namespace Cs

/-- where a counter lies -/
structure Cid where
  cb : Nat
  b1 : Nat
  b2 : Nat
  b3 : Nat
  b4 : Nat
  ts : Nat
  tm : Nat
  tc : Nat
  ks : Nat
  km : Nat
  kc : Nat
  rs : Nat → Nat
  rm : Nat → Nat
  rc : Nat → Nat
structure CI (g : Gram) (vr : Value) (N n : Nat) (d : Cid) (S M : Nat → Nat → Bool) (C : Nat → Nat → Int) (W : World) : Prop where
  box : ∃ T, W.heap[d.cb]? = some (.cells #[.int .i64 g.terms, .int .i64 g.nons, .int .i64 g.start, vr, .int .i64 (n : Int), .slice (some ⟨d.ts, 0, none⟩) N d.ks, .slice (some ⟨d.tm, 0, none⟩) N d.km, .slice (some ⟨d.tc, 0, none⟩) N d.kc] T (0, 0))
  some' : Tb 4 d.b1 d.b2 d.ts N (n + 1) d.rs (fun a k => .bool (S a k)) W
  many : Tb 4 d.b2 d.b3 d.tm N (n + 1) d.rm (fun a k => .bool (M a k)) W
  cnt : Tb 3 d.b3 d.b4 d.tc N (n + 1) d.rc (fun a k => .int .i64 (C a k)) W
  le : d.b4 ≤ d.cb
section
variable {g : Gram} {vr : Value} {N n : Nat} {d : Cid} {S M : Nat → Nat → Bool} {C : Nat → Nat → Int} {W W' : World}
theorem CI.lt (h : CI g vr N n d S M C W) : d.cb < W.heap.size := by obtain ⟨T, h⟩ := h.box; exact (Array.getElem?_eq_some_iff.1 h).1
theorem CI.keep (h : CI g vr N n d S M C W) (hb : Below W.heap.size W W') : CI g vr N n d S M C W' := by
  have hlt := h.lt
  obtain ⟨⟨T, h1⟩, h2, h3, h4, h5⟩ := h
  have p2 := h2.pl
  have p3 := h3.pl
  have p4 := h4.pl
  exact ⟨⟨T, bx_keep h1 hb⟩, h2.keep (by omega) hb, h3.keep (by omega) hb, h4.keep (by omega) hb, h5⟩
end
/-- a symbol whose number fits -/
def okS (N : Nat) (s : Sym) : Prop := s.term = false → 0 ≤ s.n ∧ s.n.toNat < N

end Cs
end Go.Proofs.Ytclpmmbclgihbaa
namespace Go.Proofs.Ytclpmmbclgihbaa
open Go.RowKit
namespace Cs

/-- what counting leaves alone -/
structure Fr (N : Nat) (d : Cid) (W W' : World) : Prop where
  os : W'.os = W.os
  tape : W'.tape = W.tape
  output : W'.output = W.output
  size : W.heap.size ≤ W'.heap.size
  block : ∀ k, k < W.heap.size → (∀ a, a < N → d.rc a ≠ k) → W'.heap[k]? = W.heap[k]?
theorem Fr.refl (N : Nat) (d : Cid) (W : World) : Fr N d W W := ⟨rfl, rfl, rfl, Nat.le_refl _, fun _ _ _ => rfl⟩
theorem Fr.trans {N : Nat} {d : Cid} {a b c : World} (h : Fr N d a b) (k : Fr N d b c) : Fr N d a c :=
  ⟨k.os.trans h.os, k.tape.trans h.tape, k.output.trans h.output, Nat.le_trans h.size k.size, fun i hi hn => (k.block i (Nat.lt_of_lt_of_le hi h.size) hn).trans (h.block i hi hn)⟩
theorem Fr.of {N : Nat} {d : Cid} {W W' : World} (h : Below W.heap.size W W') : Fr N d W W' := ⟨h.os, h.tape, h.output, h.size, fun k hk _ => h.block k hk⟩
theorem Fr.set {N : Nat} {d : Cid} {a k : Nat} (W : World) (ha : a < N) (v : Value) : Fr N d W (W.setCell ⟨d.rc a, k, none⟩ v) :=
  ⟨rfl, rfl, rfl, by simp [World.setCell], fun j _ hn => Below.heap_setCell _ _ _ _ (fun e => hn a ha (by rw [e]))⟩
theorem Fr.below {N : Nat} {d : Cid} {W W' : World} {B : Nat} (h : Fr N d W W') (hB : B ≤ W.heap.size) (hr : ∀ a, a < N → B ≤ d.rc a) : Below B W W' :=
  ⟨h.os, h.tape, h.output, h.size, fun k hk => h.block k (Nat.lt_of_lt_of_le hk hB) (fun a ha e => by have := hr a ha; omega)⟩
theorem Fr.bx {N : Nat} {d : Cid} {W W' : World} {b : Nat} {o : Obj} (h : Fr N d W W') (hb : W.heap[b]? = some o) (hn : ∀ a, a < N → d.rc a ≠ b) : W'.heap[b]? = some o :=
  (h.block b (Array.getElem?_eq_some_iff.1 hb).1 hn).trans hb
/-- the counter between two calls -/
structure CS (g : Gram) (vr : Value) (N n : Nat) (d : Cid) (S M : Nat → Nat → Bool) (V : Nat → Nat → Int) (w0 : World) (C : Nat → Nat → Int) (W : World) : Prop where
  ci : CI g vr N n d S M C W
  cv : ∀ a k, a < N → k ≤ n → C a k = -1 ∨ C a k = V a k
  bel : Below w0.heap.size w0 W
  lo : w0.heap.size ≤ d.b1
section
variable {g : Gram} {vr : Value} {N n : Nat} {d : Cid} {S M : Nat → Nat → Bool} {V : Nat → Nat → Int} {w0 : World} {C : Nat → Nat → Int} {W W' : World}
theorem CS.keep (h : CS g vr N n d S M V w0 C W) (hb : Below W.heap.size W W') : CS g vr N n d S M V w0 C W' := ⟨h.ci.keep hb, h.cv, h.bel.trans (hb.mono h.bel.size), h.lo⟩
theorem CS.rc (h : CS g vr N n d S M V w0 C W) : ∀ a, a < N → w0.heap.size ≤ d.rc a ∧ d.rc a < d.cb := fun a ha => by
  have h1 := h.ci.cnt.ne a ha
  have h2 := h.ci.some'.pl
  have h3 := h.ci.many.pl
  have h4 := h.ci.le
  have h5 := h.lo
  omega
/-- a count is kept -/
theorem CS.store (h : CS g vr N n d S M V w0 C W) {a k : Nat} (ha : a < N) (hk : k ≤ n) : ∃ C', CS g vr N n d S M V w0 C' (W.setCell ⟨d.rc a, k, none⟩ (.int .i64 (V a k))) := by
  refine ⟨fun b l => if b = a ∧ l = k then V a k else C b l, ?_, fun b l hb hl => ?_, ?_, h.lo⟩
  · obtain ⟨⟨T, h1⟩, h2, h3, h4, h5⟩ := h.ci
    have hr := h.rc a ha
    have hne := h4.ne a ha
    have p2 := h2.pl
    have p3 := h3.pl
    refine ⟨⟨T, bx_other h1 (by omega) _ _⟩, h2.other fun j j1 j2 => Below.heap_setCell _ _ _ _ (by show j ≠ d.rc a; omega), h3.other fun j j1 j2 => Below.heap_setCell _ _ _ _ (by show j ≠ d.rc a; omega), ?_, h5⟩
    refine (h4.set ha (show k < n + 1 by omega) (.int .i64 (V a k))).eq fun b l _ _ => ?_
    show (if b = a ∧ l = k then _ else _) = _
    split <;> rfl
  · by_cases e : b = a ∧ l = k
    · rw [if_pos e, e.1, e.2]; exact .inr rfl
    · rw [if_neg e]; exact h.cv b l hb hl
  · exact h.bel.setCell (p := ⟨d.rc a, k, none⟩) (h.rc a ha).1 _
end
end Cs
end Go.Proofs.Ytclpmmbclgihbaa
namespace Go.Proofs.Ytclpmmbclgihbaa
open Go.RowKit
namespace Cs

/-- a valid grammar's rules -/
def okR (N : Nat) (g : Gram) : Prop := ∀ r ∈ g.rules, (∀ s ∈ r.right, okS N s)
end Cs
end Go.Proofs.Ytclpmmbclgihbaa
