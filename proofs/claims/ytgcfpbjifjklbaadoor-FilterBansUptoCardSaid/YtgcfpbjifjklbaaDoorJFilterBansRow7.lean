/- filter.Levels. Plain: the words of a nonterminal. Plain: which parts of a word a nonterminal derives, by bits (core.Ends). Plain: the lowest bit of a number. math/bits.TrailingZeros32 at a table that lies. A still head by the quiet steps. core.Reach. Plain and memory: what core.Ends keeps. slices.Contains at bans; filter.rejected. -/
import Derived.Test.YtgcfpbjifjklbaaDoorJFilterBansRow5
import Derived.Test.YtgcfpbjifjklbaaDoorJFilterBansRow6
import Derived.Test.YtgcfpbjifjklbaaDoorJFilterBansRow3
import Derived.Test.YtgcfpbjifjklbaaDoorJFilterBansRow2
import Derived.Test.YtgcfpbjifjklbaaDoorJFilterBansRow1
import Derived.Deep.CutBlock
import Derived.Deep.CutRange
import Derived.Lib.TrailingZeros
import Derived.Laws.BitsAllLaws
import Derived.Shelf.Spec.TrailingZeros
import Derived.BigQuiet
import Derived.StillTailTactics
import Derived.Deep.LoopGhost
import Derived.Test.YtgcfpbjifjklbaaDoorJFilterBansRow4
namespace Go.Proofs.YtgcfpbjifjklbaaDoor
open Go.RowKit
namespace Fb
def errL (g : Gram) (l : List Level) : Int := if checkG g ≠ 0 then checkG g else if levF g l ≠ 0 then levF g l else if 400 < (bansOf g l).length then 2 else 0
def LvlsPost (g : Gram) (l : List Level) (W : World) (e : Ending) (w' : World) : Prop :=
  Below W.heap.size W w' ∧ ((errL g l ≠ 0 ∧ e = .returned (.tuple #[.slice none 0 0, .int .i64 (errL g l)])) ∨
    (errL g l = 0 ∧ ∃ v, e = .returned (.tuple #[v, .int .i64 0]) ∧ w'.ownsRow W.heap.size 42 3 v (bansOf g l).length (banC (bansOf g l))))
theorem skip3 (li lj : Int) (rn : Nat) : (decide (li < 0) = true) ∨ (decide (li < 0) = false ∧ decide (lj < 0) = true) ∨ (decide (li < 0) = false ∧ decide (lj < 0) = false ∧ rn = 0) ∨ (decide (li < 0) = false ∧ decide (lj < 0) = false ∧ rn ≠ 0) := by
  simp only [decide_eq_true_eq, decide_eq_false_iff_not]; omega
theorem same3 : ∀ sm fb s1 : Bool, (sm = false ∧ (sm && fb && s1) = false) ∨ (sm = true ∧ fb = false ∧ (sm && fb && s1) = false) ∨ (sm = true ∧ fb = true ∧ (sm && fb && s1) = s1) := by decide
theorem or3 : ∀ a b c : Bool, (a = true ∧ (a || b || c) = true) ∨ (a = false ∧ b = true ∧ (a || b || c) = true) ∨ (a = false ∧ b = false ∧ (a || b || c) = c) := by decide
theorem banned_two {g : Gram} {l : List Level} {r p k : Nat} (hr : r < g.rules.length) (hk : k < g.rules.length) (hp : p < (g.rules[r]).right.length) (h2 : p = 0 ∨ p + 1 = (g.rules[r]).right.length) (hl : 0 ≤ lvOf l r) (hl2 : 0 ≤ lvOf l k) :
    banned g l r p k = (decide ((g.rules[r]).right[p] = ⟨false, (g.rules[k]).left⟩) && (decide (lvOf l k < lvOf l r) || (lvOf l k == lvOf l r) && decide (p = 0) && (assocAt l (lvOf l r) != 1) || (lvOf l k == lvOf l r) && decide (p + 1 = (g.rules[r]).right.length) && (assocAt l (lvOf l r) != 2))) := by
  rw [banned_at hr hk hp, Bool.eq_iff_iff]
  unfold skipB sameB
  generalize hy : (g.rules[r]).right[p] = y
  obtain ⟨yt, yn⟩ := y
  clear hy
  revert h2
  generalize (g.rules[r]).right.length = n
  generalize assocAt l (lvOf l r) = a
  generalize lvOf l r = i at *
  generalize lvOf l k = j at *
  intro h2
  simp only [Bool.and_eq_true, Bool.or_eq_true, Bool.not_eq_true', Bool.or_eq_false_iff, decide_eq_true_eq, decide_eq_false_iff_not, bne_iff_ne, bne_eq_false_iff_eq, beq_iff_eq, Sym.mk.injEq]
  cases yt <;> simp only [Bool.true_eq_false, false_and, true_and] <;> first | omega | (constructor <;> omega) | fail
set_option maxHeartbeats 8000000 in
set_option maxRecDepth 100000 in
theorem levsE (g : Gram) (l : List Level) (ar : Option Addr) (cr : Nat) (la : Option Addr) (lc : Nat) (W : World) (hr : Rd AnyB W (.sl (g.rules.map Rule.d)) [.slice ar g.rules.length cr])
    (hl : Rd AnyB W (.sl (l.map Level.d)) [.slice la l.length lc]) :
    Calls Tryd.prog 4 #[.agg #[.int .i64 g.terms, .int .i64 g.nons, .int .i64 g.start, .slice ar g.rules.length cr], .slice la l.length lc] W (LvlsPost g l W) := by
  obtain ⟨hc1, hc2⟩ := hr.bounds.2
  obtain ⟨hc3, hc4⟩ := hl.bounds.2
  unfold maxLen at hc2 hc4
  have HZK : Hid (checkG g = 0 → g.rules.length ≤ 32 ∧ ∀ x ∈ g.rules, x.right.length ≤ 4) := fun h => ⟨(checkG_zero h).2.1, fun x hx => ((checkG_zero h).2.2 x hx).2.2.1⟩
  have HCK0 := Lib.hid (fun (w' : World) (h : Rd AnyB w' (.sl (g.rules.map Rule.d)) [.slice ar g.rules.length cr]) => checkE g ar cr w' h)
  have HLV0 := Lib.hid (fun (w' : World) hK (h : Rd AnyB w' (.sl (g.rules.map Rule.d)) [.slice ar g.rules.length cr]) h2 => levelsE g l ar cr la lc w' hK h h2)
  have HB1 : Hid (checkG g ≠ 0 → errL g l = checkG g) := fun h => by unfold errL; rw [if_pos h]
  have HB2 : Hid (checkG g = 0 → levF g l ≠ 0 → errL g l = levF g l) := fun h h2 => by unfold errL; rw [if_neg (by simpa using h), if_pos h2]
  have HBL : Hid (checkG g = 0 → levF g l = 0 → 400 < (bansOf g l).length → errL g l = 2) := fun h h2 h3 => by unfold errL; rw [if_neg (by simpa using h), if_neg (by simpa using h2), if_pos h3]
  have HB4 : Hid (checkG g = 0 → levF g l = 0 → ¬ 400 < (bansOf g l).length → errL g l = 0) := fun h h2 h3 => by unfold errL; rw [if_neg (by simpa using h), if_neg (by simpa using h2), if_neg h3]
  obtain ⟨PST, HP⟩ := nameIt (LvlsPost g l W)
  have HBAD : Hid (∀ w' q, errL g l = q → q ≠ 0 → Below W.heap.size W w' → PST (.returned (.tuple #[.slice none 0 0, .int .i64 q])) w') := by
    intro w' q h0 h1 h2; rw [← HP.out]; exact ⟨h2, .inl ⟨by rw [h0]; exact h1, by rw [h0]⟩⟩
  have HGOOD : Hid (∀ w' v, errL g l = 0 → Below W.heap.size W w' → w'.ownsRow W.heap.size 42 3 v (bansOf g l).length (banC (bansOf g l)) → PST (.returned (.tuple #[v, .int .i64 0])) w') := by
    intro w' v h0 h1 h2; rw [← HP.out]; exact ⟨h1, .inr ⟨h0, v, rfl, h2⟩⟩
  obtain ⟨gt, HGT⟩ := nameIt g.terms
  obtain ⟨gn, HGN⟩ := nameIt g.nons
  obtain ⟨gs, HGS⟩ := nameIt g.start
  obtain ⟨K, HKn⟩ := nameIt g.rules.length
  obtain ⟨ln, HLNn⟩ := nameIt l.length
  obtain ⟨z, HZ⟩ := nameIt (checkG g)
  obtain ⟨q, HQ⟩ := nameIt (levF g l)
  obtain ⟨er, HER⟩ := nameIt (errL g l)
  obtain ⟨w0, HW0⟩ := nameIt (W.alloc (.cells #[.int .i64 gt, .int .i64 gn, .int .i64 gs, .slice ar K cr] 24))
  have HB0 : Hid (Below W.heap.size W w0) := by rw [← HW0.out]; exact (Below.refl _ _).alloc (Nat.le_refl _) _
  have X1 : Hid (w0.heap[W.heap.size]? = some (.cells #[.int .i64 gt, .int .i64 gn, .int .i64 gs, .slice ar K cr] 24 (0, 0))) := by rw [← HW0.out]; exact bx_new _ _ _ rfl
  have HCK : Hid (∀ w', Below w0.heap.size w0 w' → Calls Tryd.prog 7 #[.agg #[.int .i64 gt, .int .i64 gn, .int .i64 gs, .slice ar K cr]] w' fun e w'' => e = .returned (.int .i64 z) ∧ Below w'.heap.size w' w'') := by
    intro w' hb
    have h := HCK0.out w' ((hr.below HB0.out).below hb)
    rw [HGT.out, HGN.out, HGS.out, HKn.out, HZ.out] at h
    exact h
  have HLV : Hid (z = 0 → ∀ w', Below w0.heap.size w0 w' → Calls Tryd.prog 16 #[.agg #[.int .i64 gt, .int .i64 gn, .int .i64 gs, .slice ar K cr], .slice la ln lc] w' (LevPost g l w')) := by
    intro h0 w' hb
    have h := HLV0.out w' (HZK.out (by rw [HZ.out]; exact h0)).1 ((hr.below HB0.out).below hb) ((hl.below HB0.out).below hb)
    rw [HGT.out, HGN.out, HGS.out, HKn.out, HLNn.out] at h
    exact h
  have HR0 := Lib.hid (hr.below HB0.out)
  have HL0 := Lib.hid (hl.below HB0.out)
  rw [HKn.out] at HR0 hc1
  rw [HLNn.out] at HL0 hc3
  rw [HZ.out] at HZK HB1 HB2 HBL HB4
  rw [HER.out] at HB1 HB2 HBL HB4 HBAD HGOOD
  rw [HQ.out] at HB2 HBL HB4
  rw [HGT.out, HGN.out, HGS.out, HKn.out, HLNn.out, HP.out]
  obtain ⟨x0, x1, x2, x3⟩ := bx_cells4 X1.out
  have hl1 : W.heap.size < w0.heap.size := (Array.getElem?_eq_some_iff.1 X1.out).1
  have HZN : Hid (checkG g = z) := HZ
  clear hr hl HP HCK0 HLV0
  go_enter Tryd.func4, Tryd.ntmps4
  go_upto_region 1 with fail
  rw [HW0.out]
  clear HW0
  go_wp2_with fail
  refine (HCK.out w0 (Below.refl _ _)).mono ?_
  rintro e w1 ⟨rfl, hb1⟩
  have HB01 := Lib.hid hb1
  clear hb1
  by_cases hz : z = 0
  case neg =>
    have k1 : (z != 0) = true := by simpa using hz
    have HE := Lib.hid (HBAD.out w1 z (HB1.out hz) hz (HB0.out.trans (HB01.out.mono HB0.out.size)))
    clear hz HB1 HB2 HBL HB4
    go_wp2_with fail
    exact HE.out
  have HZ0 := Lib.hid hz
  have k1 : (z != 0) = false := by simpa using hz
  have HLV2 := Lib.hid (HLV.out hz w1 HB01.out)
  have X11 := Lib.hid (bx_keep X1.out HB01.out)
  replace x0 := (HB01.out.cell (lt_of_cell x0)).trans x0
  replace x1 := (HB01.out.cell (lt_of_cell x1)).trans x1
  replace x2 := (HB01.out.cell (lt_of_cell x2)).trans x2
  replace x3 := (HB01.out.cell (lt_of_cell x3)).trans x3
  clear hz
  go_wp2_with fail
  refine HLV2.out.mono ?_
  intro e w2 hpost
  obtain ⟨hb2, hor⟩ := hpost
  have HB02 : Hid (Below w0.heap.size w0 w2) := HB01.out.trans (hb2.mono HB01.out.size)
  have HBW2 : Hid (Below W.heap.size W w2) := HB0.out.trans (HB02.out.mono HB0.out.size)
  rw [HQ.out] at hor
  rcases hor with ⟨hq, rfl⟩ | ⟨hq, p, rfl, hrow⟩
  · have k2 : (q != 0) = true := by simpa using hq
    have HE := Lib.hid (HBAD.out w2 q (HB2.out HZ0.out hq) hq HBW2.out)
    clear hq HB1 HB2 HBL HB4 x0 x1 x2 x3
    go_wp2_with fail
    exact HE.out
  have k2 : (q != 0) = false := by simpa using hq
  have HQ0 := Lib.hid hq
  rw [HKn.out] at hrow ⊢
  have HROW := Lib.hid hrow
  have HK : Hid (g.rules.length ≤ 32) := (HZK.out HZ0.out).1
  have HRR4 := Lib.hid (HZK.out HZ0.out).2
  have HRR := Lib.hid (HR0.out.below HB02.out)
  have HLR := Lib.hid (HL0.out.below HB02.out)
  have HA := Lib.hid (pickR_le HK.out l)
  have X1' := Lib.hid (bx_keep X1.out HB02.out)
  clear hq hrow hb2 HR0 HL0 HLV HLV2 HCK x0 x1 x2 x3
  obtain ⟨x0, x1, x2, x3⟩ := bx_cells4 X1'.out
  have hl2 : W.heap.size < w2.heap.size := (Array.getElem?_eq_some_iff.1 X1'.out).1
  have HI0 : Hid (BnI w2 w2 (fun _ => False) (pickR g l 0) (.slice none 0 0) w2) := BnI.start w2
  have HKB : Hid (K ≤ 32) := by rw [← HKn.out]; exact HK.out
  have hK32 : K ≤ 32 := HKB.out
  rw [HKn.out] at HK
  go_wp2_with fail
  clear x0 x1 x2 x3
  go_loopg [9, 37] K (fun gg v9 v37 wr => ∃ r : Nat, r ≤ K ∧ K - r ≤ gg ∧ v37 = .int .i64 r ∧ Hid (BnI w2 w2 (fun _ => False) (pickR g l r) v9 wr))
  case atStart => exact ⟨0, by omega, by omega, rfl, HI0⟩
  case round =>
    clear HI0
    obtain ⟨r, hr, hg, rfl, HI⟩ := hrel
    obtain ⟨LA, HLA⟩ := nameIt (pickR g l r)
    have HLAl : Hid (LA.length ≤ r * 64) := by rw [← HLA.out]; exact HA.out r
    rw [HLA.out] at HI
    obtain ⟨av, cv, rfl, hcv1, hcv2⟩ := own_len HI.out.own
    unfold maxLen at hcv2
    by_cases hlt : r < K
    · have hlt' : (r : Int) < (K : Int) := by omega
      have hrc : (r : Int) ≤ (cr : Int) := by omega
      have hrl : r < g.rules.length := by rw [HKn.out]; exact hlt
      obtain ⟨rb, ro, vr, hae, -, hbl, d0, d1, hkr⟩ := HRR.out.rule_at hrl
      have HLR2 : Hid (lenR g r = (g.rules[r]).right.length) := lenR_at hrl
      have HAS := Lib.hid (pickR_succ g l r)
      have HBAN := Lib.hid (fun p k hk hp h2 h3 h4 => @banned_two g l r p k hrl hk hp h2 h3 h4)
      obtain ⟨av2, cv2, rfl, hcx1, hcx2⟩ := hkr.form
      rw [List.length_map] at hcx1 hkr d1
      unfold maxLen at hcx2
      obtain ⟨RR, HRR2⟩ := nameIt (g.rules[r]'hrl).right
      obtain ⟨lr, HLf⟩ := nameIt (g.rules[r]'hrl).left
      rw [HRR2.out] at d1 hkr hcx1 HLR2
      rw [HLf.out] at d0
      simp only [HRR2.out] at HBAN
      have HRN4 : Hid (RR.length ≤ 4) := by rw [← HRR2.out]; exact HRR4.out _ (List.getElem_mem _)
      obtain ⟨rn, HRN⟩ := nameIt RR.length
      rw [HRN.out] at d1 hkr hcx1 HLR2 HRN4
      simp only [HRN.out] at HBAN
      replace d0 := (HI.out.bel.cell (lt_of_cell d0)).trans d0
      replace d1 := (HI.out.bel.cell (lt_of_cell d1)).trans d1
      obtain ⟨w4, HW4⟩ := nameIt (wr.alloc (.cells #[.int .i64 lr, .slice av2 rn cv2] 57))
      have X8 : Hid (w4.heap[wr.heap.size]? = some (.cells #[.int .i64 lr, .slice av2 rn cv2] 57 (0, 0))) := by rw [← HW4.out]; exact bx_new _ _ _ rfl
      have HI4 : Hid (BnI w2 w4 (fun k => False ∨ k = wr.heap.size) (LA ++ pickK g l r 0) (.slice av LA.length cv) w4) := by rw [← HW4.out, show pickK g l r 0 = [] from rfl, List.append_nil]; exact HI.out.push _
      have HKR := Lib.hid hkr
      obtain ⟨b8, HB8⟩ := nameIt wr.heap.size
      rw [HB8.out] at HI4 X8
      obtain ⟨sr, HSR⟩ := nameIt LA.length
      have X1a := Lib.hid (bx_keep X1'.out HI4.out.bel)
      obtain ⟨x0, x1, x2, x3⟩ := bx_cells4 X1a.out
      have hl4 : W.heap.size < w4.heap.size := (Array.getElem?_eq_some_iff.1 X1a.out).1
      rw [HSR.out] at HI4
      rw [HSR.out]
      subst hae
      go_upto_region 11 with fail
      rw [HW4.out, HB8.out]
      clear d0 d1 hbl hkr HI HW4
      go_wp2_with fail
      clear x0 x1 x2 x3 X1a
      have HSZ8 : b8 < w4.heap.size := (Array.getElem?_eq_some_iff.1 X8.out).1
      have HSZ4 : Hid (w2.heap.size ≤ w4.heap.size) := HI4.out.bel.size
      obtain ⟨wo, rfl⟩ : ∃ wo : World, wo = wr := ⟨_, rfl⟩
      go_loopg [9, 45] K (fun gg v9 v45 wr => ∃ k : Nat, k ≤ K ∧ K - k ≤ gg ∧ v45 = .int .i64 k ∧ Hid (BnI w2 w4 (fun k => False ∨ k = b8) (LA ++ pickK g l r k) v9 wr))
      case atStart => exact ⟨0, by omega, by omega, rfl, HI4⟩
      case round =>
        clear HI4
        obtain ⟨k, hk, hg2, rfl, HI⟩ := hrel
        obtain ⟨LB, HLB⟩ := nameIt (LA ++ pickK g l r k)
        have HLBl : Hid (LB.length ≤ r * 64 + k * 2) := by
          rw [← HLB.out, List.length_append]
          have h1 := HLAl.out
          have h2 := pickK_le g l r k
          show _ ≤ _
          omega
        rw [HLB.out] at HI
        obtain ⟨av, cv, rfl, hcv1, hcv2⟩ := own_len HI.out.own
        unfold maxLen at hcv2
        by_cases hlt2 : k < K
        · have hlt2' : (k : Int) < (K : Int) := by omega
          have hpc : (k : Int) ≤ (cr : Int) := by omega
          have hkl : k < g.rules.length := by rw [HKn.out]; exact hlt2
          obtain ⟨rb2, ro2, vz, hae, -, hbl, e0, e1, hkz⟩ := (HRR.out.below HI.out.bel).rule_at hkl
          have HKS := Lib.hid (pickK_succ g l r k)
          have HBA2 := Lib.hid (fun p hp h2 h3 h4 => HBAN.out p k hkl hp h2 h3 h4)
          have HSKP := Lib.hid (fun h => pick2_none (g := g) (l := l) (r := r) (k := k) (banned_skip h) 2)
          obtain ⟨az, cz, rfl, -, -⟩ := hkz.form
          rw [List.length_map] at e1
          obtain ⟨zl, HZL⟩ := nameIt (g.rules[k]'hkl).left
          obtain ⟨zn, HZN2⟩ := nameIt (g.rules[k]'hkl).right.length
          rw [HZL.out] at e0
          rw [HZN2.out] at e1
          simp only [HZL.out] at HBA2
          rw [HLR2.out] at HSKP
          have v0 := (HROW.out.keep HI.out.bel).cell hlt
          have v1 := (HROW.out.keep HI.out.bel).cell hlt2
          have HGE := Lib.hid (@lvFrom_ge l 0 (r : Int))
          rw [show lvFrom 0 l (r : Int) = lvOf l (r : Int) from rfl, HLNn.out] at HGE
          obtain ⟨li, HLI⟩ := nameIt (lvOf l (r : Int))
          obtain ⟨lj, HLJ⟩ := nameIt (lvOf l (k : Int))
          simp only [HLI.out, HLJ.out] at HBA2 HSKP v0 v1
          rw [HLI.out] at HGE
          obtain ⟨w6, HW6⟩ := nameIt (wr.alloc (.cells #[.int .i64 zl, .slice az zn cz] 57))
          have hb6 : Below wr.heap.size wr w6 := by rw [← HW6.out]; exact (Below.refl _ _).alloc (Nat.le_refl _) _
          have X10 : Hid (w6.heap[wr.heap.size]? = some (.cells #[.int .i64 zl, .slice az zn cz] 57 (0, 0))) := by rw [← HW6.out]; exact bx_new _ _ _ rfl
          have HI6 : Hid (BnI w2 w6 (fun k => (False ∨ k = b8) ∨ k = wr.heap.size) (LB ++ pick2 g l r k 0) (.slice av LB.length cv) w6) := by rw [← HW6.out, show pick2 g l r k 0 = [] from rfl, List.append_nil]; exact HI.out.push _
          have X8' : Hid (w6.heap[b8]? = some (.cells #[.int .i64 lr, .slice av2 rn cv2] 57 (0, 0))) := bx_keep ((HI.out.box b8 (.inr rfl)).trans X8.out) hb6
          have HSZ6 : Hid (w4.heap.size ≤ w6.heap.size) := Nat.le_trans HI.out.sz hb6.size
          obtain ⟨b10, HB10⟩ := nameIt wr.heap.size
          rw [HB10.out] at HI6 X10
          obtain ⟨y0, y1⟩ := bx_cells2 X8'.out
          obtain ⟨z0, z1⟩ := bx_cells2 X10.out
          replace v0 := (hb6.cell (lt_of_cell v0)).trans v0
          replace v1 := (hb6.cell (lt_of_cell v1)).trans v1
          have hv0 := lt_of_cell v0
          have hv1 := lt_of_cell v1
          obtain ⟨sr2, HSR2⟩ := nameIt LB.length
          have HLB2 : Hid (LB.length = sr2) := HSR2
          rw [HSR2.out] at HI6
          rw [HSR2.out]
          obtain ⟨rfl, rfl⟩ : rb = rb2 ∧ ro = ro2 := by simpa using hae
          clear hae
          have HPOP : Hid (∀ w' v n, BnI w2 w6 (fun k => (False ∨ k = b8) ∨ k = b10) (LB ++ pick2 g l r k 2) v w' → n = (LB ++ pick2 g l r k 2).length → BnI w2 w4 (fun k => False ∨ k = b8) (LA ++ pickK g l r (k + 1)) v w') := by
            intro w' v n h hn
            rw [HKS.out, ← List.append_assoc, HLB.out]
            refine h.pop (fun k hk => .inl hk) (fun k hk => ?_) HSZ6.out
            rcases hk with hk | rfl
            · exact hk.elim
            · exact ⟨HSZ8, X8'.out.trans X8.out.symm⟩
          go_upto_region 14 with fail
          rw [HW6.out, HB10.out]
          clear e0 e1 hbl HI HW6 hkz hb6
          rcases skip3 li lj rn with s1 | ⟨s1, s2⟩ | ⟨s1, s2, s3⟩ | ⟨s1, s2, s3⟩
          rotate_left 3
          · have HLI0 : Hid (0 ≤ li) := by have := s1; simp at this; exact this
            have HLJ0 : Hid (0 ≤ lj) := by have := s2; simp at this; exact this
            obtain ⟨i, rfl⟩ : ∃ i : Nat, li = (i : Int) := ⟨li.toNat, by have := HLI0.out; omega⟩
            obtain ⟨j, rfl⟩ : ∃ j : Nat, lj = (j : Int) := ⟨lj.toNat, by have := HLJ0.out; omega⟩
            have hi : i < ln := by have := HGE.out; omega
            have hil : i < l.length := by rw [HLNn.out]; exact hi
            have hass : assocAt l (i : Int) = (l[i]'hil).assoc := by unfold assocAt; rw [Int.toNat_natCast, List.getElem?_eq_getElem hil]; rfl
            have HBA3 := Lib.hid (fun p hp h2 => HBA2.out p hp h2 HLI0.out HLJ0.out)
            simp only [hass] at HBA3
            have HLVA := Lib.hid (fun (w' : World) (hb : Below w2.heap.size w2 w') => Rd.level_at (HLR.out.below hb) hil)
            obtain ⟨sa, HSA⟩ := nameIt (l[i]'hil).assoc
            simp only [HSA.out] at HBA3 HLVA
            have hrn1 : 1 ≤ rn := by omega
            have hrn4 : rn ≤ 4 := HRN4.out
            obtain ⟨rl, HRL⟩ := nameIt (rn - 1)
            have HRL2 : Hid (rl + 1 = rn) := by show _ = _; have := HRL.out; omega
            have k5 : IntKind.i64.wrap ((rn : Int) - 1) = (rl : Int) := by rw [IntWalk.i64_in _ (by omega)]; have := HRL2.out; omega
            have s3' : ((rn : Int) == 0) = false := by simp; omega
            have hrnN : ¬ rn = 0 := s3
            clear hass HBA2 HSKP HGE s3
            go_wp2_with fail
            clear k5 y0 y1 z0 z1 v0 v1
            obtain ⟨wo2, rfl⟩ : ∃ wo : World, wo = wr := ⟨_, rfl⟩
            go_loopg [9, 74] 2 (fun gg v9 v74 wr => ∃ t : Nat, t ≤ 2 ∧ 2 - t ≤ gg ∧ v74 = .int .i64 t ∧ Hid (BnI w2 w6 (fun k => (False ∨ k = b8) ∨ k = b10) (LB ++ pick2 g l r k t) v9 wr))
            case atStart => exact ⟨0, by omega, by omega, rfl, HI6⟩
            case round =>
              clear HI6
              obtain ⟨t, ht, hg3, rfl, HI⟩ := hrel
              obtain ⟨LC, HLC⟩ := nameIt (LB ++ pick2 g l r k t)
              have HLCl : Hid (LC.length ≤ r * 64 + k * 2 + t) := by
                rw [← HLC.out, List.length_append]
                have h1 := HLBl.out
                have h2 := pick2_le g l r k t
                show _ ≤ _
                omega
              rw [HLC.out] at HI
              obtain ⟨av, cv, rfl, hcv1, hcv2⟩ := own_len HI.out.own
              unfold maxLen at hcv2
              have HHB := Lib.hid HI.out.bel
              by_cases hlt3 : t < 2
              · have hlt3' : (t : Int) < 2 := by omega
                have HRK := Lib.hid (pick2_succ g l r k t)
                rw [HLR2.out] at HRK
                obtain ⟨at', HAT⟩ := nameIt (atT rn t)
                rw [HAT.out] at HRK
                have HAT2 : Hid (t = 0 ∧ at' = 0 ∨ t = 1 ∧ at' = rl) := by
                  have h := HAT.out; unfold atT at h
                  rcases (show t = 0 ∨ t = 1 by omega) with rfl | rfl
                  · left; simp at h; exact ⟨rfl, h.symm⟩
                  · right; simp at h; exact ⟨rfl, by have := HRL.out; omega⟩
                have hatl : at' < RR.length := by rw [HRN.out]; have := HRL2.out; rcases HAT2.out with ⟨_, h⟩ | ⟨_, h⟩ <;> omega
                obtain ⟨sb, so, hse, -, hbl, s0, s1'⟩ := (HKR.out.below HHB.out).sym_at hatl
                have HBA4 := Lib.hid (HBA3.out at' (by rw [← HRN.out]; exact hatl) (by have := HRL2.out; rcases HAT2.out with ⟨_, h⟩ | ⟨_, h⟩ <;> omega))
                obtain ⟨y, HYn⟩ := nameIt (RR[at']'hatl)
                rw [HYn.out] at s0 s1'
                rw [HYn.out] at HBA4
                obtain ⟨yt, yn⟩ := y
                simp only at s0 s1'
                obtain ⟨lb, lo, vl, hle, -, -, -, a1, -⟩ := HLVA.out wr HHB.out
                have v0 := (HROW.out.keep HHB.out).cell hlt
                have v1 := (HROW.out.keep HHB.out).cell hlt2
                simp only [HLI.out, HLJ.out] at v0 v1
                have hv0 := lt_of_cell v0
                obtain ⟨y0, y1⟩ := bx_cells2 ((HI.out.box b8 (.inl (.inr rfl))).trans X8'.out)
                obtain ⟨z0, z1⟩ := bx_cells2 ((HI.out.box b10 (.inr rfl)).trans X10.out)
                have hat1 : (at' : Int) < (rn : Int) := by rw [HRN.out] at hatl; omega
                have hat2 : (at' : Int) ≤ (cv2 : Int) := by omega
                obtain ⟨sr3, HSR3⟩ := nameIt LC.length
                rw [HSR3.out]
                have HGN2 := Lib.hid (fun (w' : World) (_ : Below wr.heap.size wr w') => gramN zl w')
                have HIX : Hid (([Value.int .i64 0, .int .i64 (rl : Int)])[t]? = some (.int .i64 (at' : Int))) := by
                  rcases HAT2.out with ⟨rfl, rfl⟩ | ⟨rfl, rfl⟩ <;> rfl
                subst hse hle
                go_upto_region 18 with fail
                go_cut [16] from 76 to 150 (fun tt wx => tt = .int .i64 (at' : Int) ∧ Hid (wr = wx))
                case first =>
                  clear v0 v1 y0 y1 z0 z1 s0 s1' a1
                  have hx := HAT2.out
                  clear HRK HBA4 HAT HAT2 HLC HI HPOP HIX
                  have ix0 := fun w => (run_index2 (.int .i64 0) (.int .i64 (rl : Int)) w).1
                  have ix1 := fun w => (run_index2 (.int .i64 0) (.int .i64 (rl : Int)) w).2
                  rcases hx with ⟨rfl, rfl⟩ | ⟨rfl, rfl⟩
                  all_goals
                    go_wp2_with fail
                    go_meet
                    exact ⟨rfl, Lib.hid rfl⟩
                case rest =>
                  obtain ⟨rfl, hwx⟩ := hcut
                  obtain rfl := hwx.out
                  clear hwx
                  have HNEXT : Hid (∀ w' v n L, n = L.length → BnI w2 w6 (fun k => (False ∨ k = b8) ∨ k = b10) L v w' → LB ++ pick2 g l r k (t + 1) = L → BnI w2 w6 (fun k => (False ∨ k = b8) ∨ k = b10) (LB ++ pick2 g l r k (t + 1)) v w') := fun w' v n L _ h e => by rw [e]; exact h
                  have HNO : Hid (∀ w', Below wr.heap.size wr w' → banned g l r at' k = false → BnI w2 w6 (fun k => (False ∨ k = b8) ∨ k = b10) (LB ++ pick2 g l r k (t + 1)) (.slice av sr3 cv) w') := by
                    intro w' hb e
                    have h : LB ++ pick2 g l r k (t + 1) = LC := by rw [HRK.out, e]; simpa using HLC.out
                    rw [h, ← HSR3.out]
                    exact HI.out.keep hb
                  have ay1 := aft_cell y1
                  have az0 := aft_cell z0
                  have as0 := aft_cell s0
                  have as1 := aft_cell s1'
                  go_upto_region 19 with fail
                  by_cases hsy : yt = false ∧ yn = zl
                  case neg =>
                    have HNN : Hid (∀ w', Below wr.heap.size wr w' → BnI w2 w6 (fun k => (False ∨ k = b8) ∨ k = b10) (LB ++ pick2 g l r k (t + 1)) (.slice av sr3 cv) w') := fun w' hb => HNO.out w' hb (by rw [HBA4.out, decide_eq_false (by simpa using hsy)]; rfl)
                    clear v0 v1 y0 y1 z0 z1 s0 s1' a1 HNO HNEXT HBA4 HRK
                    have hsd : yt = true ∨ (yt = false ∧ (yn == zl) = false) := by
                      cases yt with
                      | true => exact .inl rfl
                      | false => right; refine ⟨rfl, ?_⟩; simpa using hsy
                    rcases hsd with rfl | ⟨rfl, hne⟩
                    · refine wp_region_after (by kernel_rfl) (by kernel_rfl) ?_
                      repeat (go_big_quiet_step (with_reducible exact Calls.after (HGN2.out _ (Aft.bel _))))
                      refine wpQuiet_nil ?_
                      rintro w7 ⟨⟨_, hb7⟩, rfl⟩
                      have HI5 := Lib.hid (HNN.out w7 hb7)
                      clear ay1 az0 as0 as1 hb7
                      go_wp2_with fail
                      go_roundg (2 - (t + 1))
                      case measure => omega
                      case rel => exact ⟨t + 1, by omega, by omega, by go_num, HI5.out⟩
                    · have hne' : (yn != zl) = true := by simpa using hne
                      refine wp_region_after (by kernel_rfl) (by kernel_rfl) ?_
                      repeat (go_big_quiet_step (with_reducible exact Calls.after (HGN2.out _ (Aft.bel _))))
                      refine wpQuiet_nil ?_
                      rintro w7 ⟨⟨_, hb7⟩, rfl⟩
                      have HI5 := Lib.hid (HNN.out w7 hb7)
                      clear ay1 az0 as0 as1 hb7
                      go_wp2_with fail
                      go_roundg (2 - (t + 1))
                      case measure => omega
                      case rel => exact ⟨t + 1, by omega, by omega, by go_num, HI5.out⟩
                  case pos =>
                    obtain ⟨rfl, hyz⟩ := hsy
                    subst hyz
                    have hbq := HBA4.out
                    rw [decide_eq_true (show (⟨false, yn⟩ : Sym) = ⟨false, yn⟩ from rfl), Bool.true_and] at hbq
                    have e1 : ((at' : Int) == 0) = decide (at' = 0) := by rw [Bool.eq_iff_iff]; simp
                    have e2 : ((at' : Int) == (rl : Int)) = decide (at' + 1 = rn) := by have := HRL2.out; rw [Bool.eq_iff_iff]; simp; omega
                    have e3 : decide ((j : Int) < (i : Int)) = decide (j < i) := by simp
                    have e4 : ((j : Int) == (i : Int)) = decide (j = i) := by rw [Bool.eq_iff_iff]; simp; omega
                    have e5 : (at' == 0) = decide (at' = 0) := by rw [Bool.eq_iff_iff]; simp
                    have e6 : (at' == rl) = decide (at' + 1 = rn) := by have := HRL2.out; rw [Bool.eq_iff_iff]; simp; omega
                    have e7 : (j == i) = decide (j = i) := by rw [Bool.eq_iff_iff]; simp
                    have e8 : (at' = rl) = (at' + 1 = rn) := by have := HRL2.out; apply propext; omega
                    rw [e3, e4] at hbq
                    obtain ⟨fb, HFb⟩ : ∃ b, decide (at' = 0) = b := ⟨_, rfl⟩
                    obtain ⟨eb, HEb⟩ : ∃ b, decide (at' + 1 = rn) = b := ⟨_, rfl⟩
                    obtain ⟨jl, HJL⟩ : ∃ b, decide (j < i) = b := ⟨_, rfl⟩
                    obtain ⟨je, HJE⟩ : ∃ b, decide (j = i) = b := ⟨_, rfl⟩
                    obtain ⟨s1b, HS1⟩ : ∃ b, (sa != 1) = b := ⟨_, rfl⟩
                    obtain ⟨s2b, HS2⟩ : ∃ b, (sa != 2) = b := ⟨_, rfl⟩
                    have hEb2 : decide (at' = rl) = eb := by rw [← HEb]; simp only [e8]
                    rw [HFb] at e1 e5 hbq
                    rw [HEb] at e2 e6 hbq
                    rw [HJL] at e3 hbq
                    rw [HJE] at e4 e7 hbq
                    rw [HS1, HS2] at hbq
                    have HBQ := Lib.hid hbq
                    obtain ⟨B1, HB1'⟩ := nameIt (je && fb && s1b)
                    obtain ⟨B2, HB2'⟩ := nameIt (je && eb && s2b)
                    obtain ⟨BB, HBB'⟩ := nameIt (jl || B1 || B2)
                    rw [HB1'.out, HB2'.out, HBB'.out] at HBQ
                    have Q1 := Lib.hid (same3 je fb s1b)
                    have Q2 := Lib.hid (same3 je eb s2b)
                    have Q3 := Lib.hid (or3 jl B1 B2)
                    rw [HB1'.out] at Q1
                    rw [HB2'.out] at Q2
                    rw [HBB'.out] at Q3
                    have E1 := Lib.hid (And.intro (And.intro e1 e5) HFb)
                    have E2 := Lib.hid (And.intro (And.intro e2 e6) (And.intro HEb hEb2))
                    have E3 := Lib.hid (And.intro e3 HJL)
                    have E4 := Lib.hid (And.intro (And.intro e4 e7) HJE)
                    have ES1 := Lib.hid HS1
                    have ES2 := Lib.hid HS2
                    clear e1 e2 e3 e4 e5 e6 e7 e8 HFb HEb hEb2 HJL HJE HS1 HS2 hbq HB1' HB2' HBB' HBA4
                    refine wp_region_after (by kernel_rfl) (by kernel_rfl) ?_
                    repeat (go_big_quiet_step (with_reducible exact Calls.after (HGN2.out _ (Aft.bel _))))
                    refine wpQuiet_nil ?_
                    rintro w7 ⟨⟨_, hb7⟩, rfl⟩
                    have HB7 := Lib.hid hb7
                    replace v0 := (hb7.cell (lt_of_cell v0)).trans v0
                    replace v1 := (hb7.cell (lt_of_cell v1)).trans v1
                    replace a1 := (hb7.cell (lt_of_cell a1)).trans a1
                    clear ay1 az0 as0 as1 hb7 y0 y1 z0 z1 s0 s1'
                    go_upto_region 20 with fail
                    go_cut [17] from 76 to 150 (fun tt wx => tt = .bool je ∧ Hid (Below w7.heap.size w7 wx))
                    case first =>
                      obtain ⟨⟨e4, e7⟩, e9⟩ := E4.out
                      clear E4 E1 E2 E3 Q1 Q2 Q3 HBQ
                      go_quiet (fail)
                      go_wp2_with fail
                      go_meet
                      exact ⟨rfl, Lib.hid (below_drewN _ _)⟩
                    case rest =>
                      obtain ⟨rfl, hwx⟩ := hcut
                      have HB8 : Hid (Below wr.heap.size wr wc) := HB7.out.trans (hwx.out.mono HB7.out.size)
                      replace v0 := (hwx.out.cell (lt_of_cell v0)).trans v0
                      replace v1 := (hwx.out.cell (lt_of_cell v1)).trans v1
                      replace a1 := (hwx.out.cell (lt_of_cell a1)).trans a1
                      clear hwx HB7
                      obtain ⟨w8, rfl⟩ : ∃ w8 : World, w8 = wc := ⟨_, rfl⟩
                      go_upto_region 21 with fail
                      go_cut [18] from 76 to 150 (fun tt wx => tt = .bool B1 ∧ Hid (w8 = wx))
                      case first =>
                        obtain ⟨⟨e1, e5⟩, e9⟩ := E1.out
                        have e10 := ES1.out
                        clear E4 E1 E2 E3 Q2 Q3 HBQ
                        rcases Q1.out with ⟨rfl, rfl⟩ | ⟨rfl, rfl, rfl⟩ | ⟨rfl, rfl, rfl⟩
                        all_goals
                          go_wp2_with fail
                          go_meet
                          exact ⟨rfl, Lib.hid rfl⟩
                      case rest =>
                        obtain ⟨rfl, hwx⟩ := hcut
                        obtain rfl := hwx.out
                        clear hwx
                        go_upto_region 22 with fail
                        go_cut [19] from 76 to 150 (fun tt wx => tt = .bool B2 ∧ Hid (w8 = wx))
                        case first =>
                          obtain ⟨⟨e1, e5⟩, e9, e8⟩ := E2.out
                          have e10 := ES2.out
                          clear E4 E1 E2 E3 Q1 Q3 HBQ
                          rcases Q2.out with ⟨rfl, rfl⟩ | ⟨rfl, rfl, rfl⟩ | ⟨rfl, rfl, rfl⟩
                          all_goals
                            go_wp2_with fail
                            go_meet
                            exact ⟨rfl, Lib.hid rfl⟩
                        case rest =>
                          obtain ⟨rfl, hwx⟩ := hcut
                          obtain rfl := hwx.out
                          clear hwx a1
                          go_upto_region 23 with fail
                          go_cut [142] from 76 to 150 (fun tt wx => tt = .bool BB ∧ Hid (Below w8.heap.size w8 wx))
                          case first =>
                            obtain ⟨e3, e5⟩ := E3.out
                            clear E4 E1 E2 E3 Q1 Q2 HBQ
                            rcases Q3.out with ⟨rfl, rfl⟩ | ⟨rfl, rfl, rfl⟩ | ⟨rfl, rfl, rfl⟩
                            all_goals
                              go_quiet (fail)
                              go_wp2_with fail
                              go_meet
                              exact ⟨rfl, Lib.hid (below_drewN _ _)⟩
                          case rest =>
                            obtain ⟨rfl, hwx⟩ := hcut
                            have HBC : Hid (Below wr.heap.size wr wc) := HB8.out.trans (hwx.out.mono HB8.out.size)
                            have HBC2 : Hid (Below w2.heap.size w2 wc) := HHB.out.trans (HBC.out.mono HHB.out.size)
                            have HOW := Lib.hid (HI.out.keep HBC.out)
                            clear hwx HB8 v0 v1 E1 E2 E3 E4 Q1 Q2 Q3 ES1 ES2
                            have HOO := Lib.hid HOW.out.own
                            rw [HSR3.out] at HOO
                            have hsr : sr3 ≤ 10000 := by have h1 := HLCl.out; rw [HSR3.out] at h1; have h2 := HKB.out; omega
                            cases BB with
                            | false =>
                              have HI5 := Lib.hid (HNO.out wc HBC.out HBQ.out)
                              clear HNO HOO HNEXT
                              go_wp2_with fail
                              go_roundg (2 - (t + 1))
                              case measure => omega
                              case rel => exact ⟨t + 1, by omega, by omega, by go_num, HI5.out⟩
                            | true =>
                              clear HNO
                              go_wp2_with (at_builtin; refine wp_app1at elBan rfl _ _ rfl HOO.out rfl rfl (by simp) rfl rfl (by omega) (by unfold maxLen; omega) HBC2.out.size ?_)
                              intro v7 w9 ho7 hg7 hat7
                              obtain ⟨a7, c7, rfl, -, -⟩ := own_len ho7
                              have HI5 : Hid (BnI w2 w6 (fun k => (False ∨ k = b8) ∨ k = b10) (LB ++ pick2 g l r k (t + 1)) (.slice a7 (sr3 + 1) c7) w9) := by
                                rw [HRK.out, HBQ.out, if_pos rfl, ← List.append_assoc, HLC.out]
                                rw [← HSR3.out] at ho7 hg7 hat7 ⊢
                                exact HOW.out.app ho7 hg7 hat7
                              clear ho7 hg7 hat7
                              go_wp2_with fail
                              go_roundg (2 - (t + 1))
                              case measure => omega
                              case rel => exact ⟨t + 1, by omega, by omega, by go_num, HI5.out⟩
              · have hend : t = 2 := by omega
                subst hend
                have hlt3' : ¬ ((2 : Nat) : Int) < 2 := by omega
                have HI5 := Lib.hid (HPOP.out wr _ _ (by rw [HLC.out]; exact HI.out) rfl)
                obtain ⟨sr3, HSR3⟩ := nameIt LC.length
                rw [HSR3.out] at HI5
                rw [HSR3.out]
                go_wp2_with fail
                go_roundg (K - (k + 1))
                case measure => omega
                case rel => exact ⟨k + 1, by omega, by omega, by go_num, HI5.out⟩
          all_goals
            have HI5 : Hid (BnI w2 w4 (fun k => False ∨ k = b8) (LA ++ pickK g l r (k + 1)) (.slice av sr2 cv) w6) := by
              have h := HSKP.out (by simp only [decide_eq_true_eq, decide_eq_false_iff_not] at *; omega)
              refine HPOP.out w6 _ _ ?_ rfl
              rw [h]; exact HI6.out
            try (obtain rfl := s3)
            clear HSKP HPOP
            go_wp2_with fail
            go_roundg (K - (k + 1))
            case measure => omega
            case rel => exact ⟨k + 1, by omega, by omega, by go_num, HI5.out⟩
        · have hend : k = K := by omega
          have hlt2' : ¬ (k : Int) < (K : Int) := by omega
          have HI5 : Hid (BnI w2 w2 (fun _ => False) (pickR g l (r + 1)) (.slice av LB.length cv) wr) := by
            have h : pickR g l (r + 1) = LB := by rw [HAS.out, HKn.out, ← hend, HLA.out]; exact HLB.out
            rw [h]
            exact HI.out.pop (fun k hk => hk.elim) (fun k hk => hk.elim) HSZ4.out
          obtain ⟨sr3, HSR3⟩ := nameIt LB.length
          rw [HSR3.out] at HI5
          rw [HSR3.out]
          go_wp2_with fail
          go_roundg (K - (r + 1))
          case measure => omega
          case rel => exact ⟨r + 1, by omega, by omega, by go_num, HI5.out⟩
    · have hend : r = K := by omega
      have hlt' : ¬ (r : Int) < (K : Int) := by omega
      have HLN : Hid (LA = pickL g l) := by show _ = _; rw [← HLA.out]; unfold pickL; rw [hend, HKn.out]
      have hLK : LA.length ≤ 100000 := by have h1 := HLAl.out; have h2 := HKB.out; omega
      have HSO := Lib.hid (sortBan w2.heap.size LA (.slice av LA.length cv) wr HI.out.own hLK)
      have HSAME : Hid (Lib.compact (sortB LA) = bansOf g l) := by show _ = _; rw [HLN.out]; exact bans_same g l
      have HBE : Hid (Below W.heap.size W wr) := HBW2.out.trans (HI.out.bel.mono HBW2.out.size)
      have HSL : Hid ((sortB LA).length = LA.length) := sortB_len LA
      obtain ⟨sr, HSR⟩ := nameIt LA.length
      have HOWN := Lib.hid HI.out.own
      have HBELR := Lib.hid HI.out.bel
      rw [HSR.out] at HSO HSL hLK HOWN
      rw [HSR.out]
      clear HI
      have eg : ∀ args w, (callFunc 19 args).run Tryd.prog w = .ok (.enter 19 args) w := enters_of Tryd.func19 (by kernel_rfl) rfl
      go_wp2_with fail
      refine HSO.out.mono ?_
      rintro e w3 ⟨rfl, ho3, hg3⟩
      have HB3 : Hid (Below w2.heap.size w2 w3) := HBELR.out.grown hg3 HBELR.out.size (fun k e => (HOWN.out.lt k e).1)
      rw [HSR.out] at ho3
      have HSR := HSL.out
      have HCO : Hid (Calls Tryd.prog 22 #[.slice av sr cv] w3 (CompactPost w2.heap.size (sortB LA) (.slice av sr cv) w3)) := compactBan w2.heap.size (sortB LA) (.slice av sr cv) w3 (by rw [HSR]; exact ho3) (by rw [HSR]; exact hLK)
      have HOW3 := Lib.hid ho3
      clear ho3 hg3
      go_wp2_with fail
      refine HCO.out.mono ?_
      rintro e w5 ⟨u5, rfl, ho5, hg5⟩
      rw [HSAME.out] at ho5
      have HB5 : Hid (Below w2.heap.size w2 w5) := HB3.out.grown hg5 HB3.out.size (fun k e => (HOW3.out.lt k e).1)
      have HBE5 : Hid (Below W.heap.size W w5) := HBW2.out.trans (HB5.out.mono HBW2.out.size)
      obtain ⟨a5, c5, rfl, -, -⟩ := own_len ho5
      have HBADE : Hid (400 < (bansOf g l).length → PST (.returned (.tuple #[.slice none 0 0, .int .i64 2])) w5) := fun h => HBAD.out w5 2 (HBL.out HZ0.out HQ0.out h) (by decide) HBE5.out
      have HGOODE : Hid (¬ 400 < (bansOf g l).length → PST (.returned (.tuple #[.slice a5 (bansOf g l).length c5, .int .i64 0])) w5) := fun h => HGOOD.out w5 _ (HB4.out HZ0.out HQ0.out h) HBE5.out (World.ownsRow.mono ho5 HBW2.out.size)
      have hbl : (bansOf g l).length ≤ 100000 := by
        have h1 : (Lib.compact (sortB LA)).length ≤ LA.length := by
          unfold Lib.compact Lib.compactUpTo
          rw [List.length_map]
          exact Nat.le_trans (List.length_filter_le _ _) (by simp [sortB_len])
        rw [HSAME.out, show LA.length = (sortB LA).length from (sortB_len LA).symm, HSR] at h1
        omega
      obtain ⟨bn, HBN⟩ := nameIt (bansOf g l).length
      rw [HBN.out] at HBADE HGOODE hbl
      rw [HBN.out]
      clear ho5 hg5
      by_cases hbig : 400 < bn
      · have HE := Lib.hid (HBADE.out hbig)
        have k4 : decide ((400 : Int) < (bn : Int)) = true := by simp; omega
        have k5 : ¬ bn ≤ 400 := by omega
        go_wp2_with fail
        exact HE.out
      · have HE := Lib.hid (HGOODE.out hbig)
        have k4 : decide ((400 : Int) < (bn : Int)) = false := by simp; omega
        have k5 : bn ≤ 400 := by omega
        go_wp2_with fail
        exact HE.out
end Fb
end Go.Proofs.YtgcfpbjifjklbaaDoor
namespace Go.Proofs.YtgcfpbjifjklbaaDoor
open Go.RowKit
namespace Lg
def LS (L : Nat → List Int → Prop) (s : Sym) (u : List Int) : Prop := if s.term then u = [s.n] else L s.n.toNat u
def LL (L : Nat → List Int → Prop) : List Sym → List Int → Prop
  | [], u => u = []
  | s :: l, u => ∃ a b, u = a ++ b ∧ LS L s a ∧ LL L l b
def LN (rules : List Rule) : Nat → Nat → List Int → Prop
  | 0, _, _ => False
  | h + 1, A, u => ∃ r ∈ rules, r.left = (A : Int) ∧ LL (LN rules h) r.right u
def Lang (rules : List Rule) (A : Nat) (u : List Int) : Prop := ∃ h, LN rules h A u
section
variable {rules : List Rule} {L L' : Nat → List Int → Prop} {A : Nat} {u : List Int}
theorem LS_mono (h : ∀ A u, L A u → L' A u) {s : Sym} (hs : LS L s u) : LS L' s u := by
  unfold LS at hs ⊢
  by_cases e : s.term = true
  · rw [if_pos e] at hs ⊢; exact hs
  · rw [if_neg e] at hs ⊢; exact h _ _ hs
theorem LL_mono (h : ∀ A u, L A u → L' A u) : ∀ {l : List Sym} {u : List Int}, LL L l u → LL L' l u
  | [], _, hs => hs
  | _ :: _, _, ⟨a, b, e, h1, h2⟩ => ⟨a, b, e, LS_mono h h1, LL_mono h h2⟩
theorem LN_step : ∀ {h : Nat} {A : Nat} {u : List Int}, LN rules h A u → LN rules (h + 1) A u
  | 0, _, _, hs => hs.elim
  | _ + 1, _, _, ⟨r, h1, h2, h3⟩ => ⟨r, h1, h2, LL_mono (fun _ _ => LN_step) h3⟩
theorem LN_mono {h h' : Nat} (hh : h ≤ h') (hs : LN rules h A u) : LN rules h' A u := by
  induction hh with
  | refl => exact hs
  | step _ ih => exact LN_step ih
theorem LL_lang : ∀ {l : List Sym} {u : List Int}, LL (Lang rules) l u → ∃ h, LL (LN rules h) l u
  | [], _, hs => ⟨0, hs⟩
  | s :: l, u, ⟨a, b, e, h1, h2⟩ => by
    obtain ⟨h, h3⟩ := LL_lang h2
    have h4 : ∃ h', LS (LN rules h') s a := by
      unfold LS at h1 ⊢
      by_cases e : s.term = true
      · rw [if_pos e] at h1; exact ⟨0, by rw [if_pos e]; exact h1⟩
      · rw [if_neg e] at h1; obtain ⟨h', h1⟩ := h1; exact ⟨h', by rw [if_neg e]; exact h1⟩
    obtain ⟨h', h4⟩ := h4
    exact ⟨max h h', a, b, e, LS_mono (fun _ _ => LN_mono (Nat.le_max_right _ _)) h4, LL_mono (fun _ _ => LN_mono (Nat.le_max_left _ _)) h3⟩
theorem lang_rule {r : Rule} (hr : r ∈ rules) (hl : r.left = (A : Int)) (h : LL (Lang rules) r.right u) : Lang rules A u := by
  obtain ⟨h', h2⟩ := LL_lang h
  exact ⟨h' + 1, r, hr, hl, h2⟩
theorem lang_ind {P : Nat → List Int → Prop} (hc : ∀ r ∈ rules, ∀ (A : Nat) (u : List Int), r.left = (A : Int) → LL P r.right u → P A u) : ∀ {A : Nat} {u : List Int}, Lang rules A u → P A u := by
  have key : ∀ h A u, LN rules h A u → P A u := by
    intro h
    induction h with
    | zero => intro A u hs; exact hs.elim
    | succ h ih =>
      rintro A u ⟨r, h1, h2, h3⟩
      exact hc r h1 A u h2 (LL_mono ih h3)
  rintro A u ⟨h, hs⟩
  exact key h A u hs
end
def seg (w : List Int) (i j : Nat) : List Int := (w.drop i).take (j - i)
theorem seg_len {w : List Int} {i j : Nat} (hj : j ≤ w.length) : (seg w i j).length = j - i := by
  unfold seg; rw [List.length_take, List.length_drop]; omega
theorem seg_app {w : List Int} {i p j : Nat} (h1 : i ≤ p) (h2 : p ≤ j) : seg w i p ++ seg w p j = seg w i j := by
  unfold seg
  have e : w.drop p = (w.drop i).drop (p - i) := by rw [List.drop_drop]; congr 1; omega
  rw [e, show j - i = (p - i) + (j - p) by omega, List.take_add]
theorem seg_one {w : List Int} {p : Nat} (hp : p < w.length) : seg w p (p + 1) = [w[p]] := by
  unfold seg
  rw [List.drop_eq_getElem_cons hp, show p + 1 - p = 1 by omega]
  rfl
theorem seg_nil {w : List Int} {i : Nat} : seg w i i = [] := by unfold seg; rw [Nat.sub_self, List.take_zero]
theorem seg_all {w : List Int} : seg w 0 w.length = w := by unfold seg; rw [List.drop_zero, Nat.sub_zero, List.take_length]
end Lg
end Go.Proofs.YtgcfpbjifjklbaaDoor
namespace Go.Proofs.YtgcfpbjifjklbaaDoor
open Go.RowKit
namespace Lg
def hit (E : Nat → Nat → Nat) (w : List Int) (s : Sym) (p j : Nat) : Prop := if s.term then w[p]? = some s.n ∧ j = p + 1 else (E s.n.toNat p).testBit j = true
def RB (E : Nat → Nat → Nat) (w : List Int) : List Sym → Nat → Nat → Prop
  | [], i, j => j = i
  | s :: l, i, j => ∃ p, hit E w s i p ∧ RB E w l p j
section
variable {rules : List Rule} {E E' : Nat → Nat → Nat} {w : List Int} {N : Nat}
theorem RB_snoc {s : Sym} : ∀ {l : List Sym} {i j : Nat}, RB E w (l ++ [s]) i j ↔ ∃ p, RB E w l i p ∧ hit E w s p j
  | [], i, j => by
    constructor
    · rintro ⟨p, h1, h2⟩
      obtain rfl : j = p := h2
      exact ⟨i, rfl, h1⟩
    · rintro ⟨p, h1, h2⟩
      obtain rfl : p = i := h1
      exact ⟨j, h2, rfl⟩
  | a :: l, i, j => by
    constructor
    · rintro ⟨p, h1, h2⟩
      obtain ⟨q, h3, h4⟩ := RB_snoc.1 h2
      exact ⟨q, ⟨p, h1, h3⟩, h4⟩
    · rintro ⟨q, ⟨p, h1, h3⟩, h4⟩
      exact ⟨p, h1, RB_snoc.2 ⟨q, h3, h4⟩⟩
def SoundE (rules : List Rule) (w : List Int) (E : Nat → Nat → Nat) : Prop := ∀ A i j, (E A i).testBit j = true → i ≤ j ∧ j ≤ w.length ∧ Lang rules A (seg w i j)
def ClosedE (rules : List Rule) (w : List Int) (E : Nat → Nat → Nat) : Prop := ∀ r ∈ rules, ∀ i, i ≤ w.length → ∀ j, RB E w r.right i j → (E r.left.toNat i).testBit j = true
theorem hit_sound (hs : SoundE rules w E) {s : Sym} {p j : Nat} (h : hit E w s p j) : p ≤ j ∧ j ≤ w.length ∧ LS (Lang rules) s (seg w p j) := by
  unfold hit at h
  unfold LS
  by_cases e : s.term = true
  · rw [if_pos e] at h ⊢
    obtain ⟨h1, rfl⟩ := h
    obtain ⟨hp, h2⟩ := List.getElem?_eq_some_iff.1 h1
    exact ⟨by omega, by omega, by rw [seg_one hp, h2]⟩
  · rw [if_neg e] at h ⊢
    exact hs _ _ _ h
theorem RB_sound (hs : SoundE rules w E) : ∀ {l : List Sym} {i j : Nat}, i ≤ w.length → RB E w l i j → i ≤ j ∧ j ≤ w.length ∧ LL (Lang rules) l (seg w i j)
  | [], i, j, hi, h => by
    obtain rfl : j = i := h
    exact ⟨Nat.le_refl _, hi, seg_nil⟩
  | s :: l, i, j, hi, ⟨p, h1, h2⟩ => by
    obtain ⟨a1, a2, a3⟩ := hit_sound hs h1
    obtain ⟨b1, b2, b3⟩ := RB_sound hs a2 h2
    exact ⟨by omega, b2, seg w i p, seg w p j, (seg_app a1 b1).symm, a3, b3⟩
theorem closed_all (hl : ∀ r ∈ rules, 0 ≤ r.left) (hc : ClosedE rules w E) {A : Nat} {u : List Int} (hu : Lang rules A u) : ∀ i, i + u.length ≤ w.length → seg w i (i + u.length) = u → (E A i).testBit (i + u.length) = true := by
  have key : ∀ (l : List Sym) (u : List Int), LL (fun A u => ∀ i, i + u.length ≤ w.length → seg w i (i + u.length) = u → (E A i).testBit (i + u.length) = true) l u → ∀ i, i + u.length ≤ w.length → seg w i (i + u.length) = u → RB E w l i (i + u.length) := by
    intro l
    induction l with
    | nil => intro u h i _ _; obtain rfl : u = [] := h; rfl
    | cons s l ih =>
      rintro u ⟨a, b, rfl, h1, h2⟩ i hi hseg
      rw [List.length_append] at hi hseg
      have e : seg w i (i + a.length) ++ seg w (i + a.length) (i + (a.length + b.length)) = a ++ b := by rw [seg_app (by omega) (by omega)]; exact hseg
      have hla : (seg w i (i + a.length)).length = a.length := by rw [seg_len (by omega)]; omega
      obtain ⟨ea, eb⟩ := List.append_inj e hla
      refine ⟨i + a.length, ?_, ?_⟩
      · unfold LS at h1
        unfold hit
        by_cases et : s.term = true
        · rw [if_pos et] at h1 ⊢
          subst h1
          have hp : i < w.length := by simp at hi; omega
          have h3 : seg w i (i + 1) = [s.n] := ea
          rw [seg_one hp] at h3
          refine ⟨?_, rfl⟩
          rw [List.getElem?_eq_getElem hp]
          simp at h3; rw [h3]
        · rw [if_neg et] at h1 ⊢
          exact h1 i (by omega) ea
      · have := ih b h2 (i + a.length) (by omega) (by rw [show i + a.length + b.length = i + (a.length + b.length) by omega]; exact eb)
        rw [List.length_append]
        rw [show i + a.length + b.length = i + (a.length + b.length) by omega] at this
        exact this
  refine lang_ind (P := fun A u => ∀ i, i + u.length ≤ w.length → seg w i (i + u.length) = u → (E A i).testBit (i + u.length) = true) (fun r hr A u hA h i hi hseg => ?_) hu
  have h1 := hc r hr i (by omega) _ (key r.right u h i hi hseg)
  have : r.left.toNat = A := by rw [hA]; simp
  rwa [this] at h1
theorem bits_lt {x m : Nat} (h : ∀ j, x.testBit j = true → j ≤ m) : x < 2 ^ (m + 1) := by
  refine Nat.lt_pow_two_of_testBit x fun j hj => ?_
  cases hx : x.testBit j with
  | false => rfl
  | true => have := h j hx; omega
theorem SoundE.lt (hs : SoundE rules w E) (hw : w.length ≤ 12) (A i : Nat) : E A i < 8192 := by
  have := bits_lt (x := E A i) (m := 12) fun j h => by have := (hs A i j h).2.1; omega
  exact this
def orE (E : Nat → Nat → Nat) (A i x : Nat) : Nat → Nat → Nat := fun B j => if B = A ∧ j = i then E A i ||| x else E B j
theorem orE_sound (hs : SoundE rules w E) {A i x : Nat} (hx : ∀ j, x.testBit j = true → i ≤ j ∧ j ≤ w.length ∧ Lang rules A (seg w i j)) : SoundE rules w (orE E A i x) := by
  intro B k j h
  unfold orE at h
  by_cases e : B = A ∧ k = i
  · rw [if_pos e, Nat.testBit_or] at h
    obtain ⟨rfl, rfl⟩ := e
    cases h1 : (E B k).testBit j with
    | true => exact hs _ _ _ h1
    | false => rw [h1] at h; exact hx j (by simpa using h)
  · rw [if_neg e] at h
    exact hs _ _ _ h
end
end Lg
end Go.Proofs.YtgcfpbjifjklbaaDoor
namespace Go.Proofs.YtgcfpbjifjklbaaDoor
open Go.RowKit
namespace Lg
theorem low_bit {x : Nat} (h0 : x ≠ 0) (h : x < 4294967296) : Lib.ctz 32 x < 32 ∧ x.testBit (Lib.ctz 32 x) = true ∧ (∀ q, (x &&& (x - 1)).testBit q = true ↔ x.testBit q = true ∧ q ≠ Lib.ctz 32 x) ∧ (x &&& (x - 1)) < x := by
  have hc : Lib.ctz 32 x = Lib.ctzFrom 32 x := by unfold Lib.ctz; rw [if_neg h0]
  obtain ⟨m, hm, hk⟩ := Lib.ctzFrom_spec 32 x (by omega) h
  rw [hc]
  obtain ⟨k, hkk⟩ : ∃ k, k = Lib.ctzFrom 32 x := ⟨_, rfl⟩
  rw [← hkk] at hm hk ⊢
  have hp : 0 < 2 ^ k := Nat.two_pow_pos k
  have e1 : x = 2 ^ k * (2 * m + 1) + 0 := by omega
  have e2 : x - 1 = 2 ^ k * (2 * m) + (2 ^ k - 1) := by rw [hm, Nat.mul_add]; omega
  have b1 : ∀ j, x.testBit j = if j < k then false else (2 * m + 1).testBit (j - k) := by
    intro j
    rw [e1, Nat.testBit_two_pow_mul_add _ hp]
    simp
  have b2 : ∀ j, k ≤ j → (x - 1).testBit j = (2 * m).testBit (j - k) := by
    intro j hj
    rw [e2, Nat.testBit_two_pow_mul_add _ (by omega), if_neg (by omega)]
  have hxk : x.testBit k = true := by
    rw [b1, if_neg (Nat.lt_irrefl k), Nat.sub_self, Nat.testBit_zero]
    simp
  have hq : ∀ q, (x &&& (x - 1)).testBit q = true ↔ x.testBit q = true ∧ q ≠ k := by
    intro q
    rw [Nat.testBit_and, Bool.and_eq_true]
    by_cases h1 : q < k
    · rw [b1, if_pos h1]; simp
    · by_cases h2 : q = k
      · subst h2
        rw [b2 q (Nat.le_refl q), Nat.sub_self, Nat.testBit_zero]
        simp
      · rw [b2 q (by omega), b1, if_neg h1]
        obtain ⟨i, hi⟩ : ∃ i, q - k = i + 1 := ⟨q - k - 1, by omega⟩
        rw [hi, Nat.testBit_succ, Nat.testBit_succ, show (2 * m + 1) / 2 = m by omega, show 2 * m / 2 = m by omega]
        simp [h2]
  refine ⟨hk, hxk, hq, ?_⟩
  have hle : (x &&& (x - 1)) ≤ x - 1 := Nat.and_le_right
  omega
def UpTo (a x : Nat) (R : Nat → Nat → Prop) (next : Nat) : Prop := (∀ q, x.testBit q = true → a.testBit q = true) ∧ ∀ j, next.testBit j = true ↔ ∃ p, a.testBit p = true ∧ ¬ x.testBit p = true ∧ R p j
theorem upTo_start {a : Nat} {R : Nat → Nat → Prop} : UpTo a a R 0 := by
  refine ⟨fun _ h => h, fun j => ⟨fun h => ?_, fun h => ?_⟩⟩
  · rw [Nat.zero_testBit] at h; cases h
  · obtain ⟨p, h1, h2, _⟩ := h; exact absurd h1 h2
theorem upTo_next {a x next y : Nat} {R : Nat → Nat → Prop} (h0 : x ≠ 0) (h : x < 4294967296) (hu : UpTo a x R next) (hy : ∀ j, y.testBit j = true ↔ R (Lib.ctz 32 x) j) : UpTo a (x &&& (x - 1)) R (next ||| y) := by
  obtain ⟨h1, h2, h3, h4⟩ := low_bit h0 h
  refine ⟨fun q hq => hu.1 q ((h3 q).1 hq).1, fun j => ?_⟩
  rw [Nat.testBit_or, Bool.or_eq_true, hu.2 j, hy j]
  constructor
  · rintro (⟨p, a1, a2, a3⟩ | hr)
    · exact ⟨p, a1, fun e => a2 ((h3 p).1 e).1, a3⟩
    · exact ⟨_, hu.1 _ h2, fun e => ((h3 _).1 e).2 rfl, hr⟩
  · rintro ⟨p, a1, a2, a3⟩
    by_cases e : p = Lib.ctz 32 x
    · subst e; exact .inr a3
    · exact .inl ⟨p, a1, fun hx => a2 ((h3 p).2 ⟨hx, e⟩), a3⟩
theorem upTo_end {a next : Nat} {R : Nat → Nat → Prop} (hu : UpTo a 0 R next) (j : Nat) : next.testBit j = true ↔ ∃ p, a.testBit p = true ∧ R p j := by
  rw [hu.2 j]
  constructor
  · rintro ⟨p, a1, _, a3⟩; exact ⟨p, a1, a3⟩
  · rintro ⟨p, a1, a3⟩; exact ⟨p, a1, by rw [Nat.zero_testBit]; decide, a3⟩
end Lg
end Go.Proofs.YtgcfpbjifjklbaaDoor
namespace Go.Proofs.YtgcfpbjifjklbaaDoor
open Go.RowKit
namespace Lg
def TabG (w : World) : Prop := ∀ j, j < 32 → w.cell? ⟨0, j, none⟩ = some (.int .u8 (Lib.deBruijn32tab.getD j 0))
theorem TabG.keep {w w' : World} (h : TabG w) (hb : Below w.heap.size w w') : TabG w' := fun j hj => (hb.cell (lt_of_cell (h j hj))).trans (h j hj)
set_option maxHeartbeats 1000000 in
theorem tz_core (x k idx : Nat) (w : World) (hx0 : ((x : Int) == 0) = false)
    (key : bits BinOp.and IntKind.u32 (x : Int) (-(x : Int) % 4294967296) * 125613361 % 4294967296 / 134217728 = (idx : Int))
    (hi : idx < 32) (hk : k < 32) (hcell : w.cell? ⟨0, idx, none⟩ = some (.int .u8 k)) :
    Calls Tryd.prog 82 #[.int .u32 x] w fun e w' => e = .returned (.int .i64 k) ∧ w' = w := by
  go_enter Tryd.func82, Tryd.ntmps82
  go_wp2_with (simp only [key])
  go_ret
  exact ⟨rfl, rfl⟩
theorem tzE (x : Nat) (hx : x < 4294967296) (hx0 : x ≠ 0) (w : World) (hT : TabG w) :
    Calls Tryd.prog 82 #[.int .u32 x] w fun e w' => e = .returned (.int .i64 (Lib.ctz 32 x)) ∧ w' = w := by
  obtain ⟨hlow, hk⟩ := Lib.lowest_bit 32 x hx0 hx
  obtain ⟨hi, htab⟩ := Lib.deBruijn32_at _ hk
  have hcell := hT _ hi
  rw [htab] at hcell
  exact tz_core x _ _ w (by simp; omega) (tz32_key x _ hx hx0 hlow) hi hk hcell
end Lg
end Go.Proofs.YtgcfpbjifjklbaaDoor
namespace Go.Proofs.YtgcfpbjifjklbaaDoor
open Go.RowKit
end Go.Proofs.YtgcfpbjifjklbaaDoor
namespace Go.Proofs.YtgcfpbjifjklbaaDoor
open Go.RowKit
namespace Lg
theorem pow_bit (p j : Nat) : (2 ^ p).testBit j = true ↔ j = p := by
  rw [Nat.testBit_two_pow]
  simp; exact eq_comm
def okSy (N : Nat) (s : Sym) : Prop := s.term = false → 0 ≤ s.n ∧ s.n.toNat < N
def ReachPost (E : Nat → Nat → Nat) (wd : List Int) (l : List Sym) (i : Nat) (W : World) (e : Ending) (w' : World) : Prop :=
  ∃ x : Nat, e = .returned (.int .u32 x) ∧ (∀ j, x.testBit j = true ↔ RB E wd l i j) ∧ Below W.heap.size W w'
set_option maxHeartbeats 8000000 in
set_option maxRecDepth 100000 in
theorem reachE {rules : List Rule} {E : Nat → Nat → Nat} {wd : List Int} {N n lo hi bt : Nat} {rb : Nat → Nat} (hn : wd.length = n) (hn12 : n ≤ 12) (hN : N ≤ 10) (hs : SoundE rules wd E) (l : List Sym) (hl : ∀ s ∈ l, okSy N s) (i : Nat) (hi' : i ≤ n)
    (wa : Option Addr) (wc : Nat) (la : Option Addr) (lc : Nat) (W : World) (hw : Sl W (.slice wa n wc) (ints wd)) (htb   : Cs.Tb 110 lo hi bt N (n + 1) rb (fun a k => .int .u32 (E a k : Int)) W) (hhi : hi ≤ W.heap.size) (hrd : Rd AnyB W (.sl (l.map Sym.d)) [.slice la l.length lc]) (hT : TabG W) :
    Calls Tryd.prog 60 #[.slice wa n wc, .slice (some ⟨bt, 0, none⟩) N N, .slice la l.length lc, .int .i64 (i : Int)] W (ReachPost E wd l i W) := by
  obtain ⟨PST, HP⟩ := nameIt (ReachPost E wd l i W)
  have HFIN : Hid (∀ (x : Nat) w', (∀ j, x.testBit j = true ↔ RB E wd l i j) → Below W.heap.size W w' → PST (.returned (.int .u32 (x : Int))) w') := by
    intro x w' h1 h2
    rw [← HP.out]
    exact ⟨x, rfl, h1, h2⟩
  rw [HP.out]
  have HS := Lib.hid hs
  have HW := Lib.hid hw
  have HTB : Hid (∀ w', Below W.heap.size W w' → Cs.Tb 110 lo hi bt N (n + 1) rb (fun a k => .int .u32 (E a k : Int)) w') := fun w' h => htb.keep hhi h
  have HRD := Lib.hid hrd
  have HOK := Lib.hid hl
  have HTG : Hid (∀ w', Below W.heap.size W w' → TabG w') := fun w' h => hT.keep h
  have HNL := Lib.hid hn
  have hlb := hrd.bounds.2
  unfold maxLen at hlb
  obtain ⟨hlc1, hlc2⟩ := hlb
  have hwb := hw.len.2
  unfold maxLen at hwb
  obtain ⟨hwc1, hwc2⟩ := hwb
  have HR0 : Hid (∀ j, (2 ^ i).testBit j = true ↔ RB E wd (l.take 0) i j) := fun j => pow_bit i j
  have HRB : Hid (∀ q x, (∀ j, x.testBit j = true ↔ RB E wd (l.take q) i j) → x < 8192 ∧ ∀ p, x.testBit p = true → p ≤ n) := by
    intro q x hx
    have h1 : ∀ p, x.testBit p = true → p ≤ n := fun p hp => by have := (RB_sound hs (by omega) ((hx p).1 hp)).2.1; omega
    exact ⟨bits_lt (m := 12) fun j hj => by have := h1 j hj; omega, h1⟩
  have HHB : Hid (∀ (s : Sym) (a X nx : Nat), UpTo a X (fun p j => hit E wd s p j) nx → nx < 8192) := by
    intro s a X nx hu
    refine bits_lt (m := 12) fun j hj => ?_
    obtain ⟨p, _, _, h3⟩ := (hu.2 j).1 hj
    have := (hit_sound hs h3).2.1
    omega
  have HEB : Hid (∀ A k, E A k < 8192) := fun A k => hs.lt (by omega) A k
  have HSH : Hid (∀ p : Nat, p ≤ 13 → ((2 : Int) ^ p % 4294967296) = ((2 ^ p : Nat) : Int)) := by
    intro p hp
    have h1 : 2 ^ p ≤ 2 ^ 13 := Nat.pow_le_pow_right (by decide) hp
    have h2 : (2 : Int) ^ p = ((2 ^ p : Nat) : Int) := by push_cast; rfl
    rw [h2]
    exact Int.emod_eq_of_lt (Int.natCast_nonneg _) (by omega)
  obtain ⟨ln, HLN⟩ := nameIt l.length
  rw [HLN.out] at HRD hlc1
  rw [HLN.out]
  clear hs hw htb hrd hl hT HP
  go_enter Tryd.func60, Tryd.ntmps60
  go_upto_region 2 with fail
  rw [HSH.out i (by omega)]
  obtain ⟨x0, HX0⟩ := nameIt (2 ^ i)
  rw [HX0.out] at HR0
  rw [HX0.out]
  go_wp2_with fail
  go_loopg [9, 12, 13, 14, 19] ln (fun gg v9 v12 v13 v14 v19 wr => ∃ (q x : Nat), q ≤ ln ∧ ln - q ≤ gg ∧ v9 = .int .u32 (x : Int) ∧ v19 = .int .i64 (q : Int) ∧ Hid (∀ j, x.testBit j = true ↔ RB E wd (l.take q) i j) ∧ Hid (Below W.heap.size W wr))
  case atStart => exact ⟨0, x0, by omega, by omega, rfl, rfl, HR0, Below.refl _ _⟩
  case round =>
    clear HR0
    obtain ⟨q, x, hq, hgq, rfl, rfl, HX, HB⟩ := hrel
    obtain ⟨w2, rfl⟩ : ∃ ww : World, ww = wr := ⟨_, rfl⟩
    by_cases hlt : q < ln
    · have hlt' : (q : Int) < (ln : Int) := by omega
      have hq0 : (0 : Int) ≤ (q : Int) := by omega
      have hqx : q < l.length := by rw [HLN.out]; exact hlt
      obtain ⟨sb, so, hae, -, hsb, s0, s1⟩ := (show Rd AnyB W (.sl (l.map Sym.d)) [.slice la l.length lc] by rw [HLN.out]; exact HRD.out).sym_at hqx
      have u0 := (HB.out.cell (lt_of_cell s0)).trans s0
      have u1 := (HB.out.cell (lt_of_cell s1)).trans s1
      have HSNOC : Hid (∀ j, RB E wd (l.take (q + 1)) i j ↔ ∃ p, RB E wd (l.take q) i p ∧ hit E wd l[q] p j) := by
        intro j
        rw [List.take_succ_eq_append_getElem hqx]
        exact RB_snoc
      have HOS := Lib.hid (HOK.out _ (List.getElem_mem hqx))
      obtain ⟨⟨st, sn⟩, HSY⟩ := nameIt (l[q]'hqx)
      rw [HSY.out] at u0 u1 HSNOC HOS
      simp only at u0 u1
      obtain ⟨hx8, hxn⟩ := HRB.out q x HX.out
      have HXN := Lib.hid hxn
      obtain ⟨w3, HW3⟩ := nameIt (w2.alloc (.cells #[.bool st, .int .i64 sn] 60))
      have hb3 : Below w2.heap.size w2 w3 := by rw [← HW3.out]; exact (Below.refl _ _).alloc (Nat.le_refl _) _
      have HB3 : Hid (Below W.heap.size W w3) := HB.out.trans (hb3.mono HB.out.size)
      have S3 : Hid (w3.heap[w2.heap.size]? = some (.cells #[.bool st, .int .i64 sn] 60 (0, 0))) := by rw [← HW3.out]; exact bx_new _ _ _ rfl
      have HU0 : Hid (UpTo x x (fun p j => hit E wd ⟨st, sn⟩ p j) 0) := upTo_start
      obtain ⟨gb, HGB⟩ := nameIt w2.heap.size
      rw [HGB.out] at S3
      subst hae
      clear s0 s1 hb3 hxn
      go_upto_region 5 with fail
      rw [HW3.out, HGB.out]
      clear u0 u1 HW3 HGB
      go_wp2_with fail
      go_loopg [12, 13, 14] x (fun gg v12 v13 v14 wr => ∃ (X nx : Nat), X ≤ gg ∧ X < 8192 ∧ v12 = .int .u32 (nx : Int) ∧ v13 = .int .u32 (X : Int) ∧ Hid (UpTo x X (fun p j => hit E wd ⟨st, sn⟩ p j) nx) ∧ Hid (Below W.heap.size W wr) ∧ Hid (wr.heap[gb]? = some (.cells #[.bool st, .int .i64 sn] 60 (0, 0))))
      case atStart => exact ⟨x, 0, Nat.le_refl _, hx8, rfl, rfl, HU0, HB3, S3⟩
      case round =>
        clear HU0 HB3 S3
        obtain ⟨X, nx, hgX, hX8, rfl, rfl, HU, HB3, S3⟩ := hrel
        obtain ⟨w4, rfl⟩ : ∃ ww : World, ww = wr := ⟨_, rfl⟩
        obtain ⟨z0, z1⟩ := bx_cells2 S3.out
        have hnx := HHB.out _ _ _ _ HU.out
        by_cases hX0 : X = 0
        · subst hX0
          have HXE : Hid (∀ j, nx.testBit j = true ↔ RB E wd (l.take (q + 1)) i j) := by
            intro j
            rw [upTo_end HU.out j, HSNOC.out j]
            constructor
            · rintro ⟨p, a1, a2⟩; exact ⟨p, (HX.out p).1 a1, a2⟩
            · rintro ⟨p, a1, a2⟩; exact ⟨p, (HX.out p).2 a1, a2⟩
          clear hnx z0 z1
          go_wp2_with fail
          go_roundg (ln - (q + 1))
          case measure => omega
          case rel => exact ⟨q + 1, nx, by omega, by omega, rfl, by go_num, HXE, HB3⟩
        · have hne : ((X : Int) != 0) = true := by simpa using hX0
          have HTZ := Lib.hid (tzE X (by omega) hX0 w4 (HTG.out w4 HB3.out))
          obtain ⟨hp1, hp2, hp3, hp4⟩ := low_bit hX0 (show X < 4294967296 by omega)
          have HNEXT : Hid (∀ y, (∀ j, y.testBit j = true ↔ hit E wd ⟨st, sn⟩ (Lib.ctz 32 X) j) → UpTo x (X &&& (X - 1)) (fun p j => hit E wd ⟨st, sn⟩ p j) (nx ||| y)) := fun y hy => upTo_next hX0 (by omega) HU.out hy
          have hpn : Lib.ctz 32 X ≤ n := HXN.out _ (HU.out.1 _ hp2)
          have hand : bits BinOp.and IntKind.u32 (X : Int) ((X : Int) - 1) = ((X &&& (X - 1) : Nat) : Int) := by
            have e1 : (X : Int) - 1 = ((X - 1 : Nat) : Int) := by omega
            rw [e1]; exact u32_and_nat X (X - 1) (by omega) (by omega)
          obtain ⟨p, HPN⟩ := nameIt (Lib.ctz 32 X)
          rw [HPN.out] at HTZ HNEXT hpn
          obtain ⟨X2, HX2⟩ := nameIt (X &&& (X - 1))
          rw [HX2.out] at HNEXT hand hp4
          have hX28 : X2 < 8192 := by omega
          clear hp1 hp2 hp3 HU
          go_wp2_with fail
          with_reducible refine HTZ.out.mono ?_
          rintro e w5 ⟨rfl, rfl⟩
          have hhit : ∀ j, hit E wd ⟨st, sn⟩ p j ↔ if st then wd[p]? = some sn ∧ j = p + 1 else (E sn.toNat p).testBit j = true := fun _ => Iff.rfl
          have HHIT := Lib.hid hhit
          clear hhit HHB
          cases st with
          | false =>
            obtain ⟨hq1, hq2⟩ := HOS.out rfl
            simp only at hq1 hq2
            obtain ⟨B, rfl⟩ : ∃ B : Nat, sn = (B : Int) := ⟨sn.toNat, by omega⟩
            rw [Int.toNat_natCast] at hq2
            have hB0 : (0 : Int) ≤ (B : Int) := by omega
            have hB1 : (B : Int) < (N : Int) := by omega
            have c0 := (HTB.out w5 HB3.out).head hq2
            have c1 := (HTB.out w5 HB3.out).cell hq2 (show p < n + 1 by omega)
            obtain ⟨M, HM⟩ := nameIt (n + 1)
            rw [HM.out] at c0
            have hpM : (p : Int) < (M : Int) := by have := HM.out; omega
            have hp0 : (0 : Int) ≤ (p : Int) := by omega
            have HUN := Lib.hid (HNEXT.out (E B p) (fun j => by rw [HHIT.out j]; rfl))
            have hor : bits BinOp.or IntKind.u32 (nx : Int) (E B p : Int) = ((nx ||| E B p : Nat) : Int) := u32_or_nat nx (E B p) (by omega) (by have := HEB.out B p; omega)
            obtain ⟨y, HY⟩ := nameIt (E B p)
            rw [HY.out] at c1 HUN hor
            obtain ⟨n2, HN2⟩ := nameIt (nx ||| y)
            rw [HN2.out] at HUN hor
            clear HNEXT HHIT HTZ
            go_wp2_with fail
            go_roundg X2
            case measure => omega
            case rel => exact ⟨X2, n2, by omega, hX28, by first | rfl | go_num, by first | rfl | exact congrArg _ hand, HUN, HB3, S3⟩
          | true =>
            have HNO : Hid (¬ (wd[p]? = some sn) → UpTo x X2 (fun p j => hit E wd ⟨true, sn⟩ p j) nx) := by
              intro hne
              have := HNEXT.out 0 (fun j => by
                rw [HHIT.out j, if_pos rfl, Nat.zero_testBit]
                exact ⟨fun h => absurd h (by decide), fun h => absurd h.1 hne⟩)
              simpa using this
            have HYES : Hid (wd[p]? = some sn → UpTo x X2 (fun p j => hit E wd ⟨true, sn⟩ p j) (nx ||| 2 ^ (p + 1))) := fun he => HNEXT.out _ (fun j => by
              rw [HHIT.out j, if_pos rfl]
              constructor
              · intro h; exact ⟨he, (pow_bit _ _).1 h⟩
              · intro h; exact (pow_bit _ _).2 h.2)
            have hp0 : (0 : Int) ≤ (p : Int) := by omega
            clear HNEXT HHIT HTZ
            by_cases hpn2 : p < n
            · have hpn3 : (p : Int) < (n : Int) := by omega
              have hpl : p < wd.length := by rw [HNL.out]; exact hpn2
              obtain ⟨wb, wo, hwe, hwcell⟩ := (HW.out.keep HB3.out).at hpn2
              have d0 := hwcell p (by rw [ints_len]; exact hpl)
              rw [ints_get] at d0
              have hgx : wd[p]? = some wd[p] := List.getElem?_eq_getElem hpl
              rw [hgx] at HNO HYES
              obtain ⟨wx, HWX⟩ := nameIt (wd[p]'hpl)
              rw [HWX.out] at d0 HNO HYES
              subst hwe
              clear hwcell hgx
              by_cases he : wx = sn
              · have HUN := Lib.hid (HYES.out (by rw [he]))
                have hbe : (wx == sn) = true := by simpa using he
                have hpw : IntKind.i64.wrap ((p : Int) + 1) = ((p + 1 : Nat) : Int) := by rw [IntWalk.i64_in _ (by omega)]; omega
                have hpw2 : (IntKind.i64.wrap ((p : Int) + 1)).toNat = p + 1 := by rw [hpw]; omega
                have hsh := HSH.out (p + 1) (by omega)
                have hor : bits BinOp.or IntKind.u32 (nx : Int) ((2 ^ (p + 1) : Nat) : Int) = ((nx ||| 2 ^ (p + 1) : Nat) : Int) := u32_or_nat nx _ (by omega) (by have : 2 ^ (p + 1) ≤ 2 ^ 13 := Nat.pow_le_pow_right (by decide) (by omega); omega)
                obtain ⟨n2, HN2⟩ := nameIt (nx ||| 2 ^ (p + 1))
                rw [HN2.out] at HUN hor
                go_wp2_with fail
                go_quiet (fail)
                have HB6 := Lib.hid (HB3.out.trans ((below_drewN w5 nq).mono HB3.out.size))
                have S6 := Lib.hid (bx_keep S3.out (below_drewN w5 nq))
                have HPW := Lib.hid hpw
                have HPW2 := Lib.hid hpw2
                have HSHH := Lib.hid hsh
                have HOR := Lib.hid hor
                clear hpw hpw2 hsh hor
                go_upto_region 8 with fail
                rw [HSHH.out, HOR.out]
                go_wp2_with fail
                go_roundg X2
                case measure => omega
                case rel => exact ⟨X2, n2, by omega, hX28, by first | rfl | go_num, by first | rfl | exact congrArg _ hand | go_num, HUN, HB6, S6⟩
              · have HUN := Lib.hid (HNO.out (by intro h; exact he (Option.some.inj h)))
                have hbe : (wx == sn) = false := by simpa using he
                go_wp2_with fail
                go_quiet (fail)
                have HB6 := Lib.hid (HB3.out.trans ((below_drewN w5 nq).mono HB3.out.size))
                have S6 := Lib.hid (bx_keep S3.out (below_drewN w5 nq))
                go_wp2_with fail
                go_roundg X2
                case measure => omega
                case rel => exact ⟨X2, nx, by omega, hX28, by first | rfl | go_num, by first | rfl | exact congrArg _ hand | go_num, HUN, HB6, S6⟩
            · have hpn3 : ¬ (p : Int) < (n : Int) := by omega
              have HUN := Lib.hid (HNO.out (by rw [List.getElem?_eq_none (by rw [HNL.out]; omega)]; intro h; cases h))
              go_wp2_with fail
              go_quiet (fail)
              have HB6 := Lib.hid (HB3.out.trans ((below_drewN w5 nq).mono HB3.out.size))
              have S6 := Lib.hid (bx_keep S3.out (below_drewN w5 nq))
              go_wp2_with fail
              go_roundg X2
              case measure => omega
              case rel => exact ⟨X2, nx, by omega, hX28, by first | rfl | go_num, by first | rfl | exact congrArg _ hand | go_num, HUN, HB6, S6⟩
    · have hlt' : ¬ (q : Int) < (ln : Int) := by omega
      have HXE : Hid (∀ j, x.testBit j = true ↔ RB E wd l i j) := by
        have := HX.out
        rwa [List.take_of_length_le (by rw [HLN.out]; omega)] at this
      have HE := Lib.hid (HFIN.out x w2 HXE.out HB.out)
      go_wp2_with fail
      exact HE.out
end Lg
end Go.Proofs.YtgcfpbjifjklbaaDoor
namespace Go.Proofs.YtgcfpbjifjklbaaDoor
open Go.RowKit
namespace Lg
def sumR (f : Nat → Nat) : Nat → Nat
  | 0 => 0
  | k + 1 => sumR f k + f k
theorem sumR_le {f g : Nat → Nat} : ∀ {n : Nat}, (∀ i, i < n → g i ≤ f i) → sumR g n ≤ sumR f n
  | 0, _ => Nat.le_refl _
  | n + 1, h => by
    have h1 := sumR_le (n := n) (f := f) (g := g) fun i hi => h i (by omega)
    have h2 := h n (by omega)
    show sumR g n + g n ≤ sumR f n + f n
    omega
theorem sumR_lt {f g : Nat → Nat} {k : Nat} (hk : g k < f k) : ∀ {n : Nat}, k < n → (∀ i, i < n → g i ≤ f i) → sumR g n < sumR f n
  | 0, h, _ => by omega
  | n + 1, h, hle => by
    show sumR g n + g n < sumR f n + f n
    by_cases e : k = n
    · subst e
      have h1 := sumR_le (n := k) (f := f) (g := g) fun i hi => hle i (by omega)
      omega
    · have h1 := sumR_lt (n := n) hk (by omega) fun i hi => hle i (by omega)
      have h2 := hle n (by omega)
      omega
def muE (E : Nat → Nat → Nat) (N M : Nat) : Nat := sumR (fun a => sumR (fun k => 8192 - E a k) M) N
theorem muE_or {E : Nat → Nat → Nat} {A i x N M : Nat} (hA : A < N) (hi : i < M) (h1 : E A i < E A i ||| x) (h2 : E A i ||| x < 8192) : muE (orE E A i x) N M < muE E N M := by
  have hle : ∀ a k, 8192 - orE E A i x a k ≤ 8192 - E a k := by
    intro a k
    unfold orE
    split
    · rename_i e; obtain ⟨rfl, rfl⟩ := e; omega
    · exact Nat.le_refl _
  refine sumR_lt (k := A) ?_ hA fun a _ => sumR_le fun k _ => hle a k
  refine sumR_lt (k := i) ?_ hi fun k _ => hle A k
  show 8192 - orE E A i x A i < 8192 - E A i
  unfold orE
  rw [if_pos ⟨rfl, rfl⟩]
  omega
theorem andNot_zero {x y : Nat} (hx : x < 4294967296) (hy : y < 4294967296) (h : x &&& (4294967295 - y) = 0) (j : Nat) (hj : x.testBit j = true) : y.testBit j = true := by
  have h1 : (x &&& (4294967295 - y)).testBit j = false := by rw [h]; exact Nat.zero_testBit j
  rw [Nat.testBit_and, hj, Bool.true_and] at h1
  have h2 : 4294967295 - y = 2 ^ 32 - (y + 1) := by omega
  rw [h2, Nat.testBit_two_pow_sub_succ (by omega)] at h1
  have h3 : j < 32 := by
    refine Nat.lt_of_not_le fun h3 => ?_
    have : x < 2 ^ j := Nat.lt_of_lt_of_le (show x < 2 ^ 32 from hx) (Nat.pow_le_pow_right (by decide) h3)
    rw [Nat.testBit_lt_two_pow this] at hj
    cases hj
  simpa [h3] using h1
theorem or_lt {x y : Nat} (hx : x < 4294967296) (hy : y < 4294967296) (h : x &&& (4294967295 - y) ≠ 0) : y < y ||| x := by
  refine Nat.lt_of_le_of_ne Nat.left_le_or fun e => h ?_
  refine Nat.eq_of_testBit_eq fun j => ?_
  rw [Nat.zero_testBit, Nat.testBit_and]
  cases hj : x.testBit j with
  | false => rfl
  | true =>
    have h1 : y.testBit j = true := by rw [e, Nat.testBit_or, hj, Bool.or_true]
    have h2 : 4294967295 - y = 2 ^ 32 - (y + 1) := by omega
    rw [h2, Nat.testBit_two_pow_sub_succ (by omega), h1]
    simp
def ClAt (wd : List Int) (E : Nat → Nat → Nat) (r : Rule) (i : Nat) : Prop := ∀ j, RB E wd r.right i j → (E r.left.toNat i).testBit j = true
def ClTo (rules : List Rule) (wd : List Int) (E : Nat → Nat → Nat) (q : Nat) : Prop := ∀ r ∈ rules.take q, ∀ i, i ≤ wd.length → ClAt wd E r i
theorem clTo_next {rules : List Rule} {wd : List Int} {E : Nat → Nat → Nat} {q : Nat} (hq : q < rules.length) (h : ClTo rules wd E q) (h2 : ∀ i, i ≤ wd.length → ClAt wd E rules[q] i) : ClTo rules wd E (q + 1) := by
  intro r hr
  rw [List.take_succ_eq_append_getElem hq, List.mem_append] at hr
  rcases hr with hr | hr
  · exact h r hr
  · simp at hr; subst hr; exact h2
theorem clTo_end {rules : List Rule} {wd : List Int} {E : Nat → Nat → Nat} {q : Nat} (hq : rules.length ≤ q) (h : ClTo rules wd E q) : ClosedE rules wd E := by
  intro r hr i hi
  exact h r (by rw [List.take_of_length_le hq]; exact hr) i hi
structure EI (rules : List Rule) (wd : List Int) (w : World) (H bt N M : Nat) (rb : Nat → Nat) (E : Nat → Nat → Nat) (G : Array Value) (wr : World) : Prop where
  tab : Cs.Tb 110 (w.heap.size + 1) H bt N M rb (fun a k => .int .u32 (E a k : Int)) wr
  bel : Below w.heap.size w wr
  hs : H ≤ wr.heap.size
  box : wr.heap[w.heap.size]? = some (.cells G 24 (0, 0))
  snd : SoundE rules wd E
section
variable {rules : List Rule} {wd : List Int} {w : World} {H bt N M : Nat} {rb : Nat → Nat} {E : Nat → Nat → Nat} {G : Array Value} {wr w' : World}
theorem EI.keep (h : EI rules wd w H bt N M rb E G wr) (hb : Below wr.heap.size wr w') : EI rules wd w H bt N M rb E G w' :=
  ⟨h.tab.keep h.hs hb, h.bel.trans (hb.mono h.bel.size), Nat.le_trans h.hs hb.size, bx_keep h.box hb, h.snd⟩
theorem EI.set (h : EI rules wd w H bt N M rb E G wr) {A i x : Nat} (hA : A < N) (hi : i < M) (hs : SoundE rules wd (orE E A i x)) : EI rules wd w H bt N M rb (orE E A i x) G (wr.setCell ⟨rb A, i, none⟩ (.int .u32 ((E A i ||| x : Nat) : Int))) := by
  have hne := (h.tab.ne A hA).2
  refine ⟨(h.tab.set hA hi _).eq (fun a k _ _ => ?_), h.bel.setCell (by show w.heap.size ≤ rb A; omega) _, ?_, bx_other h.box (by show w.heap.size ≠ rb A; omega) _ _, hs⟩
  · unfold orE
    split <;> rfl
  · simpa using h.hs
end
structure GI (w : World) (bt N M : Nat) (G : Array Value) (rb : Nat → Nat) (hi : Nat) (wr : World) : Prop where
  tab : Grd 109 110 (w.heap.size + 1) bt N M hi rb (fun _ _ => .int .u32 0) wr
  bel : Below w.heap.size w wr
  box : wr.heap[w.heap.size]? = some (.cells G 24 (0, 0))
theorem GI.fin {rules : List Rule} {wd : List Int} {w : World} {bt N M : Nat} {G : Array Value} {rb : Nat → Nat} {wr : World} (h : GI w bt N M G rb N wr) : EI rules wd w wr.heap.size bt N M rb (fun _ _ => 0) G wr := by
  have hbt := h.tab.lt
  have hrl := fun k hk => h.tab.rlt (k := k) hk hk
  obtain ⟨⟨⟨cs, h1, h2, h3⟩, h4, h5, h6, h7⟩, h8, h9⟩ := h
  refine ⟨⟨⟨cs, _, h1, fun a ha => h3 a ha ha⟩, fun a ha => h4 a ha ha, fun a b ha hb => h5 a b ha hb ha hb, fun a ha => ⟨(h6 a ha ha).1, (h6 a ha ha).2, hrl a ha⟩, h7, hbt⟩, h8, Nat.le_refl _, h9, fun A i j hj => ?_⟩
  rw [Nat.zero_testBit] at hj; cases hj
def EndsPost (rules : List Rule) (wd : List Int) (N : Nat) (W : World) (e : Ending) (w' : World) : Prop :=
  ∃ (bt H : Nat) (rb : Nat → Nat) (E : Nat → Nat → Nat), e = .returned (.slice (some ⟨bt, 0, none⟩) N N) ∧ Cs.Tb 110 (W.heap.size + 1) H bt N (wd.length + 1) rb (fun a k => .int .u32 (E a k : Int)) w' ∧ H ≤ w'.heap.size ∧ SoundE rules wd E ∧ ClosedE rules wd E ∧ Below W.heap.size W w'
end Lg
end Go.Proofs.YtgcfpbjifjklbaaDoor
namespace Go.Proofs.YtgcfpbjifjklbaaDoor
open Go.RowKit
namespace Fb
set_option maxHeartbeats 1000000 in
set_option maxRecDepth 100000 in
theorem indexBanE (l : List Ban) (b : Ban) (la : Option Addr) (lc : Nat) (W : World) (hl : Rd AnyB W (.sl (l.map Ban.d)) [.slice la l.length lc]) :
    Calls Tryd.prog 61 #[.slice la l.length lc, .agg #[.int .i64 b.rule, .int .i64 b.pos, .int .i64 b.kid]] W fun e w' => ∃ r : Int, e = .returned (.int .i64 r) ∧ decide (0 ≤ r) = decide (b ∈ l) ∧ Below W.heap.size W w' := by
  obtain ⟨hc3, hc4⟩ := hl.bounds.2
  unfold maxLen at hc4
  have HMT : Hid (∀ i (h : i < l.length), l[i] = b → b ∈ l) := fun i h e => by rw [← e]; exact List.getElem_mem h
  have HMF : Hid ((∀ i (h : i < l.length), l[i] ≠ b) → b ∉ l) := fun h hm => by obtain ⟨i, hi, e⟩ := List.getElem_of_mem hm; exact h i hi e
  have HDEC : Hid (∀ r : Int, (0 ≤ r ↔ b ∈ l) → decide (0 ≤ r) = decide (b ∈ l)) := fun r h => by simp [h]
  obtain ⟨b1, b2, b3⟩ := b
  obtain ⟨PST, HP⟩ := nameIt (fun (e : Ending) (w' : World) => ∃ r : Int, e = .returned (.int .i64 r) ∧ decide (0 ≤ r) = decide ((⟨b1, b2, b3⟩ : Ban) ∈ l) ∧ Below W.heap.size W w')
  have HFIN : Hid (∀ (r : Int) w', (0 ≤ r ↔ (⟨b1, b2, b3⟩ : Ban) ∈ l) → Below W.heap.size W w' → PST (.returned (.int .i64 r)) w') := fun r w' h1 h2 => by rw [← HP.out]; exact ⟨r, rfl, HDEC.out r h1, h2⟩
  rw [HP.out]
  clear HP HDEC
  obtain ⟨ln, HLN⟩ := nameIt l.length
  obtain ⟨w0, HW0⟩ := nameIt (W.alloc (.cells #[.int .i64 b1, .int .i64 b2, .int .i64 b3] 42))
  have HB0 : Hid (Below W.heap.size W w0) := by rw [← HW0.out]; exact (Below.refl _ _).alloc (Nat.le_refl _) _
  have X1 : Hid (w0.heap[W.heap.size]? = some (.cells #[.int .i64 b1, .int .i64 b2, .int .i64 b3] 42 (0, 0))) := by rw [← HW0.out]; exact bx_new _ _ _ rfl
  have HL := Lib.hid (hl.below HB0.out)
  rw [HLN.out] at hc3
  rw [HLN.out] at HL
  have hl1 : W.heap.size < w0.heap.size := (Array.getElem?_eq_some_iff.1 X1.out).1
  simp only
  rw [HLN.out]
  clear hl
  go_enter Tryd.func61, Tryd.ntmps61
  go_upto_region 1 with fail
  rw [HW0.out]
  clear HW0
  go_wp2_with fail
  go_loopg [8] ln (fun gg v8 wr => ∃ i : Nat, i ≤ ln ∧ ln - i ≤ gg ∧ v8 = .int .i64 i ∧ Hid (Below w0.heap.size w0 wr) ∧ Hid (∀ k (h : k < l.length), k < i → l[k] ≠ ⟨b1, b2, b3⟩))
  case atStart => exact ⟨0, by omega, by omega, rfl, Below.refl _ _, fun k h1 h2 => by omega⟩
  case round =>
    obtain ⟨i, hi, hg, rfl, HB, HNO⟩ := hrel
    by_cases hlt : i < ln
    · have hlt' : (i : Int) < (ln : Int) := by omega
      have hic : (i : Int) ≤ (lc : Int) := by omega
      have hil : i < l.length := by rw [HLN.out]; exact hlt
      obtain ⟨bb, bo, hae, -, hbl, c0, c1, c2⟩ := Rd.ban_at (HL.out.below HB.out) hil
      have HT := Lib.hid (fun e => HMT.out i hil e)
      have HNX : Hid (l[i] ≠ ⟨b1, b2, b3⟩ → ∀ k (h : k < l.length), k < i + 1 → l[k] ≠ ⟨b1, b2, b3⟩) := fun hne k h1 h2 => by
        by_cases e : k = i
        · subst e; exact hne
        · exact HNO.out k h1 (by omega)
      obtain ⟨x, HX⟩ := nameIt (l[i]'hil)
      rw [HX.out] at c0 c1 c2 HT HNX
      obtain ⟨x1, x2, x3⟩ := x
      simp only at c0 c1 c2
      obtain ⟨y0, y1, y2⟩ := bx_cells3 (bx_keep X1.out HB.out)
      have hBW : Hid (∀ w', Below wr.heap.size wr w' → Below W.heap.size W w') := fun w' hb => HB0.out.trans ((HB.out.trans (hb.mono HB.out.size)).mono HB0.out.size)
      have HBn : Hid (∀ w', Below wr.heap.size wr w' → Below w0.heap.size w0 w') := fun w' hb => HB.out.trans (hb.mono HB.out.size)
      subst hae
      have hcase : (b1 = x1 ∧ b2 = x2 ∧ b3 = x3) ∨ ((b1 == x1) = false) ∨ ((b1 == x1) = true ∧ (b2 == x2) = false) ∨ ((b1 == x1) = true ∧ (b2 == x2) = true ∧ (b3 == x3) = false) := by
        simp only [beq_eq_false_iff_ne, beq_iff_eq]; omega
      go_upto_region 4 with fail
      clear hbl HNO
      rcases hcase with ⟨rfl, rfl, rfl⟩ | q1 | ⟨q1, q2⟩ | ⟨q1, q2, q3⟩
      · have HE := Lib.hid (HT.out rfl)
        go_quiet (fail)
        go_wp2_with fail
        exact HFIN.out _ _ ⟨fun _ => HE.out, fun _ => by omega⟩ (hBW.out _ (below_drewN _ _))
      all_goals
        have HE := Lib.hid (HNX.out (by intro e; injection e with e1 e2 e3; subst e1 e2 e3; simp at *))
        go_quiet (fail)
        go_wp2_with fail
        go_roundg (ln - (i + 1))
        case measure => omega
        case rel => exact ⟨i + 1, by omega, by omega, by go_num, HBn.out _ (below_drewN _ _), HE.out⟩
    · have hlt' : ¬ (i : Int) < (ln : Int) := by omega
      have HE : Hid (¬ (⟨b1, b2, b3⟩ : Ban) ∈ l) := HMF.out fun k h => HNO.out k h (by rw [HLN.out] at h; omega)
      go_wp2_with fail
      exact HFIN.out _ _ ⟨fun h => absurd h (by decide), fun h => absurd h HE.out⟩ (HB0.out.trans (HB.out.mono HB0.out.size))
set_option maxHeartbeats 1000000 in
set_option maxRecDepth 100000 in
theorem containsBanE (l : List Ban) (b : Ban) (la : Option Addr) (lc : Nat) (W : World) (hl : Rd AnyB W (.sl (l.map Ban.d)) [.slice la l.length lc]) :
    Calls Tryd.prog 41 #[.slice la l.length lc, .agg #[.int .i64 b.rule, .int .i64 b.pos, .int .i64 b.kid]] W fun e w' => e = .returned (.bool (decide (b ∈ l))) ∧ Below W.heap.size W w' := by
  obtain ⟨w0, HW0⟩ := nameIt (W.alloc (.cells #[.int .i64 b.rule, .int .i64 b.pos, .int .i64 b.kid] 42))
  have hb0 : Below W.heap.size W w0 := by rw [← HW0.out]; exact (Below.refl _ _).alloc (Nat.le_refl _) _
  have X1 : Hid (w0.heap[W.heap.size]? = some (.cells #[.int .i64 b.rule, .int .i64 b.pos, .int .i64 b.kid] 42 (0, 0))) := by rw [← HW0.out]; exact bx_new _ _ _ rfl
  have HC := Lib.hid (indexBanE l b la lc w0 (hl.below hb0))
  obtain ⟨B, HBn⟩ := nameIt (decide (b ∈ l))
  rw [HBn.out] at HC ⊢
  obtain ⟨b1, b2, b3⟩ := b
  simp only at HW0 X1 HC ⊢
  obtain ⟨ln, HLN⟩ := nameIt l.length
  rw [HLN.out] at HC ⊢
  obtain ⟨y0, y1, y2⟩ := bx_cells3 X1.out
  have HB0 := Lib.hid hb0
  have hl1 : W.heap.size < w0.heap.size := (Array.getElem?_eq_some_iff.1 X1.out).1
  clear hb0 hl
  go_enter Tryd.func41, Tryd.ntmps41
  go_upto_region 1 with fail
  rw [HW0.out]
  clear HW0
  go_wp2_with fail
  refine HC.out.mono ?_
  rintro e w1 ⟨r, rfl, hr, hb1⟩
  have HE : Hid (Below W.heap.size W w1) := HB0.out.trans (hb1.mono HB0.out.size)
  clear hb1
  go_wp2_with fail
  go_ret
  exact ⟨rfl, HE.out⟩
end Fb
end Go.Proofs.YtgcfpbjifjklbaaDoor
