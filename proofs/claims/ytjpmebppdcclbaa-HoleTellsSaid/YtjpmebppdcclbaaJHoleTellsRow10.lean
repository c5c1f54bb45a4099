/- The contract of gram.Check. A census counter in memory; its readers: has, can, split. census.Counter.Of and List. census.Counter.Of. A table in memory: rows of one-cell values, made from the first to the last. The closing of a table of edges in place; the answers written down. Plain: the passes over the table of lengths end; the counter's table written to. Plain: how many trees of at most so many levels there are. Plain: what the second implementation lists: all trees, if there are not too many, or too high. The contract of RuleFault: it is gram.Check's. Items as keys of a map. A row of the call's own that is also cut at its front: append to it. The lengths of words: two ways to reckon them, in plain Lean. lengthsOf: its boxes, its two rows of items, and its set. The walk of lengthsOf's inner function. lengthsOf: what a round adds, in plain Lean. The contract of Groups' inner function: what is derived from a nonterminal. The contract of approx.derives. lens.Set: what its rounds keep. The contract of grid, of truth values. lengthsOf: what its rounds keep. parlref5.lister.fits. parlref5.lister.trees. parlref5.lister.trees. A block that is known whole is a row. census.Counter.loops. parlref5.lister.rows. The walk of lengthsOf. census.Make. census.check and census.Trees. Plain: how many nodes a listed tree has. census.Trees. census.Total. rank.count and rank.Count. The contract of tree.Word. What rank.numberer.of meets: valid trees, the counter between calls. Plain: the number that rank.of reckons is the place in the list of all trees. rank.numberer.of. The contracts of gram.Root and of the functions of tree.valid. The contracts of tree.valid, tree.Check and tree.Symbol. The contract of tree.valid. The contracts of tree.Symbol and of Label. slices.Equal of symbols. rank.Of. The lengths of a census are those of the second implementation; parlref5.Listed. -/
import Derived.Test.YtjpmebppdcclbaaJHoleTellsRow7
import Derived.Deep.DeepCutAuto
import Derived.Test.YtjpmebppdcclbaaJHoleTellsRow9
import Derived.Test.YtjpmebppdcclbaaJHoleTellsRow3
import Derived.Test.YtjpmebppdcclbaaJHoleTellsRow4
import Derived.BigQuiet
import Derived.Deep.RegionHeld3
import Derived.StillTailTactics
import Derived.Lib.MinMax
import Derived.Test.YtjpmebppdcclbaaJHoleTellsRow2
import Derived.DeepKeys4
import Derived.Test.YtjpmebppdcclbaaJHoleTellsRow1
import Derived.IntWalk
import Derived.Deep.CutBlock
import Derived.Deep.LoopGhost
import Derived.Test.YtjpmebppdcclbaaJHoleTellsRow6
import Derived.Deep.QuietTactic
import Derived.Laws.StructEq
namespace Go.Proofs.Ytjpmebppdcclbaa
open Go.RowKit
theorem cells4 {W w' : World} (hb : Below W.heap.size W w') {b1 b2 : Nat} {T : TypeId} {a0 a1 c0 c1 : Value} (h1 : W.heap[b1]? = some (.cells #[a0, a1] T (0, 0))) (h2 : W.heap[b2]? = some (.cells #[c0, c1] T (0, 0))) :
    w'.cell? ⟨b1, 0, none⟩ = some a0 ∧ w'.cell? ⟨b1, 0 + 1, none⟩ = some a1 ∧ w'.cell? ⟨b2, 0, none⟩ = some c0 ∧ w'.cell? ⟨b2, 0 + 1, none⟩ = some c1 := by
  obtain ⟨x1, x2⟩ := bx_cells2 (bx_keep h1 hb)
  obtain ⟨x4, x5⟩ := bx_cells2 (bx_keep h2 hb)
  exact ⟨x1, x2, x4, x5⟩
set_option maxHeartbeats 1000000 in
set_option maxRecDepth 100000 in
theorem compareR (x y : Rule) (a a' : Option Addr) (c c' : Nat) (w : World) (hx : Rd AnyB w (.sl (x.right.map Sym.d)) [.slice a x.right.length c]) (hy : Rd AnyB w (.sl (y.right.map Sym.d)) [.slice a' y.right.length c']) :
    Calls Try.prog 37 #[.agg #[.int .i64 x.left, .slice a x.right.length c], .agg #[.int .i64 y.left, .slice a' y.right.length c']] w fun e w' => e = .returned (.int .i64 (cmpR x y)) ∧ Below w.heap.size w w' := by
  obtain ⟨lx, HLX⟩ := nameIt x.left
  obtain ⟨ly, HLY⟩ := nameIt y.left
  obtain ⟨nx, HNX⟩ := nameIt x.right.length
  obtain ⟨ny, HNY⟩ := nameIt y.right.length
  obtain ⟨w0, HW0⟩ := nameIt ((w.alloc (.cells #[.int .i64 lx, .slice a nx c] 69)).alloc (.cells #[.int .i64 ly, .slice a' ny c'] 69))
  have HB : Hid (Below w.heap.size w w0) := by rw [← HW0.out]; exact ((Below.refl _ _).alloc (Nat.le_refl _) _).alloc (by simp) _
  have X1 : Hid (w0.heap[w.heap.size]? = some (.cells #[.int .i64 lx, .slice a nx c] 69 (0, 0))) := by
    rw [← HW0.out]; exact bx_keep (bx_new _ _ _ rfl) ((Below.refl _ _).alloc (Nat.le_refl _) _)
  have X2 : Hid (w0.heap[w.heap.size + 1]? = some (.cells #[.int .i64 ly, .slice a' ny c'] 69 (0, 0))) := by
    rw [← HW0.out]; exact bx_new _ _ _ (by simp)
  obtain ⟨q1, HQ1⟩ := nameIt (cmp3 lx ly)
  obtain ⟨q2, HQ2⟩ := nameIt (cmpS x.right y.right)
  have C1 := Lib.hid (fun W => compareInt lx ly W)
  have C2 := Lib.hid (fun W (hb : Below w0.heap.size w0 W) => compareSyms a a' c c' x.right y.right W ((hx.below HB.out).below hb) ((hy.below HB.out).below hb))
  rw [HQ1.out] at C1
  rw [HQ2.out, HNX.out, HNY.out] at C2
  have HR : Hid (cmpR x y = orL [q1, q2]) := by show _ = _; unfold cmpR; rw [HLX.out, HLY.out, HQ1.out, HQ2.out]
  rw [HLX.out, HLY.out, HNX.out, HNY.out]
  obtain ⟨x0, x1⟩ := bx_cells2 X1.out
  obtain ⟨y0, y1⟩ := bx_cells2 X2.out
  clear hx hy
  go_enter Try.func37, Try.ntmps37
  go_wp2_with fail
  rw [HW0.out]
  go_region_held3 (fun w' => w'.cell? ⟨w.heap.size, 0, none⟩ = some (.int .i64 lx) ∧ w'.cell? ⟨w.heap.size, 0 + 1, none⟩ = some (.slice a nx c) ∧ w'.cell? ⟨w.heap.size + 1, 0, none⟩ = some (.int .i64 ly) ∧ w'.cell? ⟨w.heap.size + 1, 0 + 1, none⟩ = some (.slice a' ny c'))
    (first | exact cells4 (Below.refl _ _).drew X1.out X2.out | exact cells4 (HB2.out.alloc HB2.out.size _) X1.out X2.out | exact cells4 HB2.out X1.out X2.out | fail)
    (first
      | (go_at_call 71; (with_reducible refine (C1.out _).mono ?_); rintro e w' ⟨rfl, rfl⟩)
      | (go_at_call 75; (with_reducible refine (C2.out _ (Below.refl _ _).drew).mono ?_); rintro e w2 ⟨rfl, hb2⟩; have HB2 : Hid (Below w0.heap.size w0 w2) := (Below.refl _ _).drew.trans hb2; clear hb2)
      | (go_at_call 70; (with_reducible refine (orInt _ [q1, q2] _ (sl_lit (v := #[.int .i64 q1, .int .i64 q2]) rfl (of_decide_eq_true rfl))).mono ?_); rintro e w' ⟨rfl, rfl⟩)
      | fail)
  go_wp2_with fail
  go_ret
  have hB := HB.out.trans (HB2.out.mono HB.out.size)
  exact ⟨by rw [HR.out]; rfl, hB.alloc hB.size _⟩
set_option maxHeartbeats 1000000 in
set_option maxRecDepth 100000 in
theorem hasE (g : Gram) (a : Option Addr) (n c : Nat) (s : Sym) (w : World) :
    Calls Try.prog 34 #[.agg #[.int .i64 g.terms, .int .i64 g.nons, .int .i64 g.start, .slice a n c], .agg #[.bool s.term, .int .i64 s.n]] w fun e w' => e = .returned (.bool (hasS g s)) ∧ Below w.heap.size w w' := by
  obtain ⟨gt, HGT⟩ := nameIt g.terms
  obtain ⟨gn, HGN⟩ := nameIt g.nons
  obtain ⟨gs, HGS⟩ := nameIt g.start
  obtain ⟨st, HST⟩ := nameIt s.term
  obtain ⟨sn, HSN⟩ := nameIt s.n
  obtain ⟨B, HBn⟩ := nameIt (hasS g s)
  have HV : Hid ((decide (0 ≤ sn) && (st && decide (sn < gt) || !st && decide (sn < gn))) = B) := by show _ = _; rw [← HBn.out]; unfold hasS; rw [HGT.out, HGN.out, HST.out, HSN.out]
  rw [HGT.out, HGN.out, HGS.out, HST.out, HSN.out, HBn.out]
  by_cases h0 : 0 ≤ sn
  · have b0 : decide (0 ≤ sn) = true := by simpa using h0
    cases st with
    | true =>
      by_cases h1 : sn < gt
      · have b1 : decide (sn < gt) = true := by simpa using h1
        obtain rfl : B = true := by rw [← HV.out]; simp [h0, h1]
        clear h0 h1
        go_enter Try.func34, Try.ntmps34
        go_wp2_with fail
        go_ret
        exact ⟨rfl, ((Below.refl _ _).alloc (Nat.le_refl _) _).alloc (by simp) _⟩
      · have b1 : decide (sn < gt) = false := by simpa using h1
        obtain rfl : B = false := by rw [← HV.out]; simp [h0, h1]
        clear h0 h1
        go_enter Try.func34, Try.ntmps34
        go_wp2_with fail
        go_ret
        exact ⟨rfl, ((Below.refl _ _).alloc (Nat.le_refl _) _).alloc (by simp) _⟩
    | false =>
      by_cases h1 : sn < gn
      · have b1 : decide (sn < gn) = true := by simpa using h1
        obtain rfl : B = true := by rw [← HV.out]; simp [h0, h1]
        clear h0 h1
        go_enter Try.func34, Try.ntmps34
        go_wp2_with fail
        go_ret
        exact ⟨rfl, ((Below.refl _ _).alloc (Nat.le_refl _) _).alloc (by simp) _⟩
      · have b1 : decide (sn < gn) = false := by simpa using h1
        obtain rfl : B = false := by rw [← HV.out]; simp [h0, h1]
        clear h0 h1
        go_enter Try.func34, Try.ntmps34
        go_wp2_with fail
        go_ret
        exact ⟨rfl, ((Below.refl _ _).alloc (Nat.le_refl _) _).alloc (by simp) _⟩
  · have b0 : decide (0 ≤ sn) = false := by simpa using h0
    obtain rfl : B = false := by rw [← HV.out]; simp [h0]
    clear h0
    go_enter Try.func34, Try.ntmps34
    go_wp2_with fail
    go_ret
    exact ⟨rfl, ((Below.refl _ _).alloc (Nat.le_refl _) _).alloc (by simp) _⟩
set_option maxHeartbeats 1000000 in
theorem hasF (g : Gram) (b : Nat) (a : Option Addr) (n c : Nat) (l : List Sym) (w : World) (hx : w.heap[b]? = some (.cells #[.int .i64 g.terms, .int .i64 g.nons, .int .i64 g.start, .slice a n c] 24 (0, 0))) :
    PredSym 33 #[.pointer (some ⟨b, 0, none⟩)] l (fun s => !hasS g s) w := by
  intro W s _ hb
  have hc := hasE g a n c s
  have hx' := bx_keep hx hb
  obtain ⟨gt, HGT⟩ := nameIt g.terms
  obtain ⟨gn, HGN⟩ := nameIt g.nons
  obtain ⟨gs, HGS⟩ := nameIt g.start
  obtain ⟨st, HST⟩ := nameIt s.term
  obtain ⟨sn, HSN⟩ := nameIt s.n
  obtain ⟨B, HBn⟩ := nameIt (hasS g s)
  rw [HGT.out, HGN.out, HGS.out] at hx'
  rw [HGT.out, HGN.out, HGS.out, HST.out, HSN.out, HBn.out] at hc
  dsimp only
  rw [HST.out, HSN.out, HBn.out]
  obtain ⟨x0, x1, x2, x3⟩ := bx_cells4 hx'
  have hlt := (Array.getElem?_eq_some_iff.1 hx').1
  have HC := Lib.hid hc
  clear hc hx hb hx'
  show Calls _ _ #[_, _] _ _
  go_enter Try.func33, Try.ntmps33
  go_wp2_with fail
  refine (HC.out _).mono ?_
  rintro e w1 ⟨rfl, hb1⟩
  have hB := (Below.refl W.heap.size W).alloc (Nat.le_refl _) (.cells #[.bool st, .int .i64 sn] 44)
  have HB1 := Lib.hid (hB.trans (hb1.mono hB.size))
  clear hb1 hB x0 x1 x2 x3
  cases B
  all_goals
    go_wp2_with fail
    go_ret
    exact ⟨rfl, HB1.out⟩
set_option maxHeartbeats 1000000 in
theorem sameRF (r : Rule) (b : Nat) (ar : Option Addr) (cr : Nat) (l : List Rule) (w : World) (hx : w.heap[b]? = some (.cells #[.int .i64 r.left, .slice ar r.right.length cr] 69 (0, 0))) (hr : Rd AnyB w (.sl (r.right.map Sym.d)) [.slice ar r.right.length cr]) :
    PredRule 36 #[.pointer (some ⟨b, 0, none⟩)] l (fun x => cmpR x r == 0) w := by
  intro W x v _ hb hv
  obtain ⟨av, cv, rfl, -, -⟩ := hv.form
  rw [List.length_map] at hv ⊢
  have hx' := bx_keep hx hb
  have hc := fun W' (h : Below W.heap.size W W') => compareR x r av ar cv cr W' (hv.below h) ((hr.below hb).below h)
  obtain ⟨lx, HLX⟩ := nameIt x.left
  obtain ⟨nx, HNX⟩ := nameIt x.right.length
  obtain ⟨lr, HLR⟩ := nameIt r.left
  obtain ⟨nr, HNR⟩ := nameIt r.right.length
  obtain ⟨q, HQ⟩ := nameIt (cmpR x r)
  rw [HLX.out, HNX.out, HLR.out, HNR.out, HQ.out] at hc
  rw [HLR.out, HNR.out] at hx'
  dsimp only
  rw [HLX.out, HNX.out, HQ.out]
  obtain ⟨x0, x1⟩ := bx_cells2 hx'
  have hlt := (Array.getElem?_eq_some_iff.1 hx').1
  have HC := Lib.hid hc
  clear hc hx hb hx' hv hr
  show Calls _ _ #[_, _] _ _
  go_enter Try.func36, Try.ntmps36
  go_wp2_with fail
  refine (HC.out _ ((Below.refl _ _).alloc (Nat.le_refl _) _)).mono ?_
  rintro e w1 ⟨rfl, hb1⟩
  have hB := (Below.refl W.heap.size W).alloc (Nat.le_refl _) (.cells #[.int .i64 lx, .slice av nx cv] 69)
  have HB1 := Lib.hid (hB.trans (hb1.mono hB.size))
  clear hb1 hB x0 x1
  go_wp2_with fail
  go_ret
  exact ⟨rfl, HB1.out⟩
theorem Rd.start {S : Nat → Prop} {w : World} {ds : List D} {a : Option Addr} {n cap i : Nat} (h : Rd S w (.sl ds) [.slice a n cap]) (hi : i ≤ ds.length) : Rd S w (.sl (ds.take i)) [.slice a i cap] := by
  obtain ⟨a', cap', L, e, h1, h2, h3, h4, h5⟩ := h
  simp at e
  obtain ⟨rfl, rfl, rfl⟩ := e
  rw [← List.take_append_drop i ds] at h5
  obtain ⟨c1, c2, rfl, h6, h7⟩ := h5.split
  refine ⟨a, cap, c1, by simp; omega, by simp; omega, h2, h3, fun j hj => ?_, h6⟩
  have := h4 j (by simp; omega)
  rwa [List.getElem_append_left hj] at this
theorem badHead_cases {g : Gram} (h : badHead g = true) : (decide (g.terms < 1) = true) ∨ (decide (g.terms < 1) = false ∧ decide (8 < g.terms) = true) ∨ (decide (g.terms < 1) = false ∧ decide (8 < g.terms) = false ∧ decide (g.nons < 1) = true) ∨ (decide (g.terms < 1) = false ∧ decide (8 < g.terms) = false ∧ decide (g.nons < 1) = false ∧ decide (10 < g.nons) = true) ∨
    (decide (g.terms < 1) = false ∧ decide (8 < g.terms) = false ∧ decide (g.nons < 1) = false ∧ decide (10 < g.nons) = false ∧ decide (g.start < 0) = true) ∨ (decide (g.terms < 1) = false ∧ decide (8 < g.terms) = false ∧ decide (g.nons < 1) = false ∧ decide (10 < g.nons) = false ∧ decide (g.start < 0) = false ∧ decide (g.nons ≤ g.start) = true) := by
  simp [badHead] at h ⊢
  omega
theorem goodHead {g : Gram} (h : ¬ badHead g = true) : decide (g.terms < 1) = false ∧ decide (8 < g.terms) = false ∧ decide (g.nons < 1) = false ∧ decide (10 < g.nons) = false ∧ decide (g.start < 0) = false ∧ decide (g.nons ≤ g.start) = false := by
  simp [badHead] at h ⊢
  omega
set_option maxHeartbeats 4000000 in
set_option maxRecDepth 100000 in
theorem checkE (g : Gram) (ar : Option Addr) (cr : Nat) (w : World) (hr : Rd AnyB w (.sl (g.rules.map Rule.d)) [.slice ar g.rules.length cr]) :
    Calls Try.prog 10 #[.agg #[.int .i64 g.terms, .int .i64 g.nons, .int .i64 g.start, .slice ar g.rules.length cr]] w fun e w' => e = .returned (.int .i64 (checkG g)) ∧ Below w.heap.size w w' := by
  have hbs := hr.bounds.2
  unfold maxLen at hbs
  obtain ⟨hc1, hc2⟩ := hbs
  obtain ⟨gt, HGT⟩ := nameIt g.terms
  obtain ⟨gn, HGN⟩ := nameIt g.nons
  obtain ⟨gs, HGS⟩ := nameIt g.start
  obtain ⟨K, HK⟩ := nameIt g.rules
  have HBC := Lib.hid (@badHead_cases g)
  have HGH := Lib.hid (@goodHead g)
  rw [HGT.out, HGN.out, HGS.out] at HBC HGH
  obtain ⟨w0, HW0⟩ := nameIt (w.alloc (.cells #[.int .i64 gt, .int .i64 gn, .int .i64 gs, .slice ar K.length cr] 24))
  have HB0 : Hid (Below w.heap.size w w0) := by rw [← HW0.out]; exact (Below.refl _ _).alloc (Nat.le_refl _) _
  have X1 : Hid (w0.heap[w.heap.size]? = some (.cells #[.int .i64 gt, .int .i64 gn, .int .i64 gs, .slice ar K.length cr] 24 (0, 0))) := by rw [← HW0.out]; exact bx_new _ _ _ rfl
  have HR := Lib.hid (hr.below HB0.out)
  rw [HK.out] at HR hc1
  rw [HGT.out, HGN.out, HGS.out, HK.out]
  obtain ⟨x0, x1, x2, x3⟩ := bx_cells4 X1.out
  clear hr
  by_cases hbad : badHead g = true
  · have HE : Hid (checkG g = 1) := by show _ = _; simp [checkG, hbad]
    rcases HBC.out hbad with h1 | ⟨h1, h2⟩ | ⟨h1, h2, h3⟩ | ⟨h1, h2, h3, h4⟩ | ⟨h1, h2, h3, h4, h5⟩ | ⟨h1, h2, h3, h4, h5, h6⟩
    all_goals
      clear hbad
      go_enter Try.func10, Try.ntmps10
      go_upto_region 1 with fail
      rw [HW0.out]
      go_wp2_with fail
      go_ret
      exact ⟨by rw [HE.out]; rfl, HB0.out⟩
  · obtain ⟨h1, h2, h3, h4, h5, h6⟩ := HGH.out hbad
    have HBD := Lib.hid hbad
    clear hbad
    by_cases hlen : 32 < K.length
    · have HE : Hid (checkG g = 2) := by show _ = _; rw [checkG, if_neg HBD.out, HK.out, if_pos hlen]
      have hlen' : (32 : Int) < (K.length : Int) := by omega
      go_enter Try.func10, Try.ntmps10
      go_upto_region 1 with fail
      rw [HW0.out]
      go_wp2_with fail
      go_ret
      exact ⟨by rw [HE.out]; rfl, HB0.out⟩
    · have HE : Hid (checkG g = faultsFrom g 0 K) := by show _ = _; rw [checkG, if_neg HBD.out, HK.out, if_neg hlen]
      have hlen' : ¬ (32 : Int) < (K.length : Int) := by omega
      go_enter Try.func10, Try.ntmps10
      go_upto_region 1 with fail
      rw [HW0.out]
      go_wp2_with fail
      clear h1 h2 h3 h4 h5 h6 x0 x1 x2 x3
      go_loopg [42] K.length (fun gg v42 wr => ∃ i : Nat, i ≤ K.length ∧ K.length - i ≤ gg ∧ v42 = .int .i64 i ∧ Hid (Below w0.heap.size w0 wr) ∧ Hid (faultsFrom g i (K.drop i) = faultsFrom g 0 K))
      case atStart => exact ⟨0, by omega, by omega, rfl, Below.refl _ _, rfl⟩
      case round =>
        obtain ⟨i, hi, hg, rfl, HB, HF⟩ := hrel
        by_cases hlt : i < K.length
        · have hlt' : (i : Int) < (K.length : Int) := by omega
          have hiK : (i : Int) ≤ (cr : Int) := by omega
          obtain ⟨b, off, vr, hae, -, hbl, c0, c1, hkr⟩ := (HR.out.below HB.out).rule_at hlt
          obtain ⟨av, cv, rfl, -, hcv⟩ := hkr.form
          rw [List.length_map] at c1 hkr
          have h1 := HF.out
          have hrl : i < g.rules.length := by rw [HK.out]; exact hlt
          rw [← HK.out, faultsFrom_at hrl] at h1
          simp only [HK.out] at h1
          obtain ⟨r, HRn⟩ := nameIt (K[i]'hlt)
          rw [HRn.out] at c0 c1 hkr h1
          have hbl2 : b < wr.heap.size := hbl
          obtain ⟨w4, HW4⟩ := nameIt (wr.alloc (.cells #[.int .i64 r.left, .slice av r.right.length cv] 69))
          have hb4 : Below wr.heap.size wr w4 := by rw [← HW4.out]; exact (Below.refl _ _).alloc (Nat.le_refl _) _
          have X4 : Hid (w4.heap[wr.heap.size]? = some (.cells #[.int .i64 r.left, .slice av r.right.length cv] 69 (0, 0))) := by rw [← HW4.out]; exact bx_new _ _ _ rfl
          have HB4 := Lib.hid (HB.out.trans (hb4.mono HB.out.size))
          have HKR := Lib.hid (hkr.below hb4)
          have X1' := Lib.hid (bx_keep X1.out HB4.out)
          have HX1 := X1'
          rw [← HGT.out, ← HGN.out, ← HGS.out] at HX1
          have PS := Lib.hid (hasF g w.heap.size ar K.length cr r.right w4 HX1.out)
          have CS := Lib.hid (containsFuncSym 33 #[.pointer (some ⟨w.heap.size, 0, none⟩)] (fun s => !hasS g s) av cv r.right w4 (fun _ _ => by kernel_rfl) PS.out HKR.out)
          have htl : (K.take i).length = i := by simp; omega
          have hst : ∀ W, Below w4.heap.size w4 W → Rd AnyB W (.sl ((K.take i).map Rule.d)) [.slice ar (K.take i).length cr] := by
            intro W hb
            have h2 := (((HR.out.below HB4.out).below hb).start (i := i) (by simp; omega))
            rw [← List.map_take] at h2
            rw [htl]; exact h2
          have CRR := Lib.hid (fun W (hb : Below w4.heap.size w4 W) => containsFuncRule 36 #[.pointer (some ⟨wr.heap.size, 0, none⟩)] (fun x => cmpR x r == 0) ar cr (K.take i) W (fun _ _ => by kernel_rfl) (sameRF r wr.heap.size av cv (K.take i) W (bx_keep X4.out hb) (HKR.out.below hb)) (hst W hb))
          rw [htl] at CRR
          obtain ⟨lf, HLF⟩ := nameIt r.left
          obtain ⟨rn, HRNn⟩ := nameIt r.right.length
          obtain ⟨A1, HA1⟩ := nameIt (r.right.any fun s => !hasS g s)
          obtain ⟨A2, HA2⟩ := nameIt ((K.take i).any fun x => cmpR x r == 0)
          have hfr : faultR g i r = if lf < 0 ∨ gn ≤ lf then 3 else if 4 < rn then 2 else if A1 then 3 else if A2 then 6 else 0 := by
            unfold faultR; rw [HLF.out, HGN.out, HRNn.out, HA1.out, HK.out, HA2.out]
          rw [HLF.out] at c0 HW4
          rw [HRNn.out] at c1 HW4 CS
          rw [HA1.out] at CS
          simp only [HA2.out] at CRR
          have X4' := X4
          rw [HLF.out, HRNn.out] at X4'
          obtain ⟨y0, y1⟩ := bx_cells2 X4'.out
          obtain ⟨x0, x1, x2, x3⟩ := bx_cells4 X1'.out
          have hl4 : wr.heap.size < w4.heap.size := (Array.getElem?_eq_some_iff.1 X4'.out).1
          have hl1 : w.heap.size < w4.heap.size := (Array.getElem?_eq_some_iff.1 X1'.out).1
          have HFR := Lib.hid hfr
          have H1 := Lib.hid h1
          have hrn : (rn : Int) ≤ 9223372036854775807 := by have := HKR.out.bounds.2; rw [HRNn.out] at this; unfold maxLen at this hcv; omega
          subst hae
          clear hkr hb4 h1 hfr htl hst
          by_cases ha : lf < 0 ∨ gn ≤ lf
          · have hf : faultR g i r = 3 := by rw [HFR.out, if_pos ha]
            have HE2 : Hid (faultsFrom g 0 K = 3) := by show _ = _; rw [← H1.out, hf, if_neg (by decide)]
            have ha' : (decide (lf < 0) = true) ∨ (decide (lf < 0) = false ∧ decide (gn ≤ lf) = true) := by simp; omega
            clear hf ha
            rcases ha' with k1 | ⟨k1, k2⟩
            all_goals
              go_upto_region 8 with fail
              rw [HW4.out]
              go_wp2_with fail
              go_ret
              exact ⟨by rw [HE.out, HE2.out]; rfl, HB0.out.trans (HB4.out.mono HB0.out.size)⟩
          · have k1 : decide (lf < 0) = false := by simp; omega
            have k2 : decide (gn ≤ lf) = false := by simp; omega
            have HFa : Hid (faultR g i r = if 4 < rn then 2 else if A1 then 3 else if A2 then 6 else 0) := by show _ = _; rw [HFR.out, if_neg ha]
            clear ha HFR
            by_cases hb : 4 < rn
            · have k3 : (4 : Int) < (rn : Int) := by omega
              have hf : faultR g i r = 2 := by rw [HFa.out, if_pos hb]
              have HE2 : Hid (faultsFrom g 0 K = 2) := by show _ = _; rw [← H1.out, hf, if_neg (by decide)]
              clear hf
              go_upto_region 8 with fail
              rw [HW4.out]
              go_wp2_with fail
              go_ret
              exact ⟨by rw [HE.out, HE2.out]; rfl, HB0.out.trans (HB4.out.mono HB0.out.size)⟩
            · have k3 : ¬ (4 : Int) < (rn : Int) := by omega
              have HFb : Hid (faultR g i r = if A1 then 3 else if A2 then 6 else 0) := by show _ = _; rw [HFa.out, if_neg hb]
              clear HFa
              go_upto_region 8 with fail
              rw [HW4.out]
              go_wp2_with fail
              refine CS.out.mono ?_
              rintro e w5 ⟨rfl, hb5⟩
              have HB45 := Lib.hid hb5
              have HB5 := Lib.hid (HB4.out.trans (hb5.mono HB4.out.size))
              obtain ⟨x0, x1, x2, x3⟩ := bx_cells4 (bx_keep X1'.out hb5)
              have hl15 : w.heap.size < w5.heap.size := (Array.getElem?_eq_some_iff.1 (bx_keep X1'.out hb5)).1
              clear hb5 y0 y1
              cases A1 with
              | true =>
                have hf : faultR g i r = 3 := by rw [HFb.out, if_pos rfl]
                have HE2 : Hid (faultsFrom g 0 K = 3) := by show _ = _; rw [← H1.out, hf, if_neg (by decide)]
                clear hf
                go_wp2_with fail
                go_ret
                exact ⟨by rw [HE.out, HE2.out]; rfl, HB0.out.trans (HB5.out.mono HB0.out.size)⟩
              | false =>
                go_wp2_with fail
                refine (CRR.out _ HB45.out).mono ?_
                rintro e w6 ⟨rfl, hb6⟩
                have HB6 := Lib.hid (HB5.out.trans (hb6.mono HB5.out.size))
                clear hb6 x0 x1 x2 x3
                cases A2 with
                | true =>
                  have hf : faultR g i r = 6 := by rw [HFb.out]; rfl
                  have HE2 : Hid (faultsFrom g 0 K = 6) := by show _ = _; rw [← H1.out, hf, if_neg (by decide)]
                  clear hf
                  go_wp2_with fail
                  go_ret
                  exact ⟨by rw [HE.out, HE2.out]; rfl, HB0.out.trans (HB6.out.mono HB0.out.size)⟩
                | false =>
                  have hf : faultR g i r = 0 := by rw [HFb.out]; rfl
                  have HE2 : Hid (faultsFrom g (i + 1) (K.drop (i + 1)) = faultsFrom g 0 K) := by show _ = _; rw [← H1.out, hf, if_pos rfl]
                  clear hf
                  go_wp2_with fail
                  go_roundg (K.length - (i + 1))
                  case measure => omega
                  case rel => exact ⟨i + 1, by omega, by omega, by go_num, HB6, HE2⟩
        · have hlt' : ¬ (i : Int) < (K.length : Int) := by omega
          have HE2 : Hid (faultsFrom g 0 K = 0) := by show _ = _; rw [← HF.out, List.drop_of_length_le (by omega)]; rfl
          go_wp2_with fail
          go_ret
          exact ⟨by rw [HE.out, HE2.out]; rfl, HB0.out.trans (HB.out.mono HB0.out.size)⟩
end Go.Proofs.Ytjpmebppdcclbaa
namespace Go.Proofs.Ytjpmebppdcclbaa
open Go.RowKit
namespace Cs
structure Cid where
  cb : Nat
  b1 : Nat
  b2 : Nat
  b3 : Nat
  b4 : Nat
  ts : Nat
  tm : Nat
  tc : Nat
  ks : Nat
  km : Nat
  kc : Nat
  rs : Nat → Nat
  rm : Nat → Nat
  rc : Nat → Nat
structure CI (g : Gram) (vr : Value) (N n : Nat) (d : Cid) (S M : Nat → Nat → Bool) (C : Nat → Nat → Int) (W : World) : Prop where
  box : ∃ T, W.heap[d.cb]? = some (.cells #[.int .i64 g.terms, .int .i64 g.nons, .int .i64 g.start, vr, .int .i64 (n : Int), .slice (some ⟨d.ts, 0, none⟩) N d.ks, .slice (some ⟨d.tm, 0, none⟩) N d.km, .slice (some ⟨d.tc, 0, none⟩) N d.kc] T (0, 0))
  some' : Tb 4 d.b1 d.b2 d.ts N (n + 1) d.rs (fun a k => .bool (S a k)) W
  many : Tb 4 d.b2 d.b3 d.tm N (n + 1) d.rm (fun a k => .bool (M a k)) W
  cnt : Tb 3 d.b3 d.b4 d.tc N (n + 1) d.rc (fun a k => .int .i64 (C a k)) W
  le : d.b4 ≤ d.cb
section
variable {g : Gram} {vr : Value} {N n : Nat} {d : Cid} {S M : Nat → Nat → Bool} {C : Nat → Nat → Int} {W W' : World}
theorem CI.lt (h : CI g vr N n d S M C W) : d.cb < W.heap.size := by obtain ⟨T, h⟩ := h.box; exact (Array.getElem?_eq_some_iff.1 h).1
theorem CI.keep (h : CI g vr N n d S M C W) (hb : Below W.heap.size W W') : CI g vr N n d S M C W' := by
  have hlt := h.lt
  obtain ⟨⟨T, h1⟩, h2, h3, h4, h5⟩ := h
  have p2 := h2.pl
  have p3 := h3.pl
  have p4 := h4.pl
  exact ⟨⟨T, bx_keep h1 hb⟩, h2.keep (by omega) hb, h3.keep (by omega) hb, h4.keep (by omega) hb, h5⟩
end
def okS (N : Nat) (s : Sym) : Prop := s.term = false → 0 ≤ s.n ∧ s.n.toNat < N
end Cs
end Go.Proofs.Ytjpmebppdcclbaa
namespace Go.Proofs.Ytjpmebppdcclbaa
open Go.RowKit
namespace Cs
structure Fr (N : Nat) (d : Cid) (W W' : World) : Prop where
  os : W'.os = W.os
  tape : W'.tape = W.tape
  output : W'.output = W.output
  size : W.heap.size ≤ W'.heap.size
  block : ∀ k, k < W.heap.size → (∀ a, a < N → d.rc a ≠ k) → W'.heap[k]? = W.heap[k]?
theorem Fr.refl (N : Nat) (d : Cid) (W : World) : Fr N d W W := ⟨rfl, rfl, rfl, Nat.le_refl _, fun _ _ _ => rfl⟩
theorem Fr.trans {N : Nat} {d : Cid} {a b c : World} (h : Fr N d a b) (k : Fr N d b c) : Fr N d a c :=
  ⟨k.os.trans h.os, k.tape.trans h.tape, k.output.trans h.output, Nat.le_trans h.size k.size, fun i hi hn => (k.block i (Nat.lt_of_lt_of_le hi h.size) hn).trans (h.block i hi hn)⟩
theorem Fr.of {N : Nat} {d : Cid} {W W' : World} (h : Below W.heap.size W W') : Fr N d W W' := ⟨h.os, h.tape, h.output, h.size, fun k hk _ => h.block k hk⟩
theorem Fr.set {N : Nat} {d : Cid} {a k : Nat} (W : World) (ha : a < N) (v : Value) : Fr N d W (W.setCell ⟨d.rc a, k, none⟩ v) :=
  ⟨rfl, rfl, rfl, by simp [World.setCell], fun j _ hn => Below.heap_setCell _ _ _ _ (fun e => hn a ha (by rw [e]))⟩
theorem Fr.below {N : Nat} {d : Cid} {W W' : World} {B : Nat} (h : Fr N d W W') (hB : B ≤ W.heap.size) (hr : ∀ a, a < N → B ≤ d.rc a) : Below B W W' :=
  ⟨h.os, h.tape, h.output, h.size, fun k hk => h.block k (Nat.lt_of_lt_of_le hk hB) (fun a ha e => by have := hr a ha; omega)⟩
structure CS (g : Gram) (vr : Value) (N n : Nat) (d : Cid) (S M : Nat → Nat → Bool) (V : Nat → Nat → Int) (w0 : World) (C : Nat → Nat → Int) (W : World) : Prop where
  ci : CI g vr N n d S M C W
  cv : ∀ a k, a < N → k ≤ n → C a k = -1 ∨ C a k = V a k
  bel : Below w0.heap.size w0 W
  lo : w0.heap.size ≤ d.b1
section
variable {g : Gram} {vr : Value} {N n : Nat} {d : Cid} {S M : Nat → Nat → Bool} {V : Nat → Nat → Int} {w0 : World} {C : Nat → Nat → Int} {W W' : World}
theorem CS.keep (h : CS g vr N n d S M V w0 C W) (hb : Below W.heap.size W W') : CS g vr N n d S M V w0 C W' := ⟨h.ci.keep hb, h.cv, h.bel.trans (hb.mono h.bel.size), h.lo⟩
theorem CS.rc (h : CS g vr N n d S M V w0 C W) : ∀ a, a < N → w0.heap.size ≤ d.rc a ∧ d.rc a < d.cb := fun a ha => by
  have h1 := h.ci.cnt.ne a ha
  have h2 := h.ci.some'.pl
  have h3 := h.ci.many.pl
  have h4 := h.ci.le
  have h5 := h.lo
  omega
theorem CS.store (h : CS g vr N n d S M V w0 C W) {a k : Nat} (ha : a < N) (hk : k ≤ n) : ∃ C', CS g vr N n d S M V w0 C' (W.setCell ⟨d.rc a, k, none⟩ (.int .i64 (V a k))) := by
  refine ⟨fun b l => if b = a ∧ l = k then V a k else C b l, ?_, fun b l hb hl => ?_, ?_, h.lo⟩
  · obtain ⟨⟨T, h1⟩, h2, h3, h4, h5⟩ := h.ci
    have hr := h.rc a ha
    have hne := h4.ne a ha
    have p2 := h2.pl
    have p3 := h3.pl
    refine ⟨⟨T, bx_other h1 (by omega) _ _⟩, h2.other fun j j1 j2 => Below.heap_setCell _ _ _ _ (by show j ≠ d.rc a; omega), h3.other fun j j1 j2 => Below.heap_setCell _ _ _ _ (by show j ≠ d.rc a; omega), ?_, h5⟩
    refine (h4.set ha (show k < n + 1 by omega) (.int .i64 (V a k))).eq fun b l _ _ => ?_
    show (if b = a ∧ l = k then _ else _) = _
    split <;> rfl
  · by_cases e : b = a ∧ l = k
    · rw [if_pos e, e.1, e.2]; exact .inr rfl
    · rw [if_neg e]; exact h.cv b l hb hl
  · exact h.bel.setCell (p := ⟨d.rc a, k, none⟩) (h.rc a ha).1 _
end
def MaxC : Int := 1000000000
end Cs
end Go.Proofs.Ytjpmebppdcclbaa
namespace Go.Proofs.Ytjpmebppdcclbaa
open Go.RowKit
namespace Cs
def okR (N : Nat) (g : Gram) : Prop := ∀ r ∈ g.rules, (∀ s ∈ r.right, okS N s)
end Cs
end Go.Proofs.Ytjpmebppdcclbaa
namespace Go.Proofs.Ytjpmebppdcclbaa
open Go.RowKit
structure Grd (tr te : TypeId) (B bt n m hi : Nat) (rb : Nat → Nat) (val : Nat → Nat → Value) (wr : World) : Prop where
  tb : ∃ cs, wr.heap[bt]? = some (.cells cs tr (0, 0)) ∧ cs.size = n ∧ ∀ k, k < hi → k < n → cs[k]? = some (.slice (some ⟨rb k, 0, none⟩) m m)
  row : ∀ k, k < hi → k < n → ∃ cs, wr.heap[rb k]? = some (.cells cs te (0, 0)) ∧ cs.size = m ∧ ∀ j, j < m → cs[j]? = some (val k j)
  inj : ∀ k k', k < hi → k' < hi → k < n → k' < n → rb k = rb k' → k = k'
  ne : ∀ k, k < hi → k < n → rb k ≠ bt ∧ B ≤ rb k
  bB : B ≤ bt
section
variable {tr te : TypeId} {B bt n m hi : Nat} {rb : Nat → Nat} {val : Nat → Nat → Value} {wr w' : World}
theorem Grd.lt (h : Grd tr te B bt n m hi rb val wr) : bt < wr.heap.size := by
  obtain ⟨cs, h1, _⟩ := h.tb
  exact (Array.getElem?_eq_some_iff.1 h1).1
theorem Grd.rlt (h : Grd tr te B bt n m hi rb val wr) {k : Nat} (hk : k < hi) (hn : k < n) : rb k < wr.heap.size := by
  obtain ⟨cs, h1, _⟩ := h.row k hk hn
  exact (Array.getElem?_eq_some_iff.1 h1).1
theorem Grd.grown {row : Option Nat} (h : Grd tr te B bt n m hi rb val wr) (hg : wr.grownBy w' row) (hr : ∀ k, row = some k → k ≠ bt ∧ ∀ i, i < hi → i < n → rb i ≠ k) : Grd tr te B bt n m hi rb val w' := by
  obtain ⟨⟨cs, h1, h2, h3⟩, h4, h5, h6, h7⟩ := h
  refine ⟨⟨cs, ?_, h2, h3⟩, fun k hk hn => ?_, h5, h6, h7⟩
  · rw [hg.block bt (Array.getElem?_eq_some_iff.1 h1).1 (fun e => (hr bt e.symm).1 rfl)]; exact h1
  · obtain ⟨rs, r1, r2⟩ := h4 k hk hn
    refine ⟨rs, ?_, r2⟩
    rw [hg.block (rb k) (Array.getElem?_eq_some_iff.1 r1).1 (fun e => (hr _ e.symm).2 k hk hn rfl)]; exact r1
theorem Grd.keep (h : Grd tr te B bt n m hi rb val wr) (hb : Below wr.heap.size wr w') : Grd tr te B bt n m hi rb val w' := h.grown (grown_below hb none) (fun k e => by cases e)
theorem Grd.cell (h : Grd tr te B bt n m hi rb val wr) {k j : Nat} (hk : k < hi) (hn : k < n) (hj : j < m) : wr.cell? ⟨rb k, j, none⟩ = some (val k j) := by
  obtain ⟨cs, h1, h2, h3⟩ := h.row k hk hn
  simp [World.cell?, h1, h3 j hj]
theorem Grd.free (h : Grd tr te B bt n m hi rb val wr) {k : Nat} (hk : k < hi) (hn : k < n) (j : Nat) : wr.frozen? ⟨rb k, j, none⟩ = false := by
  obtain ⟨cs, h1, h2, h3⟩ := h.row k hk hn
  simp [World.frozen?, h1]
theorem Grd.set (h : Grd tr te B bt n m hi rb val wr) {i j : Nat} (hi' : i < hi) (hin : i < n) (hj : j < m) (x : Value) : Grd tr te B bt n m hi rb (fun k l => if k = i ∧ l = j then x else val k l) (wr.setCell ⟨rb i, j, none⟩ x) := by
  obtain ⟨⟨cs, h1, h2, h3⟩, h4, h5, h6, h7⟩ := h
  refine ⟨⟨cs, bx_other h1 (fun e => (h6 i hi' hin).1 e.symm) _ _, h2, h3⟩, fun k hk hn => ?_, h5, h6, h7⟩
  obtain ⟨rs, r1, r2, r3⟩ := h4 k hk hn
  by_cases e : k = i
  · subst e
    refine ⟨rs.setIfInBounds j x, bx_set r1 _ _, by simpa using r2, fun l hl => ?_⟩
    rw [Array.getElem?_setIfInBounds]
    by_cases e2 : j = l
    · subst e2
      rw [if_pos rfl, if_pos (by omega)]; simp
    · rw [if_neg e2, r3 l hl]
      simp [show ¬ l = j from fun h => e2 h.symm]
  · refine ⟨rs, bx_other r1 (fun e2 => e (h5 k i hk hi' hn hin e2)) _ _, r2, fun l hl => ?_⟩
    rw [r3 l hl]; simp [e]
theorem Grd.add {z : Value} (h : Grd tr te B bt n m hi rb (fun _ _ => z) wr) (hi' : hi < n) (hB : B ≤ wr.heap.size) :
    Grd tr te B bt n m (hi + 1) (fun k => if k = hi then wr.heap.size else rb k) (fun _ _ => z) ((wr.alloc (.cells (madeCells #[z] m) te)).setCell ⟨bt, hi, none⟩ (.slice (some ⟨wr.heap.size, 0, none⟩) m m)) := by
  have hbt := h.lt
  have hrl := fun k hk hn => h.rlt (k := k) hk hn
  obtain ⟨⟨cs, h1, h2, h3⟩, h4, h5, h6, h7⟩ := h
  have hba : Below wr.heap.size wr (wr.alloc (.cells (madeCells #[z] m) te)) := (Below.refl _ _).alloc (Nat.le_refl _) _
  refine ⟨⟨cs.setIfInBounds hi (.slice (some ⟨wr.heap.size, 0, none⟩) m m), bx_set (bx_keep h1 hba) _ _, by simpa using h2, fun k hk hn => ?_⟩, fun k hk hn => ?_, fun k k' hk hk' hn hn' e => ?_, fun k hk hn => ?_, h7⟩
  · rw [Array.getElem?_setIfInBounds]
    by_cases e : hi = k
    · subst e
      rw [if_pos rfl, if_pos (by omega)]; simp
    · rw [if_neg e, h3 k (by omega) hn]
      simp [show ¬ k = hi from fun h => e h.symm]
  · by_cases e : k = hi
    · subst e
      refine ⟨madeCells #[z] m, ?_, size_madeCells _ _, fun j hj => made_at _ _ _ hj⟩
      simp only [if_true]
      exact bx_other (bx_new _ _ _ rfl) (by omega) _ _
    · obtain ⟨rs, r1, r2, r3⟩ := h4 k (by omega) hn
      refine ⟨rs, ?_, r2, r3⟩
      simp only [e, if_false]
      exact bx_other (bx_keep r1 hba) (h6 k (by omega) hn).1 _ _
  · by_cases e1 : k = hi <;> by_cases e2 : k' = hi <;> simp only [e1, e2, if_true, if_false] at e ⊢
    · have := hrl k' (by omega) hn'; omega
    · have := hrl k (by omega) hn; omega
    · exact h5 k k' (by omega) (by omega) hn hn' e
  · by_cases e : k = hi
    · subst e; simp only [if_true]; omega
    · simp only [e, if_false]; exact h6 k (by omega) hn
theorem Grd.eq {val' : Nat → Nat → Value} (h : Grd tr te B bt n m hi rb val wr) (he : ∀ k j, k < hi → k < n → j < m → val k j = val' k j) : Grd tr te B bt n m hi rb val' wr := by
  obtain ⟨h1, h4, h5, h6, h7⟩ := h
  refine ⟨h1, fun k hk hn => ?_, h5, h6, h7⟩
  obtain ⟨rs, r1, r2, r3⟩ := h4 k hk hn
  exact ⟨rs, r1, r2, fun j hj => by rw [r3 j hj, he k j hk hn hj]⟩
end
theorem Grd.start (tr te : TypeId) {B n m : Nat} {rb : Nat → Nat} {val : Nat → Nat → Value} {z : Value} (w : World) {bt : Nat} (hb : bt = w.heap.size) (hB : B ≤ w.heap.size) : Grd tr te B bt n m 0 rb val (w.alloc (.cells (madeCells #[z] n) tr)) := by
  subst hb
  exact ⟨⟨_, bx_new _ _ _ rfl, size_madeCells _ _, fun k hk => by omega⟩, fun k hk => by omega, fun k k' hk => by omega, fun k hk => by omega, hB⟩
end Go.Proofs.Ytjpmebppdcclbaa
namespace Go.Proofs.Ytjpmebppdcclbaa
open Go.RowKit
theorem Grd.other {tr te : TypeId} {B bt n m hi : Nat} {rb : Nat → Nat} {val : Nat → Nat → Value} {wr w' : World} (h : Grd tr te B bt n m hi rb val wr) (hs : ∀ k, B ≤ k → w'.heap[k]? = wr.heap[k]?) : Grd tr te B bt n m hi rb val w' := by
  obtain ⟨⟨cs, h1, h2, h3⟩, h4, h5, h6, h7⟩ := h
  refine ⟨⟨cs, by rw [hs _ h7]; exact h1, h2, h3⟩, fun k hk hn => ?_, h5, h6, h7⟩
  obtain ⟨rs, r1, r2⟩ := h4 k hk hn
  exact ⟨rs, by rw [hs _ (h6 k hk hn).2]; exact r1, r2⟩
namespace Cs
def wv (E : List (Nat × Nat)) (k i j : Nat) : Nat → Nat → Bool := fun a b => if a < i ∨ (a = i ∧ b < j) then fw E (k + 1) a b else fw E k a b
section
variable {E : List (Nat × Nat)} {sz k i j a b : Nat}
end
def mc (T : Nat → Nat → Bool) (i j : Nat) : Bool := (i == j || T i j) && T j j
section
variable {T : Nat → Nat → Bool} {sz m i j A k N : Nat}
end
section
variable {g : Gram} {vr : Value} {N n : Nat} {d : Cid} {S M M' : Nat → Nat → Bool} {C : Nat → Nat → Int} {W W' : World}
theorem CI.b2 (h : CI g vr N n d S M C W) : d.b2 ≤ W.heap.size := by
  have := h.lt
  have := h.many.pl
  have := h.cnt.pl
  have := h.le
  omega
theorem CI.setM (h : CI g vr N n d S M C W) {a k : Nat} (ha : a < N) (hk : k < n + 1) : CI g vr N n d S (updB M a k) C (W.setCell ⟨d.rm a, k, none⟩ (.bool true)) := by
  obtain ⟨⟨T, h1⟩, h2, h3, h4, h5⟩ := h
  have hne := h3.ne a ha
  have p2 := h2.pl
  have p3 := h3.pl
  have p4 := h4.pl
  refine ⟨⟨T, bx_other h1 (by omega) _ _⟩, h2.other fun j j1 j2 => Below.heap_setCell _ _ _ _ (by show j ≠ d.rm a; omega), ?_, h4.other fun j j1 j2 => Below.heap_setCell _ _ _ _ (by show j ≠ d.rm a; omega), h5⟩
  refine (h3.set ha hk (.bool true)).eq fun b l _ _ => ?_
  unfold updB
  show (if b = a ∧ l = k then _ else _) = _
  split <;> rfl
end
structure LM (g : Gram) (vr : Value) (N n : Nat) (d : Cid) (S : Nat → Nat → Bool) (C : Nat → Nat → Int) (wB : World) (bt sz : Nat) (rb : Nat → Nat) (F M : Nat → Nat → Bool) (wr : World) : Prop where
  ci : CI g vr N n d S M C wr
  tab : Grd 54 4 wB.heap.size bt sz sz sz rb (fun a b => .bool (F a b)) wr
  bel : Below d.b2 wB wr
  lt : d.cb < wB.heap.size
section
variable {g : Gram} {vr : Value} {N n : Nat} {d : Cid} {S M M' : Nat → Nat → Bool} {C : Nat → Nat → Int} {W wB wr : World} {bt sz : Nat} {rb : Nat → Nat} {F : Nat → Nat → Bool}
theorem LM.b2 (h : LM g vr N n d S C wB bt sz rb F M wr) : d.b2 ≤ wr.heap.size := h.ci.b2
theorem LM.keep (h : LM g vr N n d S C wB bt sz rb F M wr) (hb : Below wr.heap.size wr W) : LM g vr N n d S C wB bt sz rb F M W := ⟨h.ci.keep hb, h.tab.keep hb, h.bel.trans (hb.mono h.b2), h.lt⟩
theorem LM.set (h : LM g vr N n d S C wB bt sz rb F M wr) {a k : Nat} (ha : a < N) (hk : k < n + 1) : LM g vr N n d S C wB bt sz rb F (updB M a k) (wr.setCell ⟨d.rm a, k, none⟩ (.bool true)) := by
  have hne := h.ci.many.ne a ha
  have p4 := h.ci.cnt.pl
  have h5 := h.ci.le
  have h6 := h.lt
  exact ⟨h.ci.setM ha hk, h.tab.other fun j hj => Below.heap_setCell _ _ _ _ (by show j ≠ d.rm a; omega), h.bel.setCell (p := ⟨d.rm a, k, none⟩) hne.2.1 _, h.lt⟩
end
end Cs
end Go.Proofs.Ytjpmebppdcclbaa
namespace Go.Proofs.Ytjpmebppdcclbaa
open Go.RowKit
namespace Cs
def sumN (f : Nat → Nat) : Nat → Nat
  | 0 => 0
  | n + 1 => sumN f n + f n
theorem sumN_le {f g : Nat → Nat} : ∀ (n : Nat), (∀ i, i < n → f i ≤ g i) → sumN f n ≤ sumN g n
  | 0, _ => Nat.le_refl _
  | n + 1, h => Nat.add_le_add (sumN_le n fun i hi => h i (by omega)) (h n (by omega))
theorem sumN_lt {f g : Nat → Nat} : ∀ (n : Nat), (∀ i, i < n → f i ≤ g i) → (∃ i, i < n ∧ f i < g i) → sumN f n < sumN g n
  | 0, _, ⟨i, hi, _⟩ => absurd hi (Nat.not_lt_zero _)
  | n + 1, h, ⟨i, hi, hlt⟩ => by
    have h1 := sumN_le n fun i hi => h i (Nat.lt_succ_of_lt hi)
    have h2 := h n (Nat.lt_succ_self n)
    by_cases e : i = n
    · subst e
      show sumN f i + f i < sumN g i + g i
      omega
    · have h3 := sumN_lt n (fun i hi => h i (Nat.lt_succ_of_lt hi)) ⟨i, by omega, hlt⟩
      show sumN f n + f n < sumN g n + g n
      omega
end Cs
end Go.Proofs.Ytjpmebppdcclbaa
namespace Go.Proofs.Ytjpmebppdcclbaa
open Go.RowKit
namespace Cs
theorem sumN_lt_iff {f g : Nat → Nat} {n : Nat} (h : ∀ i, i < n → f i ≤ g i) : sumN f n < sumN g n ↔ ∃ i, i < n ∧ f i < g i := by
  constructor
  · intro hl
    induction n with
    | zero => exact absurd hl (Nat.lt_irrefl _)
    | succ n ih =>
      by_cases e : f n < g n
      · exact ⟨n, by omega, e⟩
      · have hl' : sumN f n + f n < sumN g n + g n := hl
        have := h n (by omega)
        obtain ⟨i, hi, hlt⟩ := ih (fun i hi => h i (by omega)) (by omega)
        exact ⟨i, by omega, hlt⟩
  · exact sumN_lt n h
theorem sumN_pos_iff {g : Nat → Nat} {n : Nat} : 0 < sumN g n ↔ ∃ i, i < n ∧ 0 < g i := by
  have h0 : ∀ n, sumN (fun _ => 0) n = 0 := by intro n; induction n with
    | zero => rfl
    | succ n ih => show sumN (fun _ => 0) n + 0 = 0; rw [ih]
  have := sumN_lt_iff (f := fun _ => 0) (g := g) (n := n) (fun i _ => Nat.zero_le _)
  rw [h0] at this
  exact this
def cN (o : Sym → Nat → Nat) : List Sym → Nat → Nat
  | [], k => if k = 0 then 1 else 0
  | s :: l, k => sumN (fun i => o s i * cN o l (k - i)) (k + 1)
def oN (c : Nat → Nat → Nat) (s : Sym) (i : Nat) : Nat := if s.term then (if i = 1 then 1 else 0) else c s.n.toNat i
def cR (o : Sym → Nat → Nat) (A : Int) (k : Nat) : List Rule → Nat
  | [] => 0
  | r :: rs => (if r.left = A then cN o r.right k else 0) + cR o A k rs
def cnt (rules : List Rule) : Nat → Nat → Nat → Nat
  | 0, _, _ => 0
  | h + 1, A, k => cR (oN (cnt rules h)) (A : Int) k rules
theorem cN_mono {o o' : Sym → Nat → Nat} (h : ∀ s i, o' s i ≤ o s i) : ∀ (l : List Sym) (k : Nat), cN o' l k ≤ cN o l k
  | [], _ => Nat.le_refl _
  | s :: l, k => by
    rw [cN, cN]
    exact sumN_le _ fun i _ => Nat.mul_le_mul (h s i) (cN_mono h l (k - i))
theorem cR_mono {o o' : Sym → Nat → Nat} (h : ∀ s i, o' s i ≤ o s i) {A : Int} {k : Nat} : ∀ rs, cR o' A k rs ≤ cR o A k rs
  | [] => Nat.le_refl _
  | r :: rs => by
    rw [cR, cR]
    have := cR_mono h (A := A) (k := k) rs
    by_cases e : r.left = A
    · rw [if_pos e, if_pos e]; have := cN_mono h r.right k; omega
    · rw [if_neg e, if_neg e]; omega
theorem oN_mono {c c' : Nat → Nat → Nat} (h : ∀ A i, c' A i ≤ c A i) (s : Sym) (i : Nat) : oN c' s i ≤ oN c s i := by
  unfold oN
  split
  · exact Nat.le_refl _
  · exact h _ _
theorem cnt_mono1 {rules : List Rule} : ∀ (h A k : Nat), cnt rules h A k ≤ cnt rules (h + 1) A k
  | 0, A, k => Nat.zero_le _
  | h + 1, A, k => by
    rw [cnt, cnt]
    exact cR_mono (oN_mono fun A i => cnt_mono1 h A i) _
theorem cnt_mono {rules : List Rule} {h h' : Nat} (hh : h ≤ h') (A k : Nat) : cnt rules h A k ≤ cnt rules h' A k := by
  induction h' with
  | zero => obtain rfl : h = 0 := by omega
            exact Nat.le_refl _
  | succ h' ih =>
    by_cases e : h = h' + 1
    · subst e; exact Nat.le_refl _
    · exact Nat.le_trans (ih (by omega)) (cnt_mono1 _ _ _)
end Cs
end Go.Proofs.Ytjpmebppdcclbaa
namespace Go.Proofs.Ytjpmebppdcclbaa
open Go.RowKit
namespace Cs
end Cs
end Go.Proofs.Ytjpmebppdcclbaa
namespace Go.Proofs.Ytjpmebppdcclbaa
open Go.RowKit
abbrev StrSet (b c : Nat) (S : Lit → Bool) (w : World) : Prop := SetM Try.prog 9 4 b c S w
structure FltI (w0 : World) (mb : Nat) (g : Gram) (K : List Rule) (i : Nat) (wr : World) : Prop where
  set : StrSet mb i (keysOf (K.take i)) wr
  bel : Below w0.heap.size w0 wr
  lo : w0.heap.size ≤ mb
  ok : ∀ r ∈ K.take i, okR r
  flt : faultsFrom g i (K.drop i) = faultsFrom g 0 K
end Go.Proofs.Ytjpmebppdcclbaa
namespace Go.Proofs.Ytjpmebppdcclbaa
open Go.RowKit
namespace Ln
def itL (a b c : Nat) : Lit := .string (keyBytes [.int .i64 a, .int .i64 b, .int .i64 c])
end Ln
end Go.Proofs.Ytjpmebppdcclbaa
namespace Go.Proofs.Ytjpmebppdcclbaa
open Go.RowKit
def ownsQ (w : World) (B : Nat) (e : TypeId) (size : Nat) (v : Value) (n : Nat) (xs : List Value) : Prop :=
  xs.length = n * size ∧
  ((v = .slice none 0 0 ∧ n = 0) ∨
   ∃ g off cap cur, v = .slice (some ⟨g, off, none⟩) n cap ∧ B ≤ g ∧ w.heap[g]? = some (.cells cur e (0, 0)) ∧ n ≤ cap ∧ cap ≤ maxLen ∧ off + cap * size ≤ cur.size ∧ (cur.toList.drop off).take (n * size) = xs)
section
variable {w w' : World} {B : Nat} {e : TypeId} {size : Nat} {v : Value} {n : Nat} {xs : List Value}
theorem ownsQ.lt (h : ownsQ w B e size v n xs) : ∀ k, v.ownBlock = some k → B ≤ k ∧ k < w.heap.size := by
  intro k hk
  rcases h.2 with ⟨rfl, _⟩ | ⟨g, off, cap, cur, rfl, a, b, _⟩
  · cases hk
  · cases hk; exact ⟨a, (Array.getElem?_eq_some_iff.1 b).1⟩
theorem ownsQ.other {row : Option Nat} (h : ownsQ w B e size v n xs) (hg : w.grownBy w' row) (hne : ∀ k, v.ownBlock = some k → row ≠ some k) : ownsQ w' B e size v n xs := by
  have hlt := h.lt
  obtain ⟨h1, h2⟩ := h
  refine ⟨h1, ?_⟩
  rcases h2 with h2 | ⟨g, off, cap, cur, rfl, a, b, r⟩
  · exact .inl h2
  · exact .inr ⟨g, off, cap, cur, rfl, a, (hg.block g (hlt g rfl).2 (fun e => hne g rfl e.symm)).trans b, r⟩
theorem ownsQ.keep (h : ownsQ w B e size v n xs) (hb : Below w.heap.size w w') : ownsQ w' B e size v n xs := h.other (grown_below hb none) (fun k _ e => by cases e)
theorem ownsQ.form (h : ownsQ w B e size v n xs) : ∃ a cap, v = .slice a n cap ∧ n ≤ cap ∧ cap ≤ maxLen := by
  rcases h.2 with ⟨rfl, rfl⟩ | ⟨g, off, cap, cur, rfl, _, _, h1, h2, _⟩
  · exact ⟨_, _, rfl, by simp, by simp⟩
  · exact ⟨_, _, rfl, h1, h2⟩
theorem ownsQ.cells (h : ownsQ w B e size v n xs) (hn : 0 < n) : ∃ g off cap, v = .slice (some ⟨g, off, none⟩) n cap ∧ ∀ j u, xs[j]? = some u → w.cell? ⟨g, off + j, none⟩ = some u := by
  rcases h.2 with ⟨_, h0⟩ | ⟨g, off, cap, cur, rfl, _, hh, h1, h2, h3, ht⟩
  · omega
  · refine ⟨g, off, cap, rfl, fun j u hj => ?_⟩
    have hl := h.1
    have hj2 := (List.getElem?_eq_some_iff.1 hj).1
    rw [← ht, List.getElem?_take, if_pos (by omega), List.getElem?_drop] at hj
    simp [World.cell?, hh]
    simpa using hj
theorem ownsQ.tail {g off cap : Nat} {ys : List Value} (h : ownsQ w B e size (.slice (some ⟨g, off, none⟩) (n + 1) cap) (n + 1) (ys ++ xs)) (hy : ys.length = size) (hs : 0 < size) : ownsQ w B e size (.slice (if cap = 1 then some ⟨g, off, none⟩ else some ⟨g, off + size, none⟩) n (cap - 1)) n xs := by
  obtain ⟨h1, h2⟩ := h
  rw [List.length_append, Nat.add_mul, hy] at h1
  refine ⟨by omega, ?_⟩
  rcases h2 with ⟨h2, _⟩ | ⟨g', off', cap', cur, hv, a, b, c, d, f, t⟩
  · cases h2
  · cases hv
    right
    by_cases e1 : cap = 1
    · subst e1
      obtain rfl : n = 0 := by omega
      have hx : xs = [] := List.eq_nil_of_length_eq_zero (by omega)
      refine ⟨g, off, 0, cur, by simp, a, b, by omega, by unfold maxLen; omega, by omega, by simp [hx]⟩
    · refine ⟨g, off + size, cap - 1, cur, by simp [e1], a, b, by omega, by omega, ?_, ?_⟩
      · have : cap * size = size + (cap - 1) * size := by
          obtain ⟨c', rfl⟩ : ∃ c', cap = c' + 1 := ⟨cap - 1, by omega⟩
          simp [Nat.add_mul]; omega
        omega
      · have h3 : (cur.toList.drop off).take (n * size + size) = ys ++ xs := by rw [← t]; congr 1; simp [Nat.add_mul]
        have h4 := congrArg (List.drop size) h3
        have h5 : List.drop size (ys ++ xs) = xs := by rw [← hy]; simp
        rw [List.drop_take, List.drop_drop, h5, Nat.add_sub_cancel] at h4
        exact h4
end
end Go.Proofs.Ytjpmebppdcclbaa
namespace Go.Proofs.Ytjpmebppdcclbaa
open Go.RowKit
namespace Ln
def rt (K : List Rule) (i : Nat) : List Sym := (K[i]?.map Rule.right).getD []
def lft (K : List Rule) (i : Nat) : Int := (K[i]?.map Rule.left).getD 0
inductive It (K : List Rule) : Nat → Nat → Nat → Prop
  | start {i : Nat} : i < K.length → It K i 0 0
  | term {i d l : Nat} {s : Sym} : It K i d l → (rt K i)[d]? = some s → s.term = true → It K i (d + 1) (l + 1)
  | non {i d l j k : Nat} {s : Sym} : It K i d l → (rt K i)[d]? = some s → s.term = false → It K j (rt K j).length k → lft K j = s.n → It K i (d + 1) (l + k)
theorem It.lt {K : List Rule} {i d l : Nat} (h : It K i d l) : i < K.length := by
  induction h with
  | start h => exact h
  | term _ _ _ ih => exact ih
  | non _ _ _ _ _ ih _ => exact ih
theorem It.dot {K : List Rule} {i d l : Nat} (h : It K i d l) : d ≤ (rt K i).length := by
  induction h with
  | start h => omega
  | term _ hs _ _ => have := (List.getElem?_eq_some_iff.1 hs).1; omega
  | non _ hs _ _ _ _ _ => have := (List.getElem?_eq_some_iff.1 hs).1; omega
def Has (K : List Rule) (a : Int) (k : Nat) : Prop := ∃ j, It K j (rt K j).length k ∧ lft K j = a
def stB (H : Nat → Nat → Bool) (s : Sym) (j : Nat) : Bool := if s.term then j == 1 else H s.n.toNat j
def nxt (H : Nat → Nat → Bool) (n : Nat) (s : Sym) (A : Nat → Bool) (m : Nat) : Bool := decide (m ≤ n) && (List.range (m + 1)).any fun i => A i && stB H s (m - i)
def atR (H : Nat → Nat → Bool) (n : Nat) (R : List Sym) : Nat → Bool := R.foldl (fun A s => nxt H n s A) (fun m => m == 0)
def Sound (K : List Rule) (H : Nat → Nat → Bool) : Prop := ∀ a k, H a k = true → Has K (a : Int) k
def Closed (K : List Rule) (n : Nat) (H : Nat → Nat → Bool) (i : Nat) : Prop := ∀ m, m ≤ n → atR H n (rt K i) m = true → H (lft K i).toNat m = true
variable {K : List Rule} {n : Nat} {H : Nat → Nat → Bool}
structure Items (K : List Rule) (n : Nat) (L : List (Nat × Nat × Nat)) (p : Nat) (C : Nat → Nat → Bool) : Prop where
  sound : ∀ x ∈ L, It K x.1 x.2.1 x.2.2 ∧ x.2.2 ≤ n
  nodup : L.Nodup
  start : ∀ i, i < K.length → (i, 0, 0) ∈ L
  csound : ∀ a k, C a k = true → ∃ x ∈ L.take p, x.2.1 = (rt K x.1).length ∧ lft K x.1 = (a : Int) ∧ x.2.2 = k
  full : ∀ x ∈ L.take p, x.2.1 = (rt K x.1).length → C (lft K x.1).toNat x.2.2 = true
  term : ∀ x ∈ L.take p, ∀ s, (rt K x.1)[x.2.1]? = some s → s.term = true → x.2.2 + 1 ≤ n → (x.1, x.2.1 + 1, x.2.2 + 1) ∈ L
  non : ∀ x ∈ L.take p, ∀ s, (rt K x.1)[x.2.1]? = some s → s.term = false → ∀ k, C s.n.toNat k = true → x.2.2 + k ≤ n → (x.1, x.2.1 + 1, x.2.2 + k) ∈ L
end Ln
end Go.Proofs.Ytjpmebppdcclbaa
namespace Go.Proofs.Ytjpmebppdcclbaa
open Go.RowKit
namespace Ln
open Classical in
noncomputable def inSet (L : List (Nat × Nat × Nat)) : Lit → Bool := fun l => decide (∃ x ∈ L, itL x.1 x.2.1 x.2.2 = l)
section
variable {B : Nat} {X : Nat → Prop} {A Q L0 : List (Nat × Nat × Nat)} {g0 off0 : Nat} {va vq : Value} {W W1 : World}
theorem ob {g off n cap k : Nat} (h : (Value.slice (some ⟨g, off, none⟩) n cap).ownBlock = some k) : g = k := by simpa [Value.ownBlock] using h
end
open Classical in
noncomputable def addL (n : Nat) (L : List (Nat × Nat × Nat)) (x : Nat × Nat × Nat) : List (Nat × Nat × Nat) := if x.2.2 ≤ n ∧ x ∉ L then L ++ [x] else L
end Ln
end Go.Proofs.Ytjpmebppdcclbaa
namespace Go.Proofs.Ytjpmebppdcclbaa
open Go.RowKit
namespace Ln
section
variable {w2 w3 : World} {s : Nat} {S : Lit → Bool} {b : Nat} {X : Nat → Prop} {A Q L0 : List (Nat × Nat × Nat)} {g0 off0 : Nat} {va vq : Value} {W W1 : World}
end
open Classical in
theorem addL_no {n : Nat} {L : List (Nat × Nat × Nat)} {x : Nat × Nat × Nat} (h : ¬ x.2.2 ≤ n ∨ x ∈ L) : addL n L x = L := by
  unfold addL
  rw [if_neg]
  rintro ⟨h1, h2⟩
  rcases h with h | h
  · exact h h1
  · exact h2 h
open Classical in
theorem addL_yes {n : Nat} {L : List (Nat × Nat × Nat)} {x : Nat × Nat × Nat} (h : x.2.2 ≤ n) (h2 : x ∉ L) : addL n L x = L ++ [x] := by
  unfold addL; rw [if_pos ⟨h, h2⟩]
end Ln
end Go.Proofs.Ytjpmebppdcclbaa
namespace Go.Proofs.Ytjpmebppdcclbaa
open Go.RowKit
namespace Ln
theorem nodup_le : ∀ (l m : List (Nat × Nat × Nat)), l.Nodup → (∀ x ∈ l, x ∈ m) → l.length ≤ m.length
  | [], m, _, _ => by simp
  | a :: l, m, hn, hs => by
    have ha := hs a List.mem_cons_self
    rw [List.nodup_cons] at hn
    have := nodup_le l (m.erase a) hn.2 fun x hx => by
      have hne : x ≠ a := fun e => hn.1 (e ▸ hx)
      exact (List.mem_erase_of_ne hne).2 (hs x (List.mem_cons_of_mem _ hx))
    rw [List.length_erase_of_mem ha] at this
    have : 0 < m.length := List.length_pos_of_mem ha
    simp; omega
def boxL (a b c : Nat) : List (Nat × Nat × Nat) := (List.range a).flatMap fun i => (List.range b).flatMap fun j => (List.range c).map fun k => (i, j, k)
theorem mem_boxL {a b c i j k : Nat} : (i, j, k) ∈ boxL a b c ↔ i < a ∧ j < b ∧ k < c := by
  unfold boxL
  simp only [List.mem_flatMap, List.mem_map, List.mem_range, Prod.mk.injEq]
  constructor
  · rintro ⟨a1, h1, b1, h2, c1, h3, rfl, rfl, rfl⟩; exact ⟨h1, h2, h3⟩
  · rintro ⟨h1, h2, h3⟩; exact ⟨i, h1, j, h2, k, h3, rfl, rfl, rfl⟩
theorem len_flat {α β : Type} (f : α → List β) (m : Nat) : ∀ (l : List α), (∀ x ∈ l, (f x).length = m) → (l.flatMap f).length = l.length * m
  | [], _ => by simp
  | x :: l, h => by
    rw [List.flatMap_cons, List.length_append, h x List.mem_cons_self, len_flat f m l (fun y hy => h y (List.mem_cons_of_mem _ hy)), List.length_cons, Nat.add_mul]; omega
theorem len_boxL (a b c : Nat) : (boxL a b c).length = a * (b * c) := by
  unfold boxL
  rw [len_flat _ (b * c)]
  · simp
  · intro i _
    rw [len_flat _ c]
    · simp
    · intro j _; simp
variable {K : List Rule} {n : Nat}
structure Grow (K : List Rule) (n : Nat) (L0 L : List (Nat × Nat × Nat)) : Prop where
  pre : L0 <+: L
  nodup : L.Nodup
  sound : ∀ x ∈ L, It K x.1 x.2.1 x.2.2 ∧ x.2.2 ≤ n
open Classical in
theorem mem_addL_old {L : List (Nat × Nat × Nat)} {x y : Nat × Nat × Nat} (h : y ∈ L) : y ∈ addL n L x := by
  unfold addL; split
  · exact List.mem_append_left _ h
  · exact h
open Classical in
theorem mem_addL {L : List (Nat × Nat × Nat)} {x : Nat × Nat × Nat} (h : x.2.2 ≤ n) : x ∈ addL n L x := by
  unfold addL
  by_cases hx : x ∈ L
  · rw [if_neg (by simp [hx])]; exact hx
  · rw [if_pos ⟨h, hx⟩]; simp
open Classical in
theorem Grow.add {L0 L : List (Nat × Nat × Nat)} {x : Nat × Nat × Nat} (h : Grow K n L0 L) (hx : It K x.1 x.2.1 x.2.2) : Grow K n L0 (addL n L x) := by
  unfold addL; split
  · rename_i hc
    refine ⟨h.pre.trans (List.prefix_append _ _), ?_, ?_⟩
    · rw [List.nodup_append]
      refine ⟨h.nodup, by simp, ?_⟩
      intro a ha b hb e
      simp at hb
      subst hb; subst e
      exact hc.2 ha
    · intro y hy
      rcases List.mem_append.1 hy with hy | hy
      · exact h.sound y hy
      · simp at hy; subst hy; exact ⟨hx, hc.1⟩
  · exact h
theorem Grow.len {L0 L : List (Nat × Nat × Nat)} (h : Grow K n L0 L) (hK : K.length ≤ 32) (hr : ∀ i, (rt K i).length ≤ 4) (hn : n ≤ 400) : L.length ≤ 64160 := by
  have h1 := nodup_le L (boxL 32 5 401) h.nodup (fun x hx => by
    obtain ⟨h1, h2⟩ := h.sound x hx
    have h3 := h1.lt
    have h4 := h1.dot
    have h5 := hr x.1
    obtain ⟨i, j, k⟩ := x
    simp only at h2 h3 h4 h5
    exact mem_boxL.2 ⟨by omega, by omega, by omega⟩)
  rw [len_boxL] at h1
  omega
theorem Grow.refl {L : List (Nat × Nat × Nat)} (h1 : L.Nodup) (h2 : ∀ x ∈ L, It K x.1 x.2.1 x.2.2 ∧ x.2.2 ≤ n) : Grow K n L L := ⟨List.prefix_refl _, h1, h2⟩
theorem Items.next {L L' : List (Nat × Nat × Nat)} {p : Nat} {C C' : Nat → Nat → Bool} (h : Items K n L p C) (hp : p < L.length) {x : Nat × Nat × Nat} (hx : L[p] = x) (hg : Grow K n L L')
    (hc : ∀ a k, C' a k = true → C a k = true ∨ (x.2.1 = (rt K x.1).length ∧ lft K x.1 = (a : Int) ∧ x.2.2 = k))
    (hf0 : ∀ a k, C a k = true → C' a k = true)
    (hf : x.2.1 = (rt K x.1).length → C' (lft K x.1).toNat x.2.2 = true)
    (ht : ∀ s, (rt K x.1)[x.2.1]? = some s → s.term = true → x.2.2 + 1 ≤ n → (x.1, x.2.1 + 1, x.2.2 + 1) ∈ L')
    (hn : ∀ s, (rt K x.1)[x.2.1]? = some s → s.term = false → ∀ k, C' s.n.toNat k = true → x.2.2 + k ≤ n → (x.1, x.2.1 + 1, x.2.2 + k) ∈ L')
    (hn2 : ∀ y ∈ L, ∀ s, (rt K y.1)[y.2.1]? = some s → s.term = false → ∀ k, C' s.n.toNat k = true → C s.n.toNat k = false → y.2.2 + k ≤ n → (y.1, y.2.1 + 1, y.2.2 + k) ∈ L') : Items K n L' (p + 1) C' := by
  obtain ⟨t, rfl⟩ := hg.pre
  have htk : (L ++ t).take (p + 1) = L.take p ++ [x] := by
    rw [List.take_append_of_le_length (by omega), List.take_succ_eq_append_getElem hp, hx]
  refine ⟨hg.sound, hg.nodup, fun i hi => List.mem_append_left _ (h.start i hi), ?_, ?_, ?_, ?_⟩
  · intro a k hk
    rw [htk]
    rcases hc a k hk with h1 | ⟨h1, h2, h3⟩
    · obtain ⟨y, hy, h2⟩ := h.csound a k h1
      exact ⟨y, List.mem_append_left _ hy, h2⟩
    · exact ⟨x, by simp, h1, h2, h3⟩
  · intro y hy
    rw [htk] at hy
    rcases List.mem_append.1 hy with hy | hy
    · exact fun e => hf0 _ _ (h.full y hy e)
    · simp at hy; subst hy; exact hf
  · intro y hy
    rw [htk] at hy
    rcases List.mem_append.1 hy with hy | hy
    · exact fun s h1 h2 h3 => List.mem_append_left _ (h.term y hy s h1 h2 h3)
    · simp at hy; subst hy; exact ht
  · intro y hy
    rw [htk] at hy
    rcases List.mem_append.1 hy with hy | hy
    · intro s h1 h2 k h3 h4
      cases e : C s.n.toNat k with
      | true => exact List.mem_append_left _ (h.non y hy s h1 h2 k e h4)
      | false => exact hn2 y (List.mem_of_mem_take hy) s h1 h2 k h3 e h4
    · simp at hy; subst hy; exact hn
open Classical in
theorem Items.termN {L : List (Nat × Nat × Nat)} {p i d l : Nat} {C : Nat → Nat → Bool} {s : Sym} (h : Items K n L p C) (hp : p < L.length) (hx : L[p] = (i, d, l)) (hs : (rt K i)[d]? = some s) (ht : s.term = true) : Items K n (addL n L (i, d + 1, l + 1)) (p + 1) C := by
  have hit := (h.sound _ (List.getElem_mem hp)).1
  rw [hx] at hit
  refine h.next hp hx ((Grow.refl h.nodup h.sound).add (.term hit hs ht)) (fun _ _ h => .inl h) (fun _ _ h => h) (fun e => ?_) (fun s' hs' ht' hl => mem_addL hl) (fun s' hs' ht' k _ _ => ?_) (fun y _ s _ _ k h1 h2 _ => by rw [h1] at h2; cases h2)
  · have := (List.getElem?_eq_some_iff.1 hs).1; simp only at e; omega
  · simp only at hs'
    rw [hs] at hs'; cases hs'; rw [ht] at ht'; cases ht'
end Ln
end Go.Proofs.Ytjpmebppdcclbaa
namespace Go.Proofs.Ytjpmebppdcclbaa
open Go.RowKit
end Go.Proofs.Ytjpmebppdcclbaa
namespace Go.Proofs.Ytjpmebppdcclbaa
open Go.RowKit
abbrev BTab (B bt N hi : Nat) (rb : Nat → Nat) (val : Nat → Nat → Bool) (wr : World) : Prop := Grd 54 4 B bt N N hi rb (fun i j => .bool (val i j)) wr
structure DI (w : World) (bt N : Nat) (G : Array Value) (rb : Nat → Nat) (hi : Nat) (val : Nat → Nat → Bool) (wr : World) : Prop where
  tab : BTab (w.heap.size + 1) bt N hi rb val wr
  bel : Below w.heap.size w wr
  box : wr.heap[w.heap.size]? = some (.cells G 24 (0, 0))
section
variable {w : World} {bt N : Nat} {G : Array Value} {rb : Nat → Nat} {hi : Nat} {val val' : Nat → Nat → Bool} {wr w' : World}
theorem DI.keep (h : DI w bt N G rb hi val wr) (hb : Below wr.heap.size wr w') : DI w bt N G rb hi val w' := ⟨h.tab.keep hb, h.bel.trans (hb.mono h.bel.size), bx_keep h.box hb⟩
theorem DI.eq (h : DI w bt N G rb hi val wr) (he : ∀ i j, i < N → j < N → val i j = val' i j) : DI w bt N G rb hi val' wr := ⟨h.tab.eq (fun i j _ hi hj => by rw [he i j hi hj]), h.bel, h.box⟩
theorem DI.set (h : DI w bt N G rb N val wr) {i j : Nat} (hi : i < N) (hj : j < N) (x : Bool) (he : ∀ a b, a < N → b < N → val' a b = if a = i ∧ b = j then x else val a b) : DI w bt N G rb N val' (wr.setCell ⟨rb i, j, none⟩ (.bool x)) := by
  have hne := (h.tab.ne i hi hi).2
  refine ⟨(h.tab.set hi hi hj (.bool x)).eq (fun a b _ ha hb => ?_), h.bel.setCell (by show w.heap.size ≤ rb i; omega) _, bx_other h.box (by show w.heap.size ≠ rb i; omega) _ _⟩
  rw [he a b ha hb]
  split <;> rfl
end
end Go.Proofs.Ytjpmebppdcclbaa
namespace Go.Proofs.Ytjpmebppdcclbaa
open Go.RowKit
namespace Ln
def Brow (g m : Nat) (A : Nat → Bool) (wr : World) : Prop := ∃ cs, wr.heap[g]? = some (.cells cs 4 (0, 0)) ∧ cs.size = m ∧ ∀ k, k < m → cs[k]? = some (.bool (A k))
section
variable {g m : Nat} {A A' : Nat → Bool} {wr w' : World}
theorem Brow.lt (h : Brow g m A wr) : g < wr.heap.size := by obtain ⟨cs, h1, _⟩ := h; exact (Array.getElem?_eq_some_iff.1 h1).1
theorem Brow.keep (h : Brow g m A wr) (hb : Below wr.heap.size wr w') : Brow g m A w' := by obtain ⟨cs, h1, h2⟩ := h; exact ⟨cs, bx_keep h1 hb, h2⟩
theorem Brow.cell (h : Brow g m A wr) {k : Nat} (hk : k < m) : wr.cell? ⟨g, k, none⟩ = some (.bool (A k)) := by obtain ⟨cs, h1, h2, h3⟩ := h; simp [World.cell?, h1, h3 k hk]
theorem Brow.free (h : Brow g m A wr) (k : Nat) : wr.frozen? ⟨g, k, none⟩ = false := by obtain ⟨cs, h1, h2, h3⟩ := h; simp [World.frozen?, h1]
theorem Brow.eq (h : Brow g m A wr) (he : ∀ k, k < m → A k = A' k) : Brow g m A' wr := by obtain ⟨cs, h1, h2, h3⟩ := h; exact ⟨cs, h1, h2, fun k hk => by rw [h3 k hk, he k hk]⟩
theorem Brow.set (h : Brow g m A wr) {j : Nat} (hj : j < m) (he : ∀ k, k < m → A' k = if k = j then true else A k) : Brow g m A' (wr.setCell ⟨g, j, none⟩ (.bool true)) := by
  obtain ⟨cs, h1, h2, h3⟩ := h
  refine ⟨cs.setIfInBounds j (.bool true), bx_set h1 _ _, by simpa using h2, fun k hk => ?_⟩
  rw [Array.getElem?_setIfInBounds, he k hk]
  by_cases e : j = k
  · subst e; rw [if_pos rfl, if_pos (by omega)]; simp
  · rw [if_neg e, h3 k hk, if_neg (fun h => e h.symm)]
theorem Brow.other (h : Brow g m A wr) {b : Nat} (hne : g ≠ b) (j : Nat) (v : Value) : Brow g m A (wr.setCell ⟨b, j, none⟩ v) := by obtain ⟨cs, h1, h2⟩ := h; exact ⟨cs, bx_other h1 hne _ _, h2⟩
end
structure LI (w : World) (bt N m : Nat) (G : Array Value) (rb : Nat → Nat) (hi : Nat) (H : Nat → Nat → Bool) (wr : World) : Prop where
  tab : Grd 54 4 (w.heap.size + 1) bt N m hi rb (fun i j => .bool (H i j)) wr
  bel : Below w.heap.size w wr
  box : wr.heap[w.heap.size]? = some (.cells G 24 (0, 0))
section
variable {w : World} {bt N m : Nat} {G : Array Value} {rb : Nat → Nat} {hi : Nat} {H H' : Nat → Nat → Bool} {wr w' : World}
theorem LI.keep (h : LI w bt N m G rb hi H wr) (hb : Below wr.heap.size wr w') : LI w bt N m G rb hi H w' := ⟨h.tab.keep hb, h.bel.trans (hb.mono h.bel.size), bx_keep h.box hb⟩
theorem LI.set (h : LI w bt N m G rb N H wr) {i j : Nat} (hi : i < N) (hj : j < m) (he : ∀ a b, a < N → b < m → H' a b = if a = i ∧ b = j then true else H a b) : LI w bt N m G rb N H' (wr.setCell ⟨rb i, j, none⟩ (.bool true)) := by
  have hne := (h.tab.ne i hi hi).2
  refine ⟨(h.tab.set hi hi hj (.bool true)).eq (fun a b _ ha hb => ?_), h.bel.setCell (by show w.heap.size ≤ rb i; omega) _, bx_other h.box (by show w.heap.size ≠ rb i; omega) _ _⟩
  rw [he a b ha hb]
  split <;> rfl
end
def cells (N m : Nat) : List (Nat × Nat) := (List.range N).flatMap fun a => (List.range m).map fun b => (a, b)
end Ln
end Go.Proofs.Ytjpmebppdcclbaa
namespace Go.Proofs.Ytjpmebppdcclbaa
open Go.RowKit
namespace Ln
end Ln
end Go.Proofs.Ytjpmebppdcclbaa
namespace Go.Proofs.Ytjpmebppdcclbaa
open Go.RowKit
namespace Ln
theorem Grd.same {tr te : TypeId} {B bt n m hi : Nat} {rb : Nat → Nat} {val : Nat → Nat → Value} {wr w' : World} (h : Grd tr te B bt n m hi rb val wr) (h1 : w'.heap[bt]? = wr.heap[bt]?) (h2 : ∀ i, i < hi → i < n → w'.heap[rb i]? = wr.heap[rb i]?) : Grd tr te B bt n m hi rb val w' := by
  obtain ⟨⟨cs, k1, k2⟩, k3, k4, k5, k6⟩ := h
  refine ⟨⟨cs, h1.trans k1, k2⟩, fun k hk hn => ?_, k4, k5, k6⟩
  obtain ⟨rs, r1, r2⟩ := k3 k hk hn
  exact ⟨rs, (h2 k hk hn).trans r1, r2⟩
section
variable {w2 : World} {nb s n : Nat} {X X' : Nat → Prop} {L L0 : List (Nat × Nat × Nat)} {p g0 off0 : Nat} {wr w' : World}
end
section
variable {w : World} {s n N : Nat} {G : Array Value} {bt : Nat} {rb : Nat → Nat} {X X' : Nat → Prop} {L L' : List (Nat × Nat × Nat)} {p : Nat} {L0 : List (Nat × Nat × Nat)} {g0 off0 : Nat} {C C' : Nat → Nat → Bool} {wr w' : World}
end
end Ln
end Go.Proofs.Ytjpmebppdcclbaa
namespace Go.Proofs.Ytjpmebppdcclbaa
open Go.RowKit
namespace Cs
structure FI (W : World) (sx : Nat) (SB : Array Value) (ga : Nat) (A : Nat → Bool) (gn : Nat) (M : Nat → Bool) (m : Nat) (wr : World) : Prop where
  bel : Below W.heap.size W wr
  sbox : wr.heap[sx]? = some (.cells SB 44 (0, 0))
  arow : Ln.Brow ga m A wr
  nrow : Ln.Brow gn m M wr
  ne : W.heap.size ≤ gn ∧ gn ≠ sx ∧ gn ≠ ga
section
variable {W : World} {sx : Nat} {SB : Array Value} {ga : Nat} {A : Nat → Bool} {gn : Nat} {M M' : Nat → Bool} {m : Nat} {wr w' : World}
theorem FI.eq (h : FI W sx SB ga A gn M m wr) (he : ∀ k, k < m → M k = M' k) : FI W sx SB ga A gn M' m wr := ⟨h.bel, h.sbox, h.arow, h.nrow.eq he, h.ne⟩
theorem FI.keep (h : FI W sx SB ga A gn M m wr) (hb : Below wr.heap.size wr w') : FI W sx SB ga A gn M m w' := ⟨h.bel.trans (hb.mono h.bel.size), bx_keep h.sbox hb, h.arow.keep hb, h.nrow.keep hb, h.ne⟩
theorem Brow.setV (h : Ln.Brow gn m M wr) {j : Nat} {x : Bool} (hj : j < m) (he : ∀ k, k < m → M' k = if k = j then x else M k) : Ln.Brow gn m M' (wr.setCell ⟨gn, j, none⟩ (.bool x)) := by
  obtain ⟨cs, h1, h2, h3⟩ := h
  refine ⟨cs.setIfInBounds j (.bool x), bx_set h1 _ _, by simpa using h2, fun k hk => ?_⟩
  rw [Array.getElem?_setIfInBounds, he k hk]
  by_cases e : j = k
  · subst e; rw [if_pos rfl, if_pos (by omega)]; simp
  · rw [if_neg e, h3 k hk, if_neg (fun h => e h.symm)]
theorem FI.set (h : FI W sx SB ga A gn M m wr) {j : Nat} {x : Bool} (hj : j < m) (he : ∀ k, k < m → M' k = if k = j then x else M k) : FI W sx SB ga A gn M' m (wr.setCell ⟨gn, j, none⟩ (.bool x)) := by
  obtain ⟨h1, h2, h3, h4, e1, e2, e3⟩ := h
  exact ⟨h1.setCell (p := ⟨gn, j, none⟩) e1 _, bx_other h2 (fun e => e2 e.symm) _ _, h3.other (fun e => e3 e.symm) _ _, Brow.setV h4 hj he, e1, e2, e3⟩
end
end Cs
end Go.Proofs.Ytjpmebppdcclbaa
namespace Go.Proofs.Ytjpmebppdcclbaa
open Go.RowKit
namespace Cs
structure InG (e : TypeId) (size B : Nat) (w3 : World) (vo : Value) (ds : List D) (v : Value) (wr : World) : Prop where
  row : RowD (fun k => B ≤ k) B e size ds v wr
  gr : w3.grownBy wr vo.ownBlock
  at' : v.ownBlock = vo.ownBlock ∨ ∃ k, v.ownBlock = some k ∧ w3.heap.size ≤ k
section
variable {e : TypeId} {size B : Nat} {w1 w3 : World} {vo : Value} {ds : List D} {v v' : Value} {wr w' W0 W1 : World}
theorem InG.start (h : RowD (fun k => B ≤ k) B e size ds vo w3) : InG e size B w3 vo ds vo w3 := ⟨h, ⟨rfl, rfl, rfl, Nat.le_refl _, fun _ _ _ => rfl⟩, .inl rfl⟩
theorem InG.keep (h : InG e size B w3 vo ds v wr) (hb : Below wr.heap.size wr w') : InG e size B w3 vo ds v w' := ⟨h.row.keep hb, grown_trans h.gr (grown_below hb _), h.at'⟩
theorem InG.rd (h : InG e size B w3 vo ds v wr) {T : Nat → Prop} {d : D} {cs : List Value} (hd : Rd (fun k => T k ∧ vo.ownBlock ≠ some k) w3 d cs) : Rd (fun k => T k ∧ k < wr.heap.size ∧ v.ownBlock ≠ some k) wr d cs := by
  refine Rd.keep (fun k hk hlt => ⟨⟨hk.1, Nat.lt_of_lt_of_le hlt h.gr.size, fun e => ?_⟩, h.gr.block k hlt (fun e => hk.2 e.symm)⟩) _ _ hd
  rcases h.at' with h2 | ⟨j, h2, hj⟩
  · rw [h2] at e; exact hk.2 e
  · rw [h2] at e; cases e; omega
theorem InG.below (h : InG e size B w3 vo ds v wr) (hb : Below B w1 w3) (hB : B ≤ w3.heap.size) (hvo : ∀ k, vo.ownBlock = some k → B ≤ k) : Below B w1 wr := hb.grown h.gr hB hvo
theorem InG.step {xs news : List Value} {n : Nat} {T : Nat → Prop} {d : D} (h : InG e size B w3 vo ds v W0) (ho : W0.ownsRow B e size v n xs) (hd : RdAll (fun k => B ≤ k ∧ v.ownBlock ≠ some k) W0 ds xs) (hn : n = ds.length)
    (hr : Rd T W0 d news) (hT : ∀ k, T k → k < W0.heap.size → B ≤ k ∧ v.ownBlock ≠ some k)
    (ho' : W1.ownsRow B e size v' (n + 1) (xs ++ news)) (hg : W0.grownBy W1 v.ownBlock) (hat : v'.ownBlock = v.ownBlock ∨ ∃ k, v'.ownBlock = some k ∧ W0.heap.size ≤ k) : InG e size B w3 vo (ds ++ [d]) v' W1 := by
  refine ⟨RowD.step (es := [d]) ho hd hn (RdAll.one hr) hT h.row.le ho' hg hat, ?_, ?_⟩
  · refine ⟨hg.os.trans h.gr.os, hg.tape.trans h.gr.tape, hg.output.trans h.gr.output, Nat.le_trans h.gr.size hg.size, fun k hk hne => ?_⟩
    rw [hg.block k (Nat.lt_of_lt_of_le hk h.gr.size) ?_, h.gr.block k hk hne]
    intro e
    rcases h.at' with h2 | ⟨j, h2, hj⟩
    · exact hne (by rw [e, h2])
    · rw [h2] at e; cases e; omega
  · have := h.gr.size
    rcases hat with h2 | ⟨j, h2, hj⟩
    · rw [h2]; exact h.at'
    · exact .inr ⟨j, h2, by omega⟩
end
end Cs
end Go.Proofs.Ytjpmebppdcclbaa
namespace Go.Proofs.Ytjpmebppdcclbaa
open Go.RowKit
namespace Cs
end Cs
end Go.Proofs.Ytjpmebppdcclbaa
namespace Go.Proofs.Ytjpmebppdcclbaa
open Go.RowKit
end Go.Proofs.Ytjpmebppdcclbaa
namespace Go.Proofs.Ytjpmebppdcclbaa
open Go.RowKit
namespace Cs
structure LI (wB : World) (bt sz : Nat) (rb : Nat → Nat) (B2 : Nat) (F : Nat → Nat → Bool) (wr : World) : Prop where
  tab : Grd 54 4 wB.heap.size bt sz sz sz rb (fun a b => .bool (F a b)) wr
  bel : Below wB.heap.size wB wr
  lo : ∀ a, a < sz → rb a < B2
section
variable {wB : World} {bt sz : Nat} {rb : Nat → Nat} {B2 : Nat} {F : Nat → Nat → Bool} {wr W : World}
theorem LI.keep (h : LI wB bt sz rb B2 F wr) (hb : Below wr.heap.size wr W) : LI wB bt sz rb B2 F W := ⟨h.tab.keep hb, h.bel.trans (hb.mono h.bel.size), h.lo⟩
theorem LI.setv (h : LI wB bt sz rb B2 F wr) {a b : Nat} (ha : a < sz) (hb : b < sz) (x : Bool) : LI wB bt sz rb B2 (fun k l => if k = a ∧ l = b then x else F k l) (wr.setCell ⟨rb a, b, none⟩ (.bool x)) := by
  refine ⟨(h.tab.set ha ha hb (.bool x)).eq (fun k l _ _ _ => ?_), h.bel.setCell (p := ⟨rb a, b, none⟩) (h.tab.ne a ha ha).2 _, h.lo⟩
  show (if k = a ∧ l = b then _ else _) = _
  split <;> rfl
theorem LI.eq {F' : Nat → Nat → Bool} (h : LI wB bt sz rb B2 F wr) (he : ∀ k l, k < sz → l < sz → F k l = F' k l) : LI wB bt sz rb B2 F' wr := ⟨h.tab.eq fun k l hk _ hl => by rw [he k l hk hl], h.bel, h.lo⟩
theorem LI.set (h : LI wB bt sz rb B2 F wr) {a b : Nat} (ha : a < sz) (hb : b < sz) : LI wB bt sz rb B2 (updB F a b) (wr.setCell ⟨rb a, b, none⟩ (.bool true)) := h.setv ha hb true
end
def okL (N : Nat) (g : Gram) : Prop := ∀ r ∈ g.rules, 0 ≤ r.left ∧ r.left.toNat < N
end Cs
end Go.Proofs.Ytjpmebppdcclbaa
namespace Go.Proofs.Ytjpmebppdcclbaa
open Go.RowKit
namespace Cs
section
variable {e : TypeId} {size B : Nat} {w3 : World} {vo : Value} {ds : List D} {v : Value} {wr : World}
theorem InG.block (h : InG e size B w3 vo ds v wr) {b : Nat} {o : Obj} (hb : w3.heap[b]? = some o) (hne : vo.ownBlock ≠ some b) : wr.heap[b]? = some o := by
  rw [h.gr.block b (Array.getElem?_eq_some_iff.1 hb).1 (fun e => hne e.symm)]; exact hb
end
end Cs
end Go.Proofs.Ytjpmebppdcclbaa
namespace Go.Proofs.Ytjpmebppdcclbaa
open Go.RowKit
namespace Ln
end Ln
end Go.Proofs.Ytjpmebppdcclbaa
namespace Go.Proofs.Ytjpmebppdcclbaa
open Go.RowKit
namespace Cs
theorem inv_setc {md : Region.Mode} {ops : Array Oper} {n i : Nat} {listed : Array Bool} (inv : HeadInv md ops n listed) (hr : (Region.ready md ops listed).contains i = true) (hin : i < n) : HeadInv md ops n (listed.setIfInBounds i true) := inv.set (by simpa using hr) hin
end Cs
end Go.Proofs.Ytjpmebppdcclbaa
namespace Go.Proofs.Ytjpmebppdcclbaa
open Go.RowKit
namespace Cs
structure OkC (g : Gram) (N : Nat) : Prop where
  nons : g.nons = (N : Int)
  n1 : 1 ≤ N
  n2 : N ≤ 10
  s0 : 0 ≤ g.start
  s1 : g.start < (N : Int)
  r : okR N g
  l : okL N g
  len : g.rules.length ≤ 32
theorem okC_of {g : Gram} (h : checkG g = 0) : ∃ N, OkC g N := by
  unfold checkG at h
  by_cases hb : badHead g = true
  · rw [if_pos hb] at h; cases h
  · rw [if_neg hb] at h
    by_cases hl : 32 < g.rules.length
    · rw [if_pos hl] at h; cases h
    · rw [if_neg hl] at h
      have hz := faultsFrom_zero h
      unfold badHead at hb
      simp only [Bool.or_eq_true, decide_eq_true_eq, not_or] at hb
      obtain ⟨⟨⟨⟨⟨b1, b2⟩, b3⟩, b4⟩, b5⟩, b6⟩ := hb
      refine ⟨g.nons.toNat, by omega, by omega, by omega, by omega, by omega, fun r hr s hs ht => ?_, fun r hr => ?_, by omega⟩
      · have := (hz r hr).2.2.2 s hs
        unfold hasS at this
        rw [ht] at this
        simp at this
        omega
      · have := hz r hr
        omega
end Cs
end Go.Proofs.Ytjpmebppdcclbaa
namespace Go.Proofs.Ytjpmebppdcclbaa
open Go.RowKit
namespace Cs
def same (T : Nat → Nat → Bool) (N n A k : Nat) : Nat := ((List.range N).filter fun B => T (A * (n + 1) + k) (B * (n + 1) + k)).length
theorem filter_lt {P Q : Nat → Bool} {v : Nat} (hPQ : ∀ w, P w = true → Q w = true) (hv : Q v = true) (hv' : P v = false) (N : Nat) (h : v < N) : ((List.range N).filter P).length < ((List.range N).filter Q).length := by
  have key : ∀ n, ((List.range n).filter P).length + (if v < n then 1 else 0) ≤ ((List.range n).filter Q).length := by
    intro n
    induction n with
    | zero => simp
    | succ n ih =>
      rw [List.range_succ, List.filter_append, List.filter_append, List.length_append, List.length_append]
      by_cases e : v = n
      · subst e
        rw [if_neg (by omega)] at ih
        rw [if_pos (by omega)]
        simp [hv, hv'] at ih ⊢
        exact ih
      · have e2 : (if v < n + 1 then 1 else 0) = (if v < n then 1 else 0) := by
          by_cases h : v < n
          · rw [if_pos h, if_pos (by omega)]
          · rw [if_neg h, if_neg (by omega)]
        rw [e2]
        cases h : P n with
        | false => simp [h]; omega
        | true =>
          have := hPQ n h
          simp [h, this]; omega
  have := key N
  rw [if_pos h] at this
  omega
section
variable {rules : List Rule} {S : Nat → Nat → Bool} {N n : Nat}
end
end Cs
end Go.Proofs.Ytjpmebppdcclbaa
namespace Go.Proofs.Ytjpmebppdcclbaa
open Go.RowKit
namespace Cs
section
variable {g : Gram} {vr : Value} {N n : Nat} {d : Cid} {S M : Nat → Nat → Bool} {V : Nat → Nat → Int} {w0 : World} {C : Nat → Nat → Int} {W W' : World}
theorem own_fr {B : Nat} {e : TypeId} {s : Nat} {v : Value} {k : Nat} {xs : List Value} (h : W.ownsRow B e s v k xs) (hf : Fr N d W W') (hr : ∀ a, a < N → d.rc a < B) : W'.ownsRow B e s v k xs := by
  obtain ⟨h1, h2⟩ := h
  refine ⟨h1, ?_⟩
  rcases h2 with h2 | ⟨b, cap, cur, rfl, hg, hh, r⟩
  · exact .inl h2
  · exact .inr ⟨b, cap, cur, rfl, hg, (hf.block b (Array.getElem?_eq_some_iff.1 hh).1 (fun a ha e => by have := hr a ha; omega)).trans hh, r⟩
theorem RowD.fr {B : Nat} {e : TypeId} {s : Nat} {ds : List D} {v : Value} (h : RowD (fun k => B ≤ k) B e s ds v W) (hf : Fr N d W W') (hr : ∀ a, a < N → d.rc a < B) : RowD (fun k => B ≤ k) B e s ds v W' := by
  obtain ⟨⟨xs, h1, h2⟩, h3⟩ := h
  exact ⟨⟨xs, own_fr h1 hf hr, RdAll.keep (fun k hk hl => ⟨hk, hf.block k hl (fun a ha e => by have := hr a ha; omega)⟩) _ _ h2⟩, Nat.le_trans h3 hf.size⟩
theorem CI.low (h : CI g vr N n d S M C W) (hs : ∀ k, k ≤ d.cb → W'.heap[k]? = W.heap[k]?) : CI g vr N n d S M C W' := by
  obtain ⟨⟨T, h1⟩, h2, h3, h4, h5⟩ := h
  have p2 := h2.pl
  have p3 := h3.pl
  have p4 := h4.pl
  exact ⟨⟨T, (hs _ (Nat.le_refl _)).trans h1⟩, h2.other fun k _ hk => hs k (by omega), h3.other fun k _ hk => hs k (by omega), h4.other fun k _ hk => hs k (by omega), h5⟩
theorem CS.keepB {B : Nat} (h : CS g vr N n d S M V w0 C W) (hb : Below B W W') (hB : d.cb < B) : CS g vr N n d S M V w0 C W' := by
  have p2 := h.ci.some'.pl
  have p3 := h.ci.many.pl
  have p4 := h.ci.cnt.pl
  have p5 := h.ci.le
  have p6 := h.lo
  exact ⟨h.ci.low fun k hk => hb.block k (by omega), h.cv, h.bel.trans (hb.mono (by omega)), h.lo⟩
theorem CS.rlt (h : CS g vr N n d S M V w0 C W) {B : Nat} (hB : d.cb < B) : ∀ a, a < N → d.rc a < B := fun a ha => Nat.lt_trans (h.rc a ha).2 hB
end
def tC (g : Gram) (S : Nat → Nat → Bool) (N n A k : Nat) : Int := symV S (valK g.rules S (MK g.rules S N n) MaxC (-1) (sizeK N n)) ⟨false, (A : Int)⟩ k
def rowC (g : Gram) (S : Nat → Nat → Bool) (N n A k : Nat) : List Int := (List.range k).map (tC g S N n A)
def tabC (g : Gram) (S : Nat → Nat → Bool) (N n A : Nat) : List (List Int) := (List.range A).map fun a => rowC g S N n a (n + 1)
theorem rowC_next (g : Gram) (S : Nat → Nat → Bool) (N n A k : Nat) : rowC g S N n A (k + 1) = rowC g S N n A k ++ [tC g S N n A k] := by unfold rowC; rw [List.range_succ, List.map_append]; rfl
theorem tabC_next (g : Gram) (S : Nat → Nat → Bool) (N n A : Nat) : tabC g S N n (A + 1) = tabC g S N n A ++ [rowC g S N n A (n + 1)] := by unfold tabC; rw [List.range_succ, List.map_append]; rfl
theorem rowC_len (g : Gram) (S : Nat → Nat → Bool) (N n A k : Nat) : (rowC g S N n A k).length = k := by simp [rowC]
theorem tabC_len (g : Gram) (S : Nat → Nat → Bool) (N n A : Nat) : (tabC g S N n A).length = A := by simp [tabC]
structure TI (g : Gram) (vr : Value) (N n : Nat) (d : Cid) (S : Nat → Nat → Bool) (w1 : World) (B A : Nat) (v : Value) (W : World) : Prop where
  cs : ∃ C, CS g vr N n d S (MK g.rules S N n) (valK g.rules S (MK g.rules S N n) MaxC (-1) (sizeK N n)) w1 C W
  row : RowD (fun k => B ≤ k) B 25 1 ((tabC g S N n A).map D.ints) v W
  cb : d.cb < B
structure TJ (g : Gram) (vr : Value) (N n : Nat) (d : Cid) (S : Nat → Nat → Bool) (w1 w3 : World) (A k : Nat) (v : Value) (W : World) : Prop where
  cs : ∃ C, CS g vr N n d S (MK g.rules S N n) (valK g.rules S (MK g.rules S N n) MaxC (-1) (sizeK N n)) w1 C W
  row : W.ownsRow w3.heap.size 3 1 v k (ints (rowC g S N n A k))
  fr : Fr N d w3 W
  cb : d.cb < w3.heap.size
section
variable {g : Gram} {vr : Value} {N n : Nat} {d : Cid} {S : Nat → Nat → Bool} {w1 w3 W W' : World} {B A k : Nat} {v u : Value}
theorem TJ.keep (h : TJ g vr N n d S w1 w3 A k v W) (hb : Below W.heap.size W W') : TJ g vr N n d S w1 w3 A k v W' := by
  obtain ⟨C, hc⟩ := h.cs
  exact ⟨⟨C, hc.keep hb⟩, own_keep h.row hb, h.fr.trans (Fr.of hb), h.cb⟩
theorem TJ.of (h : TJ g vr N n d S w1 w3 A k v W) (hf : Fr N d W W') (hc : ∃ C, CS g vr N n d S (MK g.rules S N n) (valK g.rules S (MK g.rules S N n) MaxC (-1) (sizeK N n)) w1 C W') : TJ g vr N n d S w1 w3 A k v W' := by
  obtain ⟨C, hc0⟩ := h.cs
  exact ⟨hc, own_fr h.row hf (hc0.rlt h.cb), h.fr.trans hf, h.cb⟩
theorem TJ.add {v' : Value} (h : TJ g vr N n d S w1 w3 A k v W) (ho : W'.ownsRow w3.heap.size 3 1 v' (k + 1) (ints (rowC g S N n A k) ++ [.int .i64 (tC g S N n A k)])) (hg : W.grownBy W' v.ownBlock) : TJ g vr N n d S w1 w3 A (k + 1) v' W' := by
  obtain ⟨C, hc⟩ := h.cs
  have hlt := h.row.lt
  have hs := h.fr.size
  refine ⟨⟨C, hc.keepB (B := w3.heap.size) ((Below.refl _ _).grown hg hs (fun k e => (hlt k e).1)) h.cb⟩, ?_, ?_, h.cb⟩
  · rw [rowC_next]; simpa [ints] using ho
  · exact ⟨hg.os.trans h.fr.os, hg.tape.trans h.fr.tape, hg.output.trans h.fr.output, Nat.le_trans hs hg.size, fun j hj hn => (hg.block j (by omega) (fun e => by have := (hlt j e.symm).1; omega)).trans (h.fr.block j hj hn)⟩
theorem TI.keep (h : TI g vr N n d S w1 B A v W) (hb : Below W.heap.size W W') : TI g vr N n d S w1 B A v W' := by
  obtain ⟨C, hc⟩ := h.cs
  exact ⟨⟨C, hc.keep hb⟩, h.row.keep hb, h.cb⟩
theorem TI.start (h : TI g vr N n d S w1 B A v w3) : TJ g vr N n d S w1 w3 A 0 (.slice none 0 0) w3 := by
  have := h.row.le
  have := h.cb
  exact ⟨h.cs, World.ownsRow_nil _ _ _ _, Fr.refl _ _ _, by omega⟩
theorem TI.add {v' : Value} {xs : List Value} (h : TI g vr N n d S w1 B A v w3) (hj : TJ g vr N n d S w1 w3 A (n + 1) u W) (h1 : W.ownsRow B 25 1 v A xs) (h2 : RdAll (fun k => B ≤ k ∧ v.ownBlock ≠ some k) W ((tabC g S N n A).map D.ints) xs)
    (ho : W'.ownsRow B 25 1 v' (A + 1) (xs ++ [u])) (hg : W.grownBy W' v.ownBlock) (hat : v'.ownBlock = v.ownBlock ∨ ∃ k, v'.ownBlock = some k ∧ W.heap.size ≤ k) : TI g vr N n d S w1 B (A + 1) v' W' := by
  obtain ⟨C, hc⟩ := hj.cs
  have hle := h.row.le
  have hs := hj.fr.size
  have hlt : ∀ k, v.ownBlock = some k → B ≤ k ∧ k < w3.heap.size := by
    obtain ⟨xs', o1, o2⟩ := h.row.own
    exact o1.lt
  refine ⟨⟨C, hc.keepB (B := B) ((Below.refl _ _).grown hg (by omega) (fun k e => (hlt k e).1)) h.cb⟩, ?_, h.cb⟩
  rw [tabC_next, List.map_append]
  have hrd : Rd (fun k => w3.heap.size ≤ k) W (D.ints (rowC g S N n A (n + 1))) [u] := rd_of_own hj.row ((rdAll_ints _ _).2 rfl) (by simp [rowC_len]) (fun k e => (hj.row.lt k e).1)
  exact RowD.step (es := [D.ints (rowC g S N n A (n + 1))]) h1 h2 (by rw [List.length_map, tabC_len]) (RdAll.one hrd) (fun k hk _ => ⟨by omega, fun e => by have := (hlt k e).2; omega⟩) (by omega) (by simpa using ho) hg hat
end
end Cs
end Go.Proofs.Ytjpmebppdcclbaa
namespace Go.Proofs.Ytjpmebppdcclbaa
open Go.RowKit
namespace Cs
end Cs
end Go.Proofs.Ytjpmebppdcclbaa
namespace Go.Proofs.Ytjpmebppdcclbaa
open Go.RowKit
namespace Cs
def CntR (g : Gram) (vr : Value) (N n : Nat) (d : Cid) (S : Nat → Nat → Bool) (w1 : World) (W : World) : Prop :=
  ∃ C, CS g vr N n d S (MK g.rules S N n) (valK g.rules S (MK g.rules S N n) MaxC (-1) (sizeK N n)) w1 C W
end Cs
end Go.Proofs.Ytjpmebppdcclbaa
namespace Go.Proofs.Ytjpmebppdcclbaa
open Go.RowKit
def leavesOf (l : List Tree) : List Int := l.filterMap fun t => if t.rule = -1 then some t.term else none
end Go.Proofs.Ytjpmebppdcclbaa
namespace Go.Proofs.Ytjpmebppdcclbaa
open Go.RowKit
namespace Cs
def wl (t : Tree) : Nat := (leavesOf (nodes t)).length
def OkT (g : Gram) (t : Tree) : Prop := ∀ x ∈ nodes t, nodeOk g x = true
theorem OkT.size {t : Tree} (hr : t.rule ≠ -1) {i : Nat} (hi : i < t.kids.length) : (nodes t.kids[i]).length < (nodes t).length := by
  rw [nodes_eq t]
  unfold kidsOf
  rw [if_neg hr, nodesL_split hi]
  simp
  omega
theorem OkT.cases {g : Gram} {t : Tree} (h : OkT g t) : t.rule = -1 ∨ ∃ (j : Nat) (hj : j < g.rules.length), t.rule = (j : Int) ∧ t.kids.length = g.rules[j].right.length := by
  have h0 := h t (by rw [nodes_eq]; exact List.mem_cons_self)
  unfold nodeOk at h0
  by_cases h1 : t.rule = -1
  · exact .inl h1
  · rw [if_neg h1] at h0
    by_cases h2 : t.rule < 0
    · rw [if_pos h2] at h0; cases h0
    · rw [if_neg h2] at h0
      obtain ⟨j, hj⟩ := Int.eq_ofNat_of_zero_le (show 0 ≤ t.rule by omega)
      rw [hj, Int.toNat_natCast] at h0
      cases hg : g.rules[j]? with
      | none => rw [hg] at h0; cases h0
      | some r =>
        rw [hg] at h0
        obtain ⟨hjl, rfl⟩ := List.getElem?_eq_some_iff.1 hg
        simp only [Bool.and_eq_true, kidsOk, decide_eq_true_eq] at h0
        exact .inr ⟨j, hjl, hj, h0.2.1⟩
structure NI (g : Gram) (vr : Value) (N n : Nat) (d : Cid) (S : Nat → Nat → Bool) (w1 Wb W : World) : Prop where
  cs : CntR g vr N n d S w1 W
  fr : Fr N d Wb W
section
variable {g : Gram} {vr : Value} {N n : Nat} {d : Cid} {S : Nat → Nat → Bool} {w1 Wb W W' : World}
theorem CntR.keep (h : CntR g vr N n d S w1 W) (hb : Below W.heap.size W W') : CntR g vr N n d S w1 W' := by
  obtain ⟨C, hc⟩ := h
  exact ⟨C, hc.keep hb⟩
theorem CntR.bel (h : CntR g vr N n d S w1 W) : Below w1.heap.size w1 W := by obtain ⟨C, hc⟩ := h; exact hc.bel
theorem CntR.over (h : CntR g vr N n d S w1 W) {b : Nat} (hb : d.cb < b) : ∀ a, a < N → d.rc a ≠ b := by
  obtain ⟨C, hc⟩ := h
  intro a ha e
  have := (hc.rc a ha).2
  omega
theorem CntR.low (h : CntR g vr N n d S w1 W) {b : Nat} (hb : b < w1.heap.size) : ∀ a, a < N → d.rc a ≠ b := by
  obtain ⟨C, hc⟩ := h
  intro a ha e
  have := (hc.rc a ha).1
  omega
theorem NI.start (h : CntR g vr N n d S w1 W) : NI g vr N n d S w1 W W := ⟨h, Fr.refl _ _ _⟩
theorem NI.keep (h : NI g vr N n d S w1 Wb W) (hb : Below W.heap.size W W') : NI g vr N n d S w1 Wb W' := ⟨h.cs.keep hb, h.fr.trans (Fr.of hb)⟩
theorem NI.of (h : NI g vr N n d S w1 Wb W) (hf : Fr N d W W') (hc : CntR g vr N n d S w1 W') : NI g vr N n d S w1 Wb W' := ⟨hc, h.fr.trans hf⟩
end
end Cs
end Go.Proofs.Ytjpmebppdcclbaa
namespace Go.Proofs.Ytjpmebppdcclbaa
open Go.RowKit
namespace Cs
section
variable {rules : List Rule} {S M T : Nat → Nat → Bool} {N n size : Nat} {many : Int}
end
end Cs
end Go.Proofs.Ytjpmebppdcclbaa
namespace Go.Proofs.Ytjpmebppdcclbaa
open Go.RowKit
namespace Cs
end Cs
end Go.Proofs.Ytjpmebppdcclbaa
namespace Go.Proofs.Ytjpmebppdcclbaa
open Go.RowKit
theorem symEq (a c : Bool) (b d : Int) (w : World) : (binOp .eql 44 (.agg #[.bool a, .int .i64 b]) (.agg #[.bool c, .int .i64 d])).run Try.prog w = .ok (.bool (a == c && b == d)) w := by
  have h1 : Try.prog.underlying 44 = some (.struct (Try.prog.fieldsOf 44)) := by kernel_rfl
  have h2 : Try.prog.stoodInHeld 44 = false := by kernel_rfl
  have h3 := Try.underlying44
  have h4 := Try.underlying4
  have h5 := Try.underlying3
  rw [run_eql_struct, run_equalIn_agg (d := 9999) _ _ _ _ h1 h2]
  simp only [Program.fieldsOf, h3]
  cases hac : (a == c) <;> by_cases hbd : b = d <;> simp [Op.eqFields, go_sem, h4, h5, hac, hbd]
end Go.Proofs.Ytjpmebppdcclbaa
namespace Go.Proofs.Ytjpmebppdcclbaa
open Go.RowKit
end Go.Proofs.Ytjpmebppdcclbaa
namespace Go.Proofs.Ytjpmebppdcclbaa
open Go.RowKit
end Go.Proofs.Ytjpmebppdcclbaa
namespace Go.Proofs.Ytjpmebppdcclbaa
open Go.RowKit
end Go.Proofs.Ytjpmebppdcclbaa
namespace Go.Proofs.Ytjpmebppdcclbaa
open Go.RowKit
theorem symNe (a c : Bool) (b d : Int) (w : World) : (binOp .neq 44 (.agg #[.bool a, .int .i64 b]) (.agg #[.bool c, .int .i64 d])).run Try.prog w = .ok (.bool (!(a == c && b == d))) w := by
  have h1 : Try.prog.underlying 44 = some (.struct (Try.prog.fieldsOf 44)) := by kernel_rfl
  have h2 : Try.prog.stoodInHeld 44 = false := by kernel_rfl
  have h3 := Try.underlying44
  have h4 := Try.underlying4
  have h5 := Try.underlying3
  rw [run_neq_struct, run_equalIn_agg (d := 9999) _ _ _ _ h1 h2]
  simp only [Program.fieldsOf, h3]
  cases hac : (a == c) <;> by_cases hbd : b = d <;> simp [Op.eqFields, go_sem, h4, h5, hac, hbd]
end Go.Proofs.Ytjpmebppdcclbaa
namespace Go.Proofs.Ytjpmebppdcclbaa
open Go.RowKit
namespace Cs
end Cs
end Go.Proofs.Ytjpmebppdcclbaa
namespace Go.Proofs.Ytjpmebppdcclbaa
open Go.RowKit
namespace Cs
end Cs
end Go.Proofs.Ytjpmebppdcclbaa
