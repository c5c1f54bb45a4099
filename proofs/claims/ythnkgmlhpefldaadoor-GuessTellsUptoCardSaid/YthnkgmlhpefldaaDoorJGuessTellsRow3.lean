/- The contract of gram.Check. gram.Word, mean.check, mean.Accepts: of valid grammars and words. gram.Copy. Plain: the first choice of rules that fits. slices.Grow of nil and slices.Concat at [][]int. slices.IndexFunc, ContainsFunc and Concat of words. guess.agrees. XRegU, three operations that come up at once. -/
import Derived.Test.YthnkgmlhpefldaaDoorJGuessTellsRow2
import Derived.Deep.DeepCutAuto
import Derived.Test.YthnkgmlhpefldaaDoorJGuessTellsRow1
import Derived.BigQuiet
import Derived.Deep.LoopGhost
import Derived.Laws.EntriesVeiled
namespace Go.Proofs.YthnkgmlhpefldaaDoor
open Go.RowKit

theorem cells4 {W w' : World} (hb : Below W.heap.size W w') {b1 b2 : Nat} {T : TypeId} {a0 a1 c0 c1 : Value} (h1 : W.heap[b1]? = some (.cells #[a0, a1] T (0, 0))) (h2 : W.heap[b2]? = some (.cells #[c0, c1] T (0, 0))) :
    w'.cell? ⟨b1, 0, none⟩ = some a0 ∧ w'.cell? ⟨b1, 0 + 1, none⟩ = some a1 ∧ w'.cell? ⟨b2, 0, none⟩ = some c0 ∧ w'.cell? ⟨b2, 0 + 1, none⟩ = some c1 := by
  obtain ⟨x1, x2⟩ := bx_cells2 (bx_keep h1 hb)
  obtain ⟨x4, x5⟩ := bx_cells2 (bx_keep h2 hb)
  exact ⟨x1, x2, x4, x5⟩

set_option maxHeartbeats 1000000 in
set_option maxRecDepth 100000 in
theorem compareR (x y : Rule) (a a' : Option Addr) (c c' : Nat) (w : World) (hx : Rd AnyB w (.sl (x.right.map Sym.d)) [.slice a x.right.length c]) (hy : Rd AnyB w (.sl (y.right.map Sym.d)) [.slice a' y.right.length c']) :
    Calls Tryd.prog 47 #[.agg #[.int .i64 x.left, .slice a x.right.length c], .agg #[.int .i64 y.left, .slice a' y.right.length c']] w fun e w' => e = .returned (.int .i64 (cmpR x y)) ∧ Below w.heap.size w w' := by
  obtain ⟨lx, HLX⟩ := nameIt x.left
  obtain ⟨ly, HLY⟩ := nameIt y.left
  obtain ⟨nx, HNX⟩ := nameIt x.right.length
  obtain ⟨ny, HNY⟩ := nameIt y.right.length
  obtain ⟨w0, HW0⟩ := nameIt ((w.alloc (.cells #[.int .i64 lx, .slice a nx c] 32)).alloc (.cells #[.int .i64 ly, .slice a' ny c'] 32))
  have HB : Hid (Below w.heap.size w w0) := by rw [← HW0.out]; exact ((Below.refl _ _).alloc (Nat.le_refl _) _).alloc (by simp) _
  have X1 : Hid (w0.heap[w.heap.size]? = some (.cells #[.int .i64 lx, .slice a nx c] 32 (0, 0))) := by
    rw [← HW0.out]; exact bx_keep (bx_new _ _ _ rfl) ((Below.refl _ _).alloc (Nat.le_refl _) _)
  have X2 : Hid (w0.heap[w.heap.size + 1]? = some (.cells #[.int .i64 ly, .slice a' ny c'] 32 (0, 0))) := by
    rw [← HW0.out]; exact bx_new _ _ _ (by simp)
  obtain ⟨q1, HQ1⟩ := nameIt (cmp3 lx ly)
  obtain ⟨q2, HQ2⟩ := nameIt (cmpS x.right y.right)
  have C1 := Lib.hid (fun W => compareInt lx ly W)
  have C2 := Lib.hid (fun W (hb : Below w0.heap.size w0 W) => compareSyms a a' c c' x.right y.right W ((hx.below HB.out).below hb) ((hy.below HB.out).below hb))
  rw [HQ1.out] at C1
  rw [HQ2.out, HNX.out, HNY.out] at C2
  have HR : Hid (cmpR x y = orL [q1, q2]) := by show _ = _; unfold cmpR; rw [HLX.out, HLY.out, HQ1.out, HQ2.out]
  rw [HLX.out, HLY.out, HNX.out, HNY.out]
  obtain ⟨x0, x1⟩ := bx_cells2 X1.out
  obtain ⟨y0, y1⟩ := bx_cells2 X2.out
  clear hx hy
  go_enter Tryd.func47, Tryd.ntmps47
  go_wp2_with fail
  rw [HW0.out]
  go_region_held3 (fun w' => w'.cell? ⟨w.heap.size, 0, none⟩ = some (.int .i64 lx) ∧ w'.cell? ⟨w.heap.size, 0 + 1, none⟩ = some (.slice a nx c) ∧ w'.cell? ⟨w.heap.size + 1, 0, none⟩ = some (.int .i64 ly) ∧ w'.cell? ⟨w.heap.size + 1, 0 + 1, none⟩ = some (.slice a' ny c'))
    (first | exact cells4 (Below.refl _ _).drew X1.out X2.out | exact cells4 (HB2.out.alloc HB2.out.size _) X1.out X2.out | exact cells4 HB2.out X1.out X2.out | fail)
    (first
      | (go_at_call 53; (with_reducible refine (C1.out _).mono ?_); rintro e w' ⟨rfl, rfl⟩)
      | (go_at_call 54; (with_reducible refine (C2.out _ (Below.refl _ _).drew).mono ?_); rintro e w2 ⟨rfl, hb2⟩; have HB2 : Hid (Below w0.heap.size w0 w2) := (Below.refl _ _).drew.trans hb2; clear hb2)
      | (go_at_call 52; (with_reducible refine (orInt _ [q1, q2] _ (sl_lit (v := #[.int .i64 q1, .int .i64 q2]) rfl (of_decide_eq_true rfl))).mono ?_); rintro e w' ⟨rfl, rfl⟩)
      | fail)
  go_wp2_with fail
  go_ret
  have hB := HB.out.trans (HB2.out.mono HB.out.size)
  exact ⟨by rw [HR.out]; rfl, hB.alloc hB.size _⟩

set_option maxHeartbeats 1000000 in
set_option maxRecDepth 100000 in
theorem hasE (g : Gram) (a : Option Addr) (n c : Nat) (s : Sym) (w : World) :
    Calls Tryd.prog 44 #[.agg #[.int .i64 g.terms, .int .i64 g.nons, .int .i64 g.start, .slice a n c], .agg #[.bool s.term, .int .i64 s.n]] w fun e w' => e = .returned (.bool (hasS g s)) ∧ Below w.heap.size w w' := by
  obtain ⟨gt, HGT⟩ := nameIt g.terms
  obtain ⟨gn, HGN⟩ := nameIt g.nons
  obtain ⟨gs, HGS⟩ := nameIt g.start
  obtain ⟨st, HST⟩ := nameIt s.term
  obtain ⟨sn, HSN⟩ := nameIt s.n
  obtain ⟨B, HBn⟩ := nameIt (hasS g s)
  have HV : Hid ((decide (0 ≤ sn) && (st && decide (sn < gt) || !st && decide (sn < gn))) = B) := by show _ = _; rw [← HBn.out]; unfold hasS; rw [HGT.out, HGN.out, HST.out, HSN.out]
  rw [HGT.out, HGN.out, HGS.out, HST.out, HSN.out, HBn.out]
  by_cases h0 : 0 ≤ sn
  · have b0 : decide (0 ≤ sn) = true := by simpa using h0
    cases st with
    | true =>
      by_cases h1 : sn < gt
      · have b1 : decide (sn < gt) = true := by simpa using h1
        obtain rfl : B = true := by rw [← HV.out]; simp [h0, h1]
        clear h0 h1
        go_enter Tryd.func44, Tryd.ntmps44
        go_wp2_with fail
        go_ret
        exact ⟨rfl, ((Below.refl _ _).alloc (Nat.le_refl _) _).alloc (by simp) _⟩
      · have b1 : decide (sn < gt) = false := by simpa using h1
        obtain rfl : B = false := by rw [← HV.out]; simp [h0, h1]
        clear h0 h1
        go_enter Tryd.func44, Tryd.ntmps44
        go_wp2_with fail
        go_ret
        exact ⟨rfl, ((Below.refl _ _).alloc (Nat.le_refl _) _).alloc (by simp) _⟩
    | false =>
      by_cases h1 : sn < gn
      · have b1 : decide (sn < gn) = true := by simpa using h1
        obtain rfl : B = true := by rw [← HV.out]; simp [h0, h1]
        clear h0 h1
        go_enter Tryd.func44, Tryd.ntmps44
        go_wp2_with fail
        go_ret
        exact ⟨rfl, ((Below.refl _ _).alloc (Nat.le_refl _) _).alloc (by simp) _⟩
      · have b1 : decide (sn < gn) = false := by simpa using h1
        obtain rfl : B = false := by rw [← HV.out]; simp [h0, h1]
        clear h0 h1
        go_enter Tryd.func44, Tryd.ntmps44
        go_wp2_with fail
        go_ret
        exact ⟨rfl, ((Below.refl _ _).alloc (Nat.le_refl _) _).alloc (by simp) _⟩
  · have b0 : decide (0 ≤ sn) = false := by simpa using h0
    obtain rfl : B = false := by rw [← HV.out]; simp [h0]
    clear h0
    go_enter Tryd.func44, Tryd.ntmps44
    go_wp2_with fail
    go_ret
    exact ⟨rfl, ((Below.refl _ _).alloc (Nat.le_refl _) _).alloc (by simp) _⟩

set_option maxHeartbeats 1000000 in
theorem hasF (g : Gram) (b : Nat) (a : Option Addr) (n c : Nat) (l : List Sym) (w : World) (hx : w.heap[b]? = some (.cells #[.int .i64 g.terms, .int .i64 g.nons, .int .i64 g.start, .slice a n c] 25 (0, 0))) :
    PredSym 43 #[.pointer (some ⟨b, 0, none⟩)] l (fun s => !hasS g s) w := by
  intro W s _ hb
  have hc := hasE g a n c s
  have hx' := bx_keep hx hb
  obtain ⟨gt, HGT⟩ := nameIt g.terms
  obtain ⟨gn, HGN⟩ := nameIt g.nons
  obtain ⟨gs, HGS⟩ := nameIt g.start
  obtain ⟨st, HST⟩ := nameIt s.term
  obtain ⟨sn, HSN⟩ := nameIt s.n
  obtain ⟨B, HBn⟩ := nameIt (hasS g s)
  rw [HGT.out, HGN.out, HGS.out] at hx'
  rw [HGT.out, HGN.out, HGS.out, HST.out, HSN.out, HBn.out] at hc
  dsimp only
  rw [HST.out, HSN.out, HBn.out]
  obtain ⟨x0, x1, x2, x3⟩ := bx_cells4 hx'
  have hlt := (Array.getElem?_eq_some_iff.1 hx').1
  have HC := Lib.hid hc
  clear hc hx hb hx'
  show Calls _ _ #[_, _] _ _
  go_enter Tryd.func43, Tryd.ntmps43
  go_wp2_with fail
  refine (HC.out _).mono ?_
  rintro e w1 ⟨rfl, hb1⟩
  have hB := (Below.refl W.heap.size W).alloc (Nat.le_refl _) (.cells #[.bool st, .int .i64 sn] 44)
  have HB1 := Lib.hid (hB.trans (hb1.mono hB.size))
  clear hb1 hB x0 x1 x2 x3
  cases B
  all_goals
    go_wp2_with fail
    go_ret
    exact ⟨rfl, HB1.out⟩

set_option maxHeartbeats 1000000 in
theorem sameRF (r : Rule) (b : Nat) (ar : Option Addr) (cr : Nat) (l : List Rule) (w : World) (hx : w.heap[b]? = some (.cells #[.int .i64 r.left, .slice ar r.right.length cr] 32 (0, 0))) (hr : Rd AnyB w (.sl (r.right.map Sym.d)) [.slice ar r.right.length cr]) :
    PredRule 46 #[.pointer (some ⟨b, 0, none⟩)] l (fun x => cmpR x r == 0) w := by
  intro W x v _ hb hv
  obtain ⟨av, cv, rfl, -, -⟩ := hv.form
  rw [List.length_map] at hv ⊢
  have hx' := bx_keep hx hb
  have hc := fun W' (h : Below W.heap.size W W') => compareR x r av ar cv cr W' (hv.below h) ((hr.below hb).below h)
  obtain ⟨lx, HLX⟩ := nameIt x.left
  obtain ⟨nx, HNX⟩ := nameIt x.right.length
  obtain ⟨lr, HLR⟩ := nameIt r.left
  obtain ⟨nr, HNR⟩ := nameIt r.right.length
  obtain ⟨q, HQ⟩ := nameIt (cmpR x r)
  rw [HLX.out, HNX.out, HLR.out, HNR.out, HQ.out] at hc
  rw [HLR.out, HNR.out] at hx'
  dsimp only
  rw [HLX.out, HNX.out, HQ.out]
  obtain ⟨x0, x1⟩ := bx_cells2 hx'
  have hlt := (Array.getElem?_eq_some_iff.1 hx').1
  have HC := Lib.hid hc
  clear hc hx hb hx' hv hr
  show Calls _ _ #[_, _] _ _
  go_enter Tryd.func46, Tryd.ntmps46
  go_wp2_with fail
  refine (HC.out _ ((Below.refl _ _).alloc (Nat.le_refl _) _)).mono ?_
  rintro e w1 ⟨rfl, hb1⟩
  have hB := (Below.refl W.heap.size W).alloc (Nat.le_refl _) (.cells #[.int .i64 lx, .slice av nx cv] 32)
  have HB1 := Lib.hid (hB.trans (hb1.mono hB.size))
  clear hb1 hB x0 x1
  go_wp2_with fail
  go_ret
  exact ⟨rfl, HB1.out⟩

/-- the first elements of a slice -/
theorem Rd.start {S : Nat → Prop} {w : World} {ds : List D} {a : Option Addr} {n cap i : Nat} (h : Rd S w (.sl ds) [.slice a n cap]) (hi : i ≤ ds.length) : Rd S w (.sl (ds.take i)) [.slice a i cap] := by
  obtain ⟨a', cap', L, e, h1, h2, h3, h4, h5⟩ := h
  simp at e
  obtain ⟨rfl, rfl, rfl⟩ := e
  rw [← List.take_append_drop i ds] at h5
  obtain ⟨c1, c2, rfl, h6, h7⟩ := h5.split
  refine ⟨a, cap, c1, by simp; omega, by simp; omega, h2, h3, fun j hj => ?_, h6⟩
  have := h4 j (by simp; omega)
  rwa [List.getElem_append_left hj] at this

theorem badHead_cases {g : Gram} (h : badHead g = true) : (decide (g.terms < 1) = true) ∨ (decide (g.terms < 1) = false ∧ decide (8 < g.terms) = true) ∨ (decide (g.terms < 1) = false ∧ decide (8 < g.terms) = false ∧ decide (g.nons < 1) = true) ∨ (decide (g.terms < 1) = false ∧ decide (8 < g.terms) = false ∧ decide (g.nons < 1) = false ∧ decide (10 < g.nons) = true) ∨
    (decide (g.terms < 1) = false ∧ decide (8 < g.terms) = false ∧ decide (g.nons < 1) = false ∧ decide (10 < g.nons) = false ∧ decide (g.start < 0) = true) ∨ (decide (g.terms < 1) = false ∧ decide (8 < g.terms) = false ∧ decide (g.nons < 1) = false ∧ decide (10 < g.nons) = false ∧ decide (g.start < 0) = false ∧ decide (g.nons ≤ g.start) = true) := by
  simp [badHead] at h ⊢
  omega
theorem goodHead {g : Gram} (h : ¬ badHead g = true) : decide (g.terms < 1) = false ∧ decide (8 < g.terms) = false ∧ decide (g.nons < 1) = false ∧ decide (10 < g.nons) = false ∧ decide (g.start < 0) = false ∧ decide (g.nons ≤ g.start) = false := by
  simp [badHead] at h ⊢
  omega

set_option maxHeartbeats 4000000 in
set_option maxRecDepth 100000 in
theorem checkE (g : Gram) (ar : Option Addr) (cr : Nat) (w : World) (hr : Rd AnyB w (.sl (g.rules.map Rule.d)) [.slice ar g.rules.length cr]) :
    Calls Tryd.prog 39 #[.agg #[.int .i64 g.terms, .int .i64 g.nons, .int .i64 g.start, .slice ar g.rules.length cr]] w fun e w' => e = .returned (.int .i64 (checkG g)) ∧ Below w.heap.size w w' := by
  have hbs := hr.bounds.2
  unfold maxLen at hbs
  obtain ⟨hc1, hc2⟩ := hbs
  obtain ⟨gt, HGT⟩ := nameIt g.terms
  obtain ⟨gn, HGN⟩ := nameIt g.nons
  obtain ⟨gs, HGS⟩ := nameIt g.start
  obtain ⟨K, HK⟩ := nameIt g.rules
  have HBC := Lib.hid (@badHead_cases g)
  have HGH := Lib.hid (@goodHead g)
  rw [HGT.out, HGN.out, HGS.out] at HBC HGH
  obtain ⟨w0, HW0⟩ := nameIt (w.alloc (.cells #[.int .i64 gt, .int .i64 gn, .int .i64 gs, .slice ar K.length cr] 25))
  have HB0 : Hid (Below w.heap.size w w0) := by rw [← HW0.out]; exact (Below.refl _ _).alloc (Nat.le_refl _) _
  have X1 : Hid (w0.heap[w.heap.size]? = some (.cells #[.int .i64 gt, .int .i64 gn, .int .i64 gs, .slice ar K.length cr] 25 (0, 0))) := by rw [← HW0.out]; exact bx_new _ _ _ rfl
  have HR := Lib.hid (hr.below HB0.out)
  rw [HK.out] at HR hc1
  rw [HGT.out, HGN.out, HGS.out, HK.out]
  obtain ⟨x0, x1, x2, x3⟩ := bx_cells4 X1.out
  clear hr
  by_cases hbad : badHead g = true
  · have HE : Hid (checkG g = 1) := by show _ = _; simp [checkG, hbad]
    rcases HBC.out hbad with h1 | ⟨h1, h2⟩ | ⟨h1, h2, h3⟩ | ⟨h1, h2, h3, h4⟩ | ⟨h1, h2, h3, h4, h5⟩ | ⟨h1, h2, h3, h4, h5, h6⟩
    all_goals
      clear hbad
      go_enter Tryd.func39, Tryd.ntmps39
      go_upto_region 1 with fail
      rw [HW0.out]
      go_wp2_with fail
      go_ret
      exact ⟨by rw [HE.out]; rfl, HB0.out⟩
  · obtain ⟨h1, h2, h3, h4, h5, h6⟩ := HGH.out hbad
    have HBD := Lib.hid hbad
    clear hbad
    by_cases hlen : 32 < K.length
    · have HE : Hid (checkG g = 2) := by show _ = _; rw [checkG, if_neg HBD.out, HK.out, if_pos hlen]
      have hlen' : (32 : Int) < (K.length : Int) := by omega
      go_enter Tryd.func39, Tryd.ntmps39
      go_upto_region 1 with fail
      rw [HW0.out]
      go_wp2_with fail
      go_ret
      exact ⟨by rw [HE.out]; rfl, HB0.out⟩
    · have HE : Hid (checkG g = faultsFrom g 0 K) := by show _ = _; rw [checkG, if_neg HBD.out, HK.out, if_neg hlen]
      have hlen' : ¬ (32 : Int) < (K.length : Int) := by omega
      go_enter Tryd.func39, Tryd.ntmps39
      go_upto_region 1 with fail
      rw [HW0.out]
      go_wp2_with fail
      clear h1 h2 h3 h4 h5 h6 x0 x1 x2 x3
      go_loopg [42] K.length (fun gg v42 wr => ∃ i : Nat, i ≤ K.length ∧ K.length - i ≤ gg ∧ v42 = .int .i64 i ∧ Hid (Below w0.heap.size w0 wr) ∧ Hid (faultsFrom g i (K.drop i) = faultsFrom g 0 K))
      case atStart => exact ⟨0, by omega, by omega, rfl, Below.refl _ _, rfl⟩
      case round =>
        obtain ⟨i, hi, hg, rfl, HB, HF⟩ := hrel
        by_cases hlt : i < K.length
        · have hlt' : (i : Int) < (K.length : Int) := by omega
          have hiK : (i : Int) ≤ (cr : Int) := by omega
          obtain ⟨b, off, vr, hae, -, hbl, c0, c1, hkr⟩ := (HR.out.below HB.out).rule_at hlt
          obtain ⟨av, cv, rfl, -, hcv⟩ := hkr.form
          rw [List.length_map] at c1 hkr
          have h1 := HF.out
          have hrl : i < g.rules.length := by rw [HK.out]; exact hlt
          rw [← HK.out, faultsFrom_at hrl] at h1
          simp only [HK.out] at h1
          obtain ⟨r, HRn⟩ := nameIt (K[i]'hlt)
          rw [HRn.out] at c0 c1 hkr h1
          have hbl2 : b < wr.heap.size := hbl
          obtain ⟨w4, HW4⟩ := nameIt (wr.alloc (.cells #[.int .i64 r.left, .slice av r.right.length cv] 32))
          have hb4 : Below wr.heap.size wr w4 := by rw [← HW4.out]; exact (Below.refl _ _).alloc (Nat.le_refl _) _
          have X4 : Hid (w4.heap[wr.heap.size]? = some (.cells #[.int .i64 r.left, .slice av r.right.length cv] 32 (0, 0))) := by rw [← HW4.out]; exact bx_new _ _ _ rfl
          have HB4 := Lib.hid (HB.out.trans (hb4.mono HB.out.size))
          have HKR := Lib.hid (hkr.below hb4)
          have X1' := Lib.hid (bx_keep X1.out HB4.out)
          have HX1 := X1'
          rw [← HGT.out, ← HGN.out, ← HGS.out] at HX1
          have PS := Lib.hid (hasF g w.heap.size ar K.length cr r.right w4 HX1.out)
          have CS := Lib.hid (containsFuncSym 43 #[.pointer (some ⟨w.heap.size, 0, none⟩)] (fun s => !hasS g s) av cv r.right w4 (fun _ _ => by kernel_rfl) PS.out HKR.out)
          have htl : (K.take i).length = i := by simp; omega
          have hst : ∀ W, Below w4.heap.size w4 W → Rd AnyB W (.sl ((K.take i).map Rule.d)) [.slice ar (K.take i).length cr] := by
            intro W hb
            have h2 := (((HR.out.below HB4.out).below hb).start (i := i) (by simp; omega))
            rw [← List.map_take] at h2
            rw [htl]; exact h2
          have CRR := Lib.hid (fun W (hb : Below w4.heap.size w4 W) => containsFuncRule 46 #[.pointer (some ⟨wr.heap.size, 0, none⟩)] (fun x => cmpR x r == 0) ar cr (K.take i) W (fun _ _ => by kernel_rfl) (sameRF r wr.heap.size av cv (K.take i) W (bx_keep X4.out hb) (HKR.out.below hb)) (hst W hb))
          rw [htl] at CRR
          obtain ⟨lf, HLF⟩ := nameIt r.left
          obtain ⟨rn, HRNn⟩ := nameIt r.right.length
          obtain ⟨A1, HA1⟩ := nameIt (r.right.any fun s => !hasS g s)
          obtain ⟨A2, HA2⟩ := nameIt ((K.take i).any fun x => cmpR x r == 0)
          have hfr : faultR g i r = if lf < 0 ∨ gn ≤ lf then 3 else if 4 < rn then 2 else if A1 then 3 else if A2 then 6 else 0 := by
            unfold faultR; rw [HLF.out, HGN.out, HRNn.out, HA1.out, HK.out, HA2.out]
          rw [HLF.out] at c0 HW4
          rw [HRNn.out] at c1 HW4 CS
          rw [HA1.out] at CS
          simp only [HA2.out] at CRR
          have X4' := X4
          rw [HLF.out, HRNn.out] at X4'
          obtain ⟨y0, y1⟩ := bx_cells2 X4'.out
          obtain ⟨x0, x1, x2, x3⟩ := bx_cells4 X1'.out
          have hl4 : wr.heap.size < w4.heap.size := (Array.getElem?_eq_some_iff.1 X4'.out).1
          have hl1 : w.heap.size < w4.heap.size := (Array.getElem?_eq_some_iff.1 X1'.out).1
          have HFR := Lib.hid hfr
          have H1 := Lib.hid h1
          have hrn : (rn : Int) ≤ 9223372036854775807 := by have := HKR.out.bounds.2; rw [HRNn.out] at this; unfold maxLen at this hcv; omega
          subst hae
          clear hkr hb4 h1 hfr htl hst
          by_cases ha : lf < 0 ∨ gn ≤ lf
          · have hf : faultR g i r = 3 := by rw [HFR.out, if_pos ha]
            have HE2 : Hid (faultsFrom g 0 K = 3) := by show _ = _; rw [← H1.out, hf, if_neg (by decide)]
            have ha' : (decide (lf < 0) = true) ∨ (decide (lf < 0) = false ∧ decide (gn ≤ lf) = true) := by simp; omega
            clear hf ha
            rcases ha' with k1 | ⟨k1, k2⟩
            all_goals
              go_upto_region 8 with fail
              rw [HW4.out]
              go_wp2_with fail
              go_ret
              exact ⟨by rw [HE.out, HE2.out]; rfl, HB0.out.trans (HB4.out.mono HB0.out.size)⟩
          · have k1 : decide (lf < 0) = false := by simp; omega
            have k2 : decide (gn ≤ lf) = false := by simp; omega
            have HFa : Hid (faultR g i r = if 4 < rn then 2 else if A1 then 3 else if A2 then 6 else 0) := by show _ = _; rw [HFR.out, if_neg ha]
            clear ha HFR
            by_cases hb : 4 < rn
            · have k3 : (4 : Int) < (rn : Int) := by omega
              have hf : faultR g i r = 2 := by rw [HFa.out, if_pos hb]
              have HE2 : Hid (faultsFrom g 0 K = 2) := by show _ = _; rw [← H1.out, hf, if_neg (by decide)]
              clear hf
              go_upto_region 8 with fail
              rw [HW4.out]
              go_wp2_with fail
              go_ret
              exact ⟨by rw [HE.out, HE2.out]; rfl, HB0.out.trans (HB4.out.mono HB0.out.size)⟩
            · have k3 : ¬ (4 : Int) < (rn : Int) := by omega
              have HFb : Hid (faultR g i r = if A1 then 3 else if A2 then 6 else 0) := by show _ = _; rw [HFa.out, if_neg hb]
              clear HFa
              go_upto_region 8 with fail
              rw [HW4.out]
              go_wp2_with fail
              refine CS.out.mono ?_
              rintro e w5 ⟨rfl, hb5⟩
              have HB45 := Lib.hid hb5
              have HB5 := Lib.hid (HB4.out.trans (hb5.mono HB4.out.size))
              obtain ⟨x0, x1, x2, x3⟩ := bx_cells4 (bx_keep X1'.out hb5)
              have hl15 : w.heap.size < w5.heap.size := (Array.getElem?_eq_some_iff.1 (bx_keep X1'.out hb5)).1
              clear hb5 y0 y1
              cases A1 with
              | true =>
                have hf : faultR g i r = 3 := by rw [HFb.out, if_pos rfl]
                have HE2 : Hid (faultsFrom g 0 K = 3) := by show _ = _; rw [← H1.out, hf, if_neg (by decide)]
                clear hf
                go_wp2_with fail
                go_ret
                exact ⟨by rw [HE.out, HE2.out]; rfl, HB0.out.trans (HB5.out.mono HB0.out.size)⟩
              | false =>
                go_wp2_with fail
                refine (CRR.out _ HB45.out).mono ?_
                rintro e w6 ⟨rfl, hb6⟩
                have HB6 := Lib.hid (HB5.out.trans (hb6.mono HB5.out.size))
                clear hb6 x0 x1 x2 x3
                cases A2 with
                | true =>
                  have hf : faultR g i r = 6 := by rw [HFb.out]; rfl
                  have HE2 : Hid (faultsFrom g 0 K = 6) := by show _ = _; rw [← H1.out, hf, if_neg (by decide)]
                  clear hf
                  go_wp2_with fail
                  go_ret
                  exact ⟨by rw [HE.out, HE2.out]; rfl, HB0.out.trans (HB6.out.mono HB0.out.size)⟩
                | false =>
                  have hf : faultR g i r = 0 := by rw [HFb.out]; rfl
                  have HE2 : Hid (faultsFrom g (i + 1) (K.drop (i + 1)) = faultsFrom g 0 K) := by show _ = _; rw [← H1.out, hf, if_pos rfl]
                  clear hf
                  go_wp2_with fail
                  go_roundg (K.length - (i + 1))
                  case measure => omega
                  case rel => exact ⟨i + 1, by omega, by omega, by go_num, HB6, HE2⟩
        · have hlt' : ¬ (i : Int) < (K.length : Int) := by omega
          have HE2 : Hid (faultsFrom g 0 K = 0) := by show _ = _; rw [← HF.out, List.drop_of_length_le (by omega)]; rfl
          go_wp2_with fail
          go_ret
          exact ⟨by rw [HE.out, HE2.out]; rfl, HB0.out.trans (HB.out.mono HB0.out.size)⟩
end Go.Proofs.YthnkgmlhpefldaaDoor
namespace Go.Proofs.YthnkgmlhpefldaaDoor
open Go.RowKit
namespace Lg

theorem inv_setc {md : Region.Mode} {ops : Array Oper} {n i : Nat} {listed : Array Bool} (inv : HeadInv md ops n listed) (hr : (Region.ready md ops listed).contains i = true) (hin : i < n) : HeadInv md ops n (listed.setIfInBounds i true) := inv.set (by simpa using hr) hin
theorem inWord (t gt : Int) (h0 : 0 ≤ t) (h1 : t < gt) (gb : Nat) (W : World) (x0 : W.cell? ⟨gb, 0, none⟩ = some (.int .i64 gt)) :
    Calls Tryd.prog 48 #[.int .i64 t, .pointer (some ⟨gb, 0, none⟩)] W fun e w' => e = .returned (.bool false) ∧ Below W.heap.size W w' := by
  have hd : decide (t < 0) = false := by simp; omega
  have hd2 : decide (gt ≤ t) = false := by simp; omega
  clear h0 h1
  go_enter Tryd.func48, Tryd.ntmps48
  go_wp2_with fail
  go_ret
  exact ⟨rfl, by first | exact Below.refl _ _ | exact (Below.refl _ _).drew | exact below_drewN _ _⟩
set_option maxHeartbeats 1000000 in
theorem wordOkE (g : Gram) (vr : Value) (wd : List Int) (n most : Nat) (hn : wd.length = n) (hm : n ≤ most) (hmm : most ≤ 1000000) (ht : ∀ t ∈ wd, 0 ≤ t ∧ t < g.terms) (wa : Option Addr) (wc : Nat) (w : World) (hw : Sl w (.slice wa n wc) (ints wd)) :
    Calls Tryd.prog 40 #[.agg #[.int .i64 g.terms, .int .i64 g.nons, .int .i64 g.start, vr], .slice wa n wc, .int .i64 (most : Int)] w fun e w' => e = .returned (.int .i64 0) ∧ Below w.heap.size w w' := by
  obtain ⟨w0, HW0⟩ := nameIt (w.alloc (.cells #[.int .i64 g.terms, .int .i64 g.nons, .int .i64 g.start, vr] 25))
  have hb0 : Below w.heap.size w w0 := by rw [← HW0.out]; exact (Below.refl _ _).alloc (Nat.le_refl _) _
  have X0 : Hid (w0.heap[w.heap.size]? = some (.cells #[.int .i64 g.terms, .int .i64 g.nons, .int .i64 g.start, vr] 25 (0, 0))) := by rw [← HW0.out]; exact bx_new _ _ _ rfl
  have HB0 := Lib.hid hb0
  have HCF : Hid (∀ W, Below w0.heap.size w0 W → Calls Tryd.prog 28 #[.slice wa n wc, .func (.func 48) #[] #[.pointer (some ⟨w.heap.size, 0, none⟩)]] W fun e w' => e = .returned (.bool false) ∧ Below W.heap.size W w') := fun W hb => by
    have h := containsFunc 48 #[.pointer (some ⟨w.heap.size, 0, none⟩)] (fun _ => false) wa wc wd W (fun _ _ => rfl) (fun W' c hc hb' => by
      obtain ⟨x0, _, _, _⟩ := bx_cells4 (bx_keep X0.out (hb.trans (hb'.mono hb.size)))
      exact inWord c g.terms (ht c hc).1 (ht c hc).2 w.heap.size W' x0) (by rw [hn]; exact (hw.keep hb0).keep hb)
    rw [hn] at h
    have e : wd.any (fun _ => false) = false := by simp
    rw [e] at h
    exact h
  have hwb := hw.len.2
  unfold maxLen at hwb
  obtain ⟨hwc1, hwc2⟩ := hwb
  obtain ⟨gt, HGT⟩ := nameIt g.terms
  obtain ⟨gn, HGN⟩ := nameIt g.nons
  obtain ⟨gs, HGS⟩ := nameIt g.start
  rw [HGT.out, HGN.out, HGS.out] at HW0
  rw [HGT.out, HGN.out, HGS.out]
  have hml : ¬ ((most : Int) < (n : Int)) := by omega
  clear hb0 X0 hn ht hw
  go_enter Tryd.func40, Tryd.ntmps40
  go_upto_region 1 with fail
  rw [HW0.out]
  go_wp2_with fail
  with_reducible refine (HCF.out w0 (Below.refl _ _)).mono ?_
  rintro e w1 ⟨rfl, hb1⟩
  have HB1 := Lib.hid (HB0.out.trans (hb1.mono HB0.out.size))
  clear hb1
  go_wp2_with fail
  go_ret
  exact ⟨rfl, HB1.out⟩
set_option maxHeartbeats 1000000 in
theorem meanCheckE (g : Gram) (hck : checkG g = 0) (ra : Option Addr) (rcap : Nat) (wd : List Int) (n : Nat) (hn : wd.length = n) (hm : n ≤ 12) (ht : ∀ t ∈ wd, 0 ≤ t ∧ t < g.terms) (wa : Option Addr) (wc : Nat) (w : World) (hr : Rd AnyB w (.sl (g.rules.map Rule.d)) [.slice ra g.rules.length rcap]) (hw : Sl w (.slice wa n wc) (ints wd)) :
    Calls Tryd.prog 37 #[.agg #[.int .i64 g.terms, .int .i64 g.nons, .int .i64 g.start, .slice ra g.rules.length rcap], .slice wa n wc] w fun e w' => e = .returned (.int .i64 0) ∧ Below w.heap.size w w' := by
  obtain ⟨w0, HW0⟩ := nameIt (w.alloc (.cells #[.int .i64 g.terms, .int .i64 g.nons, .int .i64 g.start, .slice ra g.rules.length rcap] 25))
  have hb0 : Below w.heap.size w w0 := by rw [← HW0.out]; exact (Below.refl _ _).alloc (Nat.le_refl _) _
  have X0 : Hid (w0.heap[w.heap.size]? = some (.cells #[.int .i64 g.terms, .int .i64 g.nons, .int .i64 g.start, .slice ra g.rules.length rcap] 25 (0, 0))) := by rw [← HW0.out]; exact bx_new _ _ _ rfl
  have HB0 := Lib.hid hb0
  have HCK := Lib.hid (checkE g ra rcap w0 (hr.below hb0))
  rw [hck] at HCK
  have HWO : Hid (∀ W, Below w0.heap.size w0 W → Calls Tryd.prog 40 #[.agg #[.int .i64 g.terms, .int .i64 g.nons, .int .i64 g.start, .slice ra g.rules.length rcap], .slice wa n wc, .int .i64 12] W fun e w' => e = .returned (.int .i64 0) ∧ Below W.heap.size W w') := fun W hb => wordOkE g _ wd n 12 hn hm (by omega) ht wa wc W ((hw.keep hb0).keep hb)
  obtain ⟨gt, HGT⟩ := nameIt g.terms
  obtain ⟨gn, HGN⟩ := nameIt g.nons
  obtain ⟨gs, HGS⟩ := nameIt g.start
  obtain ⟨rl, HRL⟩ := nameIt g.rules.length
  rw [HGT.out, HGN.out, HGS.out, HRL.out] at HW0 X0 HCK
  simp only [HGT.out, HGN.out, HGS.out, HRL.out] at HWO
  rw [HGT.out, HGN.out, HGS.out, HRL.out]
  obtain ⟨gb, HGB⟩ := nameIt w.heap.size
  rw [HGB.out] at X0
  obtain ⟨x0, x1, x2, x3⟩ := bx_cells4 X0.out
  clear hb0 hn ht hw hr hck
  go_enter Tryd.func37, Tryd.ntmps37
  go_upto_region 1 with fail
  rw [HW0.out, HGB.out]
  go_wp2_with fail
  with_reducible refine HCK.out.mono ?_
  rintro e w1 ⟨rfl, hb1⟩
  have HB1 := Lib.hid hb1
  obtain ⟨y0, y1, y2, y3⟩ := bx_cells4 (bx_keep X0.out hb1)
  clear hb1 x0 x1 x2 x3
  go_wp2_with fail
  with_reducible refine (HWO.out w1 HB1.out).mono ?_
  rintro e w2 ⟨rfl, hb2⟩
  have HB2 := Lib.hid (HB0.out.trans ((HB1.out.trans (hb2.mono HB1.out.size)).mono HB0.out.size))
  clear hb2 y0 y1 y2 y3
  go_wp2_with fail
  go_ret
  exact ⟨rfl, HB2.out⟩
/-- is a word of the start symbol -/
noncomputable def langB (g : Gram) (wd : List Int) : Bool := @decide (Lang g.rules g.start.toNat wd) (Classical.propDecidable _)
theorem langB_iff {g : Gram} {wd : List Int} : langB g wd = true ↔ Lang g.rules g.start.toNat wd := by unfold langB; exact @decide_eq_true_iff _ (Classical.propDecidable _)
set_option maxHeartbeats 2000000 in
set_option maxRecDepth 100000 in
theorem acceptsE (g : Gram) (hck : checkG g = 0) (ra : Option Addr) (rcap : Nat) (wd : List Int) (n : Nat) (hn : wd.length = n) (hm : n ≤ 12) (ht : ∀ t ∈ wd, 0 ≤ t ∧ t < g.terms) (wa : Option Addr) (wc : Nat) (w : World) (hr : Rd AnyB w (.sl (g.rules.map Rule.d)) [.slice ra g.rules.length rcap]) (hw : Sl w (.slice wa n wc) (ints wd)) (hT : TabG w) :
    Calls Tryd.prog 32 #[.agg #[.int .i64 g.terms, .int .i64 g.nons, .int .i64 g.start, .slice ra g.rules.length rcap], .slice wa n wc] w fun e w' => e = .returned (.tuple #[.bool (langB g wd), .int .i64 0]) ∧ Below w.heap.size w w' := by
  obtain ⟨w0, HW0⟩ := nameIt (w.alloc (.cells #[.int .i64 g.terms, .int .i64 g.nons, .int .i64 g.start, .slice ra g.rules.length rcap] 25))
  have hb0 : Below w.heap.size w w0 := by rw [← HW0.out]; exact (Below.refl _ _).alloc (Nat.le_refl _) _
  have X0 : Hid (w0.heap[w.heap.size]? = some (.cells #[.int .i64 g.terms, .int .i64 g.nons, .int .i64 g.start, .slice ra g.rules.length rcap] 25 (0, 0))) := by rw [← HW0.out]; exact bx_new _ _ _ rfl
  have HB0 := Lib.hid hb0
  obtain ⟨N, hgn, hN1, hN10, hok⟩ := okRu_of hck
  obtain ⟨⟨_, _, _, _, hg5, hg6⟩, _, _⟩ := checkG_zero hck
  obtain ⟨s, hs⟩ : ∃ s : Nat, g.start = (s : Int) := ⟨g.start.toNat, by omega⟩
  have hsN : s < N := by omega
  have hs0 : (0 : Int) ≤ (s : Int) := by omega
  have hs1 : (s : Int) < (N : Int) := by omega
  have HLL : Hid (∀ r ∈ g.rules, 0 ≤ r.left) := fun r hr => (hok r hr).1
  have HCK := Lib.hid (meanCheckE g hck ra rcap wd n hn hm ht wa wc w0 (hr.below hb0) (hw.keep hb0))
  have HEN : Hid (∀ W, Below w0.heap.size w0 W → Calls Tryd.prog 38 #[.agg #[.int .i64 g.terms, .int .i64 g.nons, .int .i64 g.start, .slice ra g.rules.length rcap], .slice wa n wc] W (EndsPost g.rules wd N W)) := fun W hb => endsE g N hgn hN1 hN10 hok ra rcap wd n hn hm wa wc W ((hr.below hb0).below hb) ((hw.keep hb0).keep hb) ((hT.keep hb0).keep hb)
  have HVAL : Hid (∀ E, SoundE g.rules wd E → ClosedE g.rules wd E → ((bits BinOp.and IntKind.u32 ((E s 0 : Int) / 2 ^ n) 1 == 1) = langB g wd) ∧ (E s 0 : Int) < 4294967296) := by
    intro E hsn hcl
    have hlt := hsn.lt (by omega) s 0
    have h1 : ((E s 0 : Int) / 2 ^ n) = ((E s 0 / 2 ^ n : Nat) : Int) := by push_cast; rfl
    have h0 : bits BinOp.and IntKind.u32 ((E s 0 : Int) / 2 ^ n) 1 = ((E s 0 / 2 ^ n % 2 : Nat) : Int) := by
      rw [h1]
      have h2 := u32_and_nat (E s 0 / 2 ^ n) 1 (by have := Nat.div_le_self (E s 0) (2 ^ n); omega) (by omega)
      have h3 : E s 0 / 2 ^ n &&& 1 = E s 0 / 2 ^ n % 2 := Nat.and_one_is_mod _
      rw [h3] at h2
      exact h2
    refine ⟨?_, by omega⟩
    · rw [h0]
      have h4 := ends_lang HLL.out hsn hcl (A := s)
      rw [hn] at h4
      have h5 : (E s 0).testBit n = decide (E s 0 / 2 ^ n % 2 = 1) := Nat.testBit_eq_decide_div_mod_eq
      have h6 : (((E s 0 / 2 ^ n % 2 : Nat) : Int) == 1) = (E s 0).testBit n := by
        rw [h5]
        have := Nat.mod_lt (E s 0 / 2 ^ n) (show 0 < 2 by decide)
        rcases (show E s 0 / 2 ^ n % 2 = 0 ∨ E s 0 / 2 ^ n % 2 = 1 by omega) with h | h <;> rw [h] <;> rfl
      rw [h6]
      have h7 := langB_iff (g := g) (wd := wd)
      rw [hs, Int.toNat_natCast] at h7
      rw [Bool.eq_iff_iff, h4, h7]
  rw [hgn, hs] at HW0 X0 HCK HEN
  rw [hgn, hs]
  obtain ⟨LB, HLB⟩ := nameIt (langB g wd)
  rw [HLB.out] at HVAL
  rw [HLB.out]
  obtain ⟨gt, HGT⟩ := nameIt g.terms
  obtain ⟨rl, HRL⟩ := nameIt g.rules.length
  rw [HGT.out, HRL.out] at HW0 X0 HCK
  simp only [HGT.out, HRL.out] at HEN
  rw [HGT.out, HRL.out]
  obtain ⟨gb, HGBN⟩ := nameIt w.heap.size
  rw [HGBN.out] at X0
  have HGB : Hid (∀ W', Below w0.heap.size w0 W' → W'.cell? ⟨gb, 0, none⟩ = some (.int .i64 gt) ∧ W'.cell? ⟨gb, 0 + 1, none⟩ = some (.int .i64 (N : Int)) ∧ W'.cell? ⟨gb, 0 + 2, none⟩ = some (.int .i64 (s : Int)) ∧ W'.cell? ⟨gb, 0 + 3, none⟩ = some (.slice ra rl rcap)) := fun W' h => bx_cells4 (bx_keep X0.out h)
  obtain ⟨x0, x1, x2, x3⟩ := bx_cells4 X0.out
  have HBEL : Hid (∀ w', Below w0.heap.size w0 w' → Below w.heap.size w w') := fun w' h => HB0.out.trans (h.mono HB0.out.size)
  have hwb := hw.len.2
  unfold maxLen at hwb
  obtain ⟨hwc1, hwc2⟩ := hwb
  have hn12 : (n : Int) ≤ 12 := by omega
  clear hb0 hn ht hw hr hck hT hok hgn hs hg5 hg6
  go_enter Tryd.func32, Tryd.ntmps32
  go_upto_region 1 with fail
  rw [HW0.out, HGBN.out]
  go_wp2_with fail
  with_reducible refine HCK.out.mono ?_
  rintro e w1 ⟨rfl, hb1⟩
  have HB1 := Lib.hid hb1
  clear hb1 x0 x1 x2 x3
  go_wp2_with fail
  have HS : Hid (∀ W', Below w0.heap.size w0 W' → (fun w' => w'.cell? ⟨gb, 0, none⟩ = some (.int .i64 gt) ∧ w'.cell? ⟨gb, 0 + 1, none⟩ = some (.int .i64 (N : Int)) ∧ w'.cell? ⟨gb, 0 + 2, none⟩ = some (.int .i64 (s : Int)) ∧ w'.cell? ⟨gb, 0 + 3, none⟩ = some (.slice ra rl rcap)) W') := HGB
  have HBD := Lib.hid (HB1.out.trans ((Below.refl w1.heap.size w1).drew.mono HB1.out.size))
  have HLND := Lib.hid (HEN.out _ HBD.out)
  obtain ⟨wd1, HWD⟩ := nameIt w1.drew
  rw [HWD.out] at HBD HLND
  refine wp_region_U (S := (fun w' => w'.cell? ⟨gb, 0, none⟩ = some (.int .i64 gt) ∧ w'.cell? ⟨gb, 0 + 1, none⟩ = some (.int .i64 (N : Int)) ∧ w'.cell? ⟨gb, 0 + 2, none⟩ = some (.int .i64 (s : Int)) ∧ w'.cell? ⟨gb, 0 + 3, none⟩ = some (.slice ra rl rcap))) 11 (by kernel_rfl) (fun inv => ?_)
  rw [HWD.out]
  refine wpU_take (i := 0) (v := .agg #[.int .i64 gt, .int .i64 (N : Int), .int .i64 (s : Int), .slice ra rl rcap]) rfl inv (by kernel_rfl) (by kernel_rfl) (by decide) (by decide) (by kernel_rfl) (by kernel_rfl) (by kernel_rfl) (fun _ _ _ h => h) (Or.inl ⟨by rfl, fun w' hw' => ?_⟩) (HS.out _ HBD.out) (fun inv => ?_)
  · obtain ⟨h0, h1, h2, h3⟩ := hw'
    go_simp
  try simp only [Act.put, List.setIfInBounds_toArray, List.set_cons_zero, List.set_cons_succ]
  refine wpU_take (i := 1) (v := .slice wa n wc) rfl inv (by kernel_rfl) (by kernel_rfl) (by decide) (by decide) (by kernel_rfl) (by kernel_rfl) (by kernel_rfl) (fun _ _ _ h => h) (Or.inl ⟨by rfl, fun w' hw' => ?_⟩) (HS.out _ HBD.out) (fun inv => ?_)
  · obtain ⟨h0, h1, h2, h3⟩ := hw'
    go_simp
  try simp only [Act.put, List.setIfInBounds_toArray, List.set_cons_zero, List.set_cons_succ]
  refine wpU_take (i := 3) (v := .pointer (some ⟨gb, 0 + 2, none⟩)) rfl inv (by kernel_rfl) (by kernel_rfl) (by decide) (by decide) (by kernel_rfl) (by kernel_rfl) (by kernel_rfl) (fun _ _ _ h => h) (Or.inl ⟨by rfl, fun w' hw' => ?_⟩) (HS.out _ HBD.out) (fun inv => ?_)
  · obtain ⟨h0, h1, h2, h3⟩ := hw'
    go_simp
  try simp only [Act.put, List.setIfInBounds_toArray, List.set_cons_zero, List.set_cons_succ]
  refine wpU_take (i := 4) (v := .int .i64 (s : Int)) rfl inv (by kernel_rfl) (by kernel_rfl) (by decide) (by decide) (by kernel_rfl) (by kernel_rfl) (by kernel_rfl) (fun _ _ _ h => h) (Or.inl ⟨by rfl, fun w' hw' => ?_⟩) (HS.out _ HBD.out) (fun inv => ?_)
  · obtain ⟨h0, h1, h2, h3⟩ := hw'
    go_simp
  try simp only [Act.put, List.setIfInBounds_toArray, List.set_cons_zero, List.set_cons_succ]
  refine wpU_take (i := 9) (v := .slice wa n wc) rfl inv (by kernel_rfl) (by kernel_rfl) (by decide) (by decide) (by kernel_rfl) (by kernel_rfl) (by kernel_rfl) (fun _ _ _ h => h) (Or.inl ⟨by rfl, fun w' hw' => ?_⟩) (HS.out _ HBD.out) (fun inv => ?_)
  · obtain ⟨h0, h1, h2, h3⟩ := hw'
    go_simp
  try simp only [Act.put, List.setIfInBounds_toArray, List.set_cons_zero, List.set_cons_succ]
  refine wpU_take (i := 10) (v := .int .i64 (n : Int)) rfl inv (by kernel_rfl) (by kernel_rfl) (by decide) (by decide) (by kernel_rfl) (by kernel_rfl) (by kernel_rfl) (fun _ _ _ h => h) (Or.inl ⟨by rfl, fun w' hw' => ?_⟩) (HS.out _ HBD.out) (fun inv => ?_)
  · obtain ⟨h0, h1, h2, h3⟩ := hw'
    go_simp
  try simp only [Act.put, List.setIfInBounds_toArray, List.set_cons_zero, List.set_cons_succ]
  refine wpU_one (i := 2) (by kernel_rfl) rfl (fun K hK => ?_)
  replace inv := inv_setc (i := 2) inv (by kernel_rfl) (by decide)
  go_simp
  with_reducible refine HLND.out.mono ?_
  rintro e w2 ⟨bt, H, rb, E, rfl, htab, hH, hsn, hcl, hb2⟩
  have HB2 := Lib.hid (HBD.out.trans (hb2.mono HBD.out.size))
  have c0 := htab.head hsN
  have c1 := htab.cell hsN (show 0 < wd.length + 1 by omega)
  have HHD : Hid (∃ mm, w2.cell? ⟨bt, s, none⟩ = some (.slice (some ⟨rb s, 0, none⟩) mm mm) ∧ 0 < mm) := ⟨_, c0, by omega⟩
  obtain ⟨mm, c0', hmm⟩ := HHD.out
  have hmm' : (0 : Int) < (mm : Int) := by omega
  have HV := Lib.hid (HVAL.out E hsn hcl)
  obtain ⟨y, HY⟩ := nameIt (E s 0)
  rw [HY.out] at c1 HV
  obtain ⟨rs, HRS⟩ := nameIt (rb s)
  rw [HRS.out] at c0' c1
  clear htab hsn hcl hb2 c0 HHD hmm'
  refine hK.out _ _ (fun _ => HS.out _ HB2.out) ?_
  clear hK K
  try simp only [Act.put, List.setIfInBounds_toArray, List.set_cons_zero, List.set_cons_succ]
  refine wpU_one (i := 5) (by kernel_rfl) rfl (fun K hK => ?_)
  replace inv := inv_setc (i := 5) inv (by kernel_rfl) (by decide)
  go_simp
  refine hK.out _ _ (fun _ => HS.out _ HB2.out) ?_
  clear hK K
  try simp only [Act.put, List.setIfInBounds_toArray, List.set_cons_zero, List.set_cons_succ]
  refine wpU_one (i := 6) (by kernel_rfl) rfl (fun K hK => ?_)
  replace inv := inv_setc (i := 6) inv (by kernel_rfl) (by decide)
  go_simp
  refine hK.out _ _ (fun _ => HS.out _ HB2.out) ?_
  clear hK K
  try simp only [Act.put, List.setIfInBounds_toArray, List.set_cons_zero, List.set_cons_succ]
  refine wpU_one (i := 7) (by kernel_rfl) rfl (fun K hK => ?_)
  replace inv := inv_setc (i := 7) inv (by kernel_rfl) (by decide)
  go_simp
  refine hK.out _ _ (fun _ => HS.out _ HB2.out) ?_
  clear hK K
  try simp only [Act.put, List.setIfInBounds_toArray, List.set_cons_zero, List.set_cons_succ]
  refine wpU_one (i := 8) (by kernel_rfl) rfl (fun K hK => ?_)
  replace inv := inv_setc (i := 8) inv (by kernel_rfl) (by decide)
  go_simp
  refine hK.out _ _ (fun _ => HS.out _ HB2.out) ?_
  clear hK K
  try simp only [Act.put, List.setIfInBounds_toArray, List.set_cons_zero, List.set_cons_succ]
  obtain ⟨hy1, hy3⟩ := HV.out
  have HY1 := Lib.hid hy1
  clear hy1
  refine wpU_one (i := 11) (by kernel_rfl) rfl (fun K hK => ?_)
  go_simp
  refine hK.out _ _ (fun h => absurd (show true = false from h) (by decide)) ?_
  clear hK K
  try simp only [Act.put, List.setIfInBounds_toArray, List.set_cons_zero, List.set_cons_succ]
  refine wpU_one (i := 12) (by kernel_rfl) rfl (fun K hK => ?_)
  go_simp
  refine hK.out _ _ (fun h => absurd (show true = false from h) (by decide)) ?_
  clear hK K
  try simp only [Act.put, List.setIfInBounds_toArray, List.set_cons_zero, List.set_cons_succ]
  refine wpU_one (i := 13) (by kernel_rfl) rfl (fun K hK => ?_)
  go_simp
  refine hK.out _ _ (fun h => absurd (show true = false from h) (by decide)) ?_
  clear hK K
  try simp only [Act.put, List.setIfInBounds_toArray, List.set_cons_zero, List.set_cons_succ]
  refine wpU_one (i := 14) (by kernel_rfl) rfl (fun K hK => ?_)
  go_simp
  refine hK.out _ _ (fun h => absurd (show true = false from h) (by decide)) ?_
  clear hK K
  try simp only [Act.put, List.setIfInBounds_toArray, List.set_cons_zero, List.set_cons_succ]
  refine wpU_one (i := 15) (by kernel_rfl) rfl (fun K hK => ?_)
  go_simp
  refine hK.out _ _ (fun h => absurd (show true = false from h) (by decide)) ?_
  clear hK K
  try simp only [Act.put, List.setIfInBounds_toArray, List.set_cons_zero, List.set_cons_succ]
  refine wpU_done (by kernel_rfl) ?_ _
  go_wp2_with fail
  refine bodyPost_ret (results_tmp2 Tryd.results32 _ _ _) rfl ?_
  have h := HY1.out
  show Ending.returned (.tuple #[.bool (bits BinOp.and IntKind.u32 ((y : Int) / 2 ^ n) 1 == 1), .int .i64 0]) = _ ∧ _
  rw [h]
  exact ⟨rfl, HBEL.out _ HB2.out⟩
end Lg
end Go.Proofs.YthnkgmlhpefldaaDoor
namespace Go.Proofs.YthnkgmlhpefldaaDoor
open Go.RowKit
namespace Gs
open Lg

structure GRow (w : World) (gb : Nat) (gt gn gs : Int) (l : List Rule) (vr : Value) (wr : World) : Prop where
  out : wr.heap[gb]? = some (.cells #[.int .i64 gt, .int .i64 gn, .int .i64 gs, vr] 25 (0, 0))
  row : RowD (fun k => gb < k) (gb + 1) 32 2 (l.map Rule.d) vr wr
  bel : Below w.heap.size w wr
  le : w.heap.size ≤ gb
theorem below_box4 {B b : Nat} {w w' : World} (h : Below B w w') (hb : B ≤ b) (x y z u : Value) : Below B w ((((w'.setCell ⟨b, 0, none⟩ x).setCell ⟨b, 1, none⟩ y).setCell ⟨b, 2, none⟩ z).setCell ⟨b, 3, none⟩ u) :=
  (((h.setCell (p := ⟨b, 0, none⟩) hb x).setCell (p := ⟨b, 1, none⟩) hb y).setCell (p := ⟨b, 2, none⟩) hb z).setCell (p := ⟨b, 3, none⟩) hb u
theorem grown_box4 (b : Nat) (w : World) (x y z u : Value) : w.grownBy ((((w.setCell ⟨b, 0, none⟩ x).setCell ⟨b, 1, none⟩ y).setCell ⟨b, 2, none⟩ z).setCell ⟨b, 3, none⟩ u) (some b) := grown_trans (grown_trans (grown_trans (grown_cell _ _ _) (grown_cell _ _ _)) (grown_cell _ _ _)) (grown_cell _ _ _)
theorem Rd.box4 {S : Nat → Prop} {w : World} {d : D} {cs : List Value} (h : Rd S w d cs) {b : Nat} (hb : ¬ S b) (x y z u : Value) : Rd S ((((w.setCell ⟨b, 0, none⟩ x).setCell ⟨b, 1, none⟩ y).setCell ⟨b, 2, none⟩ z).setCell ⟨b, 3, none⟩ u) d cs :=
  Rd.keep (fun k hk hlt => ⟨hk, (grown_box4 b w x y z u).block k hlt (fun e => by cases e; exact hb hk)⟩) d cs h
theorem bx_lt {w : World} {b : Nat} {o : Obj} (h : w.heap[b]? = some o) : b < w.heap.size := (Array.getElem?_eq_some_iff.1 h).1
theorem GRow.keep {w : World} {gb : Nat} {gt gn gs : Int} {l : List Rule} {vr : Value} {wr w' : World} (h : GRow w gb gt gn gs l vr wr) (hb : Below wr.heap.size wr w') : GRow w gb gt gn gs l vr w' :=
  ⟨bx_keep h.out hb, h.row.keep hb, h.bel.trans (hb.mono h.bel.size), h.le⟩
/-- behind the append of a rule, and the store of the new header -/
theorem GRow.step {w : World} {gb g cap m : Nat} {gt gn gs : Int} {l : List Rule} {r : Rule} {vr v : Value} {w3 w4 : World} {xs : List Value} (h : GRow w gb gt gn gs l vr w3) (hn : l.length = m) (ho : w3.ownsRow (gb + 1) 32 2 vr m xs) (hd : RdAll (fun k => gb < k ∧ vr.ownBlock ≠ some k) w3 (l.map Rule.d) xs)
    (hr : Rd (fun k => gb < k ∧ vr.ownBlock ≠ some k) w3 (.sl (r.right.map Sym.d)) [v])
    (ho3 : w4.ownsRow (gb + 1) 32 2 (.slice (some ⟨g, 0, none⟩) (m + 1) cap) (m + 1) (xs ++ [.int .i64 r.left, v])) (hg : w3.grownBy w4 vr.ownBlock) (hat : vr.ownBlock = some g ∨ w3.heap.size ≤ g) :
    w4.heap[gb]? = some (.cells #[.int .i64 gt, .int .i64 gn, .int .i64 gs, vr] 25 (0, 0)) ∧ GRow w gb gt gn gs (l ++ [r]) (.slice (some ⟨g, 0, none⟩) (m + 1) cap) (w4.setCell ⟨gb, 3, none⟩ (.slice (some ⟨g, 0, none⟩) (m + 1) cap)) := by
  have hlt := (Array.getElem?_eq_some_iff.1 h.out).1
  have hb3 : w4.heap[gb]? = some (.cells #[.int .i64 gt, .int .i64 gn, .int .i64 gs, vr] 25 (0, 0)) := by
    rw [hg.block gb hlt (fun e => by have := (ho.lt gb e.symm).1; omega)]; exact h.out
  have hne : gb ≠ g := by have h1 := (ho3.lt g rfl).1; omega
  refine ⟨hb3, ?_, ⟨⟨xs ++ [.int .i64 r.left, v], ?_, ?_⟩, ?_⟩, ?_, h.le⟩
  · rw [bx_set hb3]; rfl
  · rw [List.map_append, List.length_append, List.length_map, hn]
    exact ho3.kept (grown_cell w4 ⟨gb, 3, none⟩ _) (.inr (by simpa [Value.ownBlock] using fun e => hne e.symm))
  · have h1 := own_step (S := fun k => gb < k) (v' := .slice (some ⟨g, 0, none⟩) (m + 1) cap) hd (RdAll.one (rd_rule hr)) hg (by
      rcases hat with e | e
      · exact .inl e.symm
      · exact .inr ⟨g, rfl, e⟩)
    rw [List.map_append]
    refine RdAll.keep (fun k hk _ => ⟨hk, Below.heap_setCell _ _ _ _ ?_⟩) _ _ h1
    intro e
    simp at e
    subst e
    exact Nat.lt_irrefl _ hk.1
  · have := h.row.le; have := hg.size; simp [World.setCell]; omega
  · exact (h.bel.grown hg h.bel.size (fun k e => by have := (ho.lt k e).1; have := h.le; omega)).setCell h.le _
def CopyG (g : Gram) (w : World) (e : Ending) (w' : World) : Prop :=
  ∃ a c, e = .returned (.agg #[.int .i64 g.terms, .int .i64 g.nons, .int .i64 g.start, .slice a g.rules.length c]) ∧ Rd (fun k => w.heap.size ≤ k) w' (.sl (g.rules.map Rule.d)) [.slice a g.rules.length c] ∧ Below w.heap.size w w'
set_option maxHeartbeats 4000000 in
set_option maxRecDepth 100000 in
theorem copyG (g : Gram) (hg : ∀ r ∈ g.rules, r.right.length ≤ 4) (hgl : g.rules.length ≤ 100) (a : Option Addr) (c : Nat) (w : World) (hr : Rd AnyB w (.sl (g.rules.map Rule.d)) [.slice a g.rules.length c]) :
    Calls Tryd.prog 18 #[.agg #[.int .i64 g.terms, .int .i64 g.nons, .int .i64 g.start, .slice a g.rules.length c]] w (CopyG g w) := by
  obtain ⟨PST, HP⟩ := nameIt (CopyG g w)
  have HFIN : Hid (∀ a c w', Rd (fun k => w.heap.size ≤ k) w' (.sl (g.rules.map Rule.d)) [.slice a g.rules.length c] → Below w.heap.size w w' → PST (.returned (.agg #[.int .i64 g.terms, .int .i64 g.nons, .int .i64 g.start, .slice a g.rules.length c])) w') := by
    intro a c w' h1 h2; rw [← HP.out]; exact ⟨a, c, rfl, h1, h2⟩
  rw [HP.out]
  clear HP
  have HRD := Lib.hid hr
  have HRR := Lib.hid hg
  have hbd := hr.bounds.2
  unfold maxLen at hbd
  obtain ⟨hbd1, hbd2⟩ := hbd
  obtain ⟨gt, HGT⟩ := nameIt g.terms
  obtain ⟨gn, HGN⟩ := nameIt g.nons
  obtain ⟨gs, HGS⟩ := nameIt g.start
  obtain ⟨K, HK⟩ := nameIt g.rules
  rw [HGT.out, HGN.out, HGS.out, HK.out] at HFIN
  rw [HK.out] at HRD HRR hgl hbd1
  rw [HGT.out, HGN.out, HGS.out, HK.out]
  obtain ⟨kl, HKL⟩ := nameIt K.length
  rw [HKL.out] at HFIN HRD hgl hbd1
  rw [HKL.out]
  clear hr hg
  go_enter Tryd.func18, Tryd.ntmps18
  obtain ⟨wa, HWA⟩ := nameIt (((w.alloc (.cells #[.int .i64 gt, .int .i64 gn, .int .i64 gs, .slice a kl c] 25)).alloc (.cells #[.int .i64 0, .int .i64 0, .int .i64 0, .slice none 0 0] 25)).alloc (.cells #[.int .i64 gt, .int .i64 gn, .int .i64 gs, .slice none 0 0] 25))
  have hba : Below w.heap.size w wa := by rw [← HWA.out]; exact (((Below.refl _ _).alloc (Nat.le_refl _) _).alloc (by simp) _).alloc (by simp; omega) _
  have XR : Hid (wa.heap[w.heap.size + 1]? = some (.cells #[.int .i64 0, .int .i64 0, .int .i64 0, .slice none 0 0] 25 (0, 0))) := by rw [← HWA.out]; exact bx_keep (bx_new _ _ _ (by simp)) ((Below.refl _ _).alloc (Nat.le_refl _) _)
  have XG : wa.heap[w.heap.size + 1 + 1]? = some (.cells #[.int .i64 gt, .int .i64 gn, .int .i64 gs, .slice none 0 0] 25 (0, 0)) := by rw [← HWA.out]; exact bx_new _ _ _ (by simp)
  obtain ⟨gb, HGB⟩ := nameIt (w.heap.size + 1 + 1)
  rw [HGB.out] at XG
  have hgb : gb = w.heap.size + 2 := by rw [← HGB.out]
  have hgl2 := lt_of_cell (bx_cells4 XG).1
  have HG0 : Hid (GRow w gb gt gn gs (K.take 0) (.slice none 0 0) wa) := ⟨XG, RowD.nil _ _ _ _ _ hgl2, hba, by omega⟩
  have HGE := Lib.hid hgb
  have HR0 : Hid (wa.heap[gb - 1]? = some (.cells #[.int .i64 0, .int .i64 0, .int .i64 0, .slice none 0 0] 25 (0, 0))) := by
    have : gb - 1 = w.heap.size + 1 := by omega
    rw [this]; exact XR.out
  clear hba XG XR hgl2 hgb
  go_wp2_with fail
  rw [HWA.out, HGB.out]
  obtain ⟨rb, HRB⟩ := nameIt (w.heap.size + 1)
  have HRE : Hid (gb - 1 = rb) := by show _ = _; have h1 := HGE.out; have h2 := HRB.out; omega
  have hrg : rb < gb := by have h1 := HGE.out; have h2 := HRB.out; omega
  rw [HRB.out]
  rw [HRE.out] at HR0
  go_loopg [5, 11] kl (fun gg v5 v11 wr => ∃ (i : Nat) (vr : Value), i ≤ kl ∧ kl - i ≤ gg ∧ v11 = .int .i64 (i : Int) ∧ Hid (GRow w gb gt gn gs (K.take i) vr wr) ∧ Hid (wr.heap[rb]? = some (.cells #[.int .i64 0, .int .i64 0, .int .i64 0, .slice none 0 0] 25 (0, 0))))
  case atStart => exact ⟨0, .slice none 0 0, by omega, by omega, rfl, HG0, HR0⟩
  case round =>
    clear HG0 HR0 HWA
    obtain ⟨i, vr, hi, hgg, rfl, HG, HRES⟩ := hrel
    obtain ⟨w0, rfl⟩ : ∃ ww : World, ww = wr := ⟨_, rfl⟩
    obtain ⟨ar, cr, hvr, hcr1, hcr2, hvb⟩ := HG.out.row.form
    have HVLT0 := Lib.hid hvb
    by_cases hik : i < kl
    · have hik' : (i : Int) < (kl : Int) := by omega
      have hiK : i < K.length := by rw [HKL.out]; exact hik
      have hil : (K.take i).length = i := by simp; omega
      rw [List.length_map, hil] at hvr hcr1
      subst hvr
      unfold maxLen at hcr2
      obtain ⟨bk, ro, v, hae, -, hbk, s0, s1, hrr⟩ := (HRD.out.below HG.out.bel).rule_at hiK
      obtain ⟨av, cv, rfl, hv1, hv2⟩ := hrr.form
      have hrl := HRR.out _ (List.getElem_mem hiK)
      have hT1 : K.take (i + 1) = K.take i ++ [K[i]] := List.take_succ_eq_append_getElem hiK
      obtain ⟨kid, HKI⟩ := nameIt (K[i]'hiK)
      rw [HKI.out] at s0 s1 hrr hrl hT1
      obtain ⟨lf, RL⟩ := kid
      dsimp only at s0 s1 hrr hrl
      rw [List.length_map] at s1 hrr hv1
      obtain ⟨w1, HW1⟩ := nameIt (w0.alloc (.cells #[.int .i64 lf, .slice av RL.length cv] 32))
      have hb1 : Below w0.heap.size w0 w1 := by rw [← HW1.out]; exact (Below.refl _ _).alloc (Nat.le_refl _) _
      have HRX : Hid (w1.heap[w0.heap.size]? = some (.cells #[.int .i64 lf, .slice av RL.length cv] 32 (0, 0))) := by rw [← HW1.out]; exact bx_new _ _ _ rfl
      have HG1' := HG.out.keep hb1
      have HG1 : Hid (w1.heap[gb]? = some (.cells #[.int .i64 gt, .int .i64 gn, .int .i64 gs, .slice ar i cr] 25 (0, 0))) := HG1'.out
      have HG1R := Lib.hid HG1'
      have HCL := Lib.hid (fun W (hb : Below w1.heap.size w1 W) => cloneSyms RL av cv W ((hrr.below hb1).below hb) (by omega))
      have HIL := Lib.hid hil
      have HT1 := Lib.hid hT1
      obtain ⟨xs, ho, hd⟩ := HG1'.row.own
      rw [List.length_map, hil] at ho
      have HO := Lib.hid ho
      have HD := Lib.hid hd
      have HRES1 := Lib.hid (bx_keep HRES.out hb1)
      have hgs1 := (bx_lt HG1.out)
      have hrs1 := (bx_lt HRES1.out)
      have hgw1 : gb + 1 ≤ w1.heap.size := hgs1
      have HVLT : Hid (∀ k, (Value.slice ar i cr).ownBlock = some k → k < w1.heap.size) := fun k e => (ho.lt k e).2
      have HVGE : Hid (∀ k, (Value.slice ar i cr).ownBlock = some k → gb < k) := fun k e => (ho.lt k e).1
      obtain ⟨rn, HRN⟩ := nameIt RL.length
      rw [HRN.out] at HRX HW1 s1
      simp only [HRN.out] at HCL
      obtain ⟨rx, HRXN⟩ := nameIt w0.heap.size
      rw [HRXN.out] at HRX
      subst hae
      clear hv1 hv2 hb1 hrr HG1' ho hd hvb hil hT1 hrl HKI hiK
      go_upto_region 6 with fail
      rw [HW1.out, HRXN.out]
      clear HW1 s0 s1
      have HS : Hid (∀ W', Below w1.heap.size w1 W' → (fun w' => w'.cell? ⟨gb, 0 + 3, none⟩ = some (.slice ar i cr) ∧ w'.cell? ⟨rx, 0, none⟩ = some (.int .i64 lf) ∧ w'.cell? ⟨rx, 0 + 1, none⟩ = some (.slice av rn cv)) W') := fun W' hb => ⟨(bx_cells4 (bx_keep HG1.out hb)).2.2.2, (bx_cells2 (bx_keep HRX.out hb)).1, (bx_cells2 (bx_keep HRX.out hb)).2⟩
      refine wp_region_U (S := (fun w' => w'.cell? ⟨gb, 0 + 3, none⟩ = some (.slice ar i cr) ∧ w'.cell? ⟨rx, 0, none⟩ = some (.int .i64 lf) ∧ w'.cell? ⟨rx, 0 + 1, none⟩ = some (.slice av rn cv))) 9 (by kernel_rfl) (fun inv => ?_)
      refine wpU_take (i := 0) (v := .pointer (some ⟨gb, 0 + 3, none⟩)) rfl inv (by kernel_rfl) (by kernel_rfl) (by decide) (by decide) (by kernel_rfl) (by kernel_rfl) (by kernel_rfl) (fun _ _ _ h => h) (Or.inl ⟨by rfl, fun w' hw' => ?_⟩) (HS.out _ (Below.refl _ _).drew) (fun inv => ?_)
      · obtain ⟨h0, h1, h2⟩ := hw'
        go_simp
      try simp only [Act.put, List.setIfInBounds_toArray, List.set_cons_zero, List.set_cons_succ]
      refine wpU_take (i := 1) (v := .slice ar i cr) rfl inv (by kernel_rfl) (by kernel_rfl) (by decide) (by decide) (by kernel_rfl) (by kernel_rfl) (by kernel_rfl) (fun _ _ _ h => h) (Or.inl ⟨by rfl, fun w' hw' => ?_⟩) (HS.out _ (Below.refl _ _).drew) (fun inv => ?_)
      · obtain ⟨h0, h1, h2⟩ := hw'
        go_simp
      try simp only [Act.put, List.setIfInBounds_toArray, List.set_cons_zero, List.set_cons_succ]
      refine wpU_take (i := 2) (v := .pointer (some ⟨rx, 0, none⟩)) rfl inv (by kernel_rfl) (by kernel_rfl) (by decide) (by decide) (by kernel_rfl) (by kernel_rfl) (by kernel_rfl) (fun _ _ _ h => h) (Or.inl ⟨by rfl, fun w' hw' => ?_⟩) (HS.out _ (Below.refl _ _).drew) (fun inv => ?_)
      · obtain ⟨h0, h1, h2⟩ := hw'
        go_simp
      try simp only [Act.put, List.setIfInBounds_toArray, List.set_cons_zero, List.set_cons_succ]
      refine wpU_take (i := 3) (v := .int .i64 lf) rfl inv (by kernel_rfl) (by kernel_rfl) (by decide) (by decide) (by kernel_rfl) (by kernel_rfl) (by kernel_rfl) (fun _ _ _ h => h) (Or.inl ⟨by rfl, fun w' hw' => ?_⟩) (HS.out _ (Below.refl _ _).drew) (fun inv => ?_)
      · obtain ⟨h0, h1, h2⟩ := hw'
        go_simp
      try simp only [Act.put, List.setIfInBounds_toArray, List.set_cons_zero, List.set_cons_succ]
      refine wpU_take (i := 4) (v := .pointer (some ⟨rx, 0 + 1, none⟩)) rfl inv (by kernel_rfl) (by kernel_rfl) (by decide) (by decide) (by kernel_rfl) (by kernel_rfl) (by kernel_rfl) (fun _ _ _ h => h) (Or.inl ⟨by rfl, fun w' hw' => ?_⟩) (HS.out _ (Below.refl _ _).drew) (fun inv => ?_)
      · obtain ⟨h0, h1, h2⟩ := hw'
        go_simp
      try simp only [Act.put, List.setIfInBounds_toArray, List.set_cons_zero, List.set_cons_succ]
      refine wpU_take (i := 5) (v := .slice av rn cv) rfl inv (by kernel_rfl) (by kernel_rfl) (by decide) (by decide) (by kernel_rfl) (by kernel_rfl) (by kernel_rfl) (fun _ _ _ h => h) (Or.inl ⟨by rfl, fun w' hw' => ?_⟩) (HS.out _ (Below.refl _ _).drew) (fun inv => ?_)
      · obtain ⟨h0, h1, h2⟩ := hw'
        go_simp
      try simp only [Act.put, List.setIfInBounds_toArray, List.set_cons_zero, List.set_cons_succ]
      refine wpU_one (i := 6) (by kernel_rfl) rfl (fun K hK => ?_)
      replace inv := inv_setc (i := 6) inv (by kernel_rfl) (by decide)
      go_simp
      with_reducible refine (HCL.out _ (Below.refl _ _).drew).mono ?_
      rintro e w2 ⟨a2, c2, rfl, hr2, hb2⟩
      rw [HRN.out] at hr2
      rw [HRN.out]
      have HB2 : Hid (Below w1.heap.size w1 w2) := (Below.refl _ _).drew.trans (hb2.mono (by simp))
      have HR2 : Hid (Rd (fun k => w1.heap.size ≤ k) w2 (.sl (RL.map Sym.d)) [.slice a2 rn c2]) := hr2
      clear hr2 hb2
      refine hK.out _ _ (fun _ => HS.out _ HB2.out) ?_
      clear hK K
      try simp only [Act.put, List.setIfInBounds_toArray, List.set_cons_zero, List.set_cons_succ]
      refine wpU_one (i := 7) (by kernel_rfl) rfl (fun K hK => ?_)
      replace inv := inv_setc (i := 7) inv (by kernel_rfl) (by decide)
      go_simp
      refine hK.out _ _ (fun _ => HS.out _ HB2.out) ?_
      clear hK K
      try simp only [Act.put, List.setIfInBounds_toArray, List.set_cons_zero, List.set_cons_succ]
      obtain ⟨w3, HW3⟩ := nameIt (w2.alloc (.cells #[.int .i64 lf, .slice a2 rn c2] 32))
      have hb3 : Below w2.heap.size w2 w3 := by rw [← HW3.out]; exact (Below.refl _ _).alloc (Nat.le_refl _) _
      have X3 : Hid (w3.heap[w2.heap.size]? = some (.cells #[.int .i64 lf, .slice a2 rn c2] 32 (0, 0))) := by rw [← HW3.out]; exact bx_new _ _ _ rfl
      have HB3 : Hid (Below w1.heap.size w1 w3) := HB2.out.trans (hb3.mono HB2.out.size)
      have HR3 := Lib.hid (HR2.out.below hb3)
      obtain ⟨q2, HQ2⟩ := nameIt w2.heap.size
      rw [HQ2.out] at X3
      clear hb3
      refine wpU_one (i := 8) (by kernel_rfl) rfl (fun K hK => ?_)
      replace inv := inv_setc (i := 8) inv (by kernel_rfl) (by decide)
      go_simp
      rw [HW3.out, HQ2.out]
      refine hK.out _ _ (fun _ => HS.out _ HB3.out) ?_
      clear hK K
      try simp only [Act.put, List.setIfInBounds_toArray, List.set_cons_zero, List.set_cons_succ]
      have HO3 := Lib.hid (own_keep HO.out HB3.out)
      have HD3 := Lib.hid (HD.out.below HB3.out)
      have HG3 := Lib.hid (HG1R.out.keep HB3.out)
      refine wpU_one (i := 9) (by kernel_rfl) rfl (fun K hK => ?_)
      refine step_appB elRule (by rfl) _ _ (by rfl) HO3.out (by rfl) (by rfl) X3.out (by rfl) (by rfl) (by omega) (by unfold maxLen; omega) (by have := HB3.out.size; omega) ?_
      intro g4 c4 w4 ho4 hg4 hat4 hlt4
      obtain ⟨hbx, hst⟩ := GRow.step HG3.out HIL.out HO3.out HD3.out (r := ⟨lf, RL⟩) (HR3.out.mono (fun k hk _ => ⟨by omega, fun e => by have := HVLT.out k e; omega⟩)) ho4 hg4 (hat4.imp id fun e => Nat.le_of_eq e.symm)
      have HGB4 := Lib.hid hg4
      have HX4 := Lib.hid hbx
      have HST := Lib.hid hst
      clear ho4 hg4 hat4 hbx hst
      refine hK.out _ _ (fun h => absurd (show true = false from h) (by decide)) ?_
      clear hK K
      try simp only [Act.put, List.setIfInBounds_toArray, List.set_cons_zero, List.set_cons_succ]
      refine wpU_one (i := 10) (by kernel_rfl) rfl (fun K hK => ?_)
      go_simp
      refine hK.out _ _ (fun h => absurd (show true = false from h) (by decide)) ?_
      clear hK K
      try simp only [Act.put, List.setIfInBounds_toArray, List.set_cons_zero, List.set_cons_succ]
      obtain ⟨-, -, -, z3⟩ := bx_cells4 HX4.out
      obtain ⟨-, -, -, f3⟩ := bx_free4 HX4.out
      refine wpU_one (i := 11) (by kernel_rfl) rfl (fun K hK => ?_)
      go_simp
      refine hK.out _ _ (fun h => absurd (show true = false from h) (by decide)) ?_
      clear hK K
      try simp only [Act.put, List.setIfInBounds_toArray, List.set_cons_zero, List.set_cons_succ]
      refine wpU_done (by kernel_rfl) ?_ _
      have HRN4 : Hid ((w4.setCell ⟨gb, 3, none⟩ (.slice (some ⟨g4, 0, none⟩) (i + 1) c4)).heap[rb]? = some (.cells #[.int .i64 0, .int .i64 0, .int .i64 0, .slice none 0 0] 25 (0, 0))) :=
        bx_other ((HGB4.out.block rb (by have := HB3.out.size; omega) (fun e => by have := HVGE.out rb e.symm; omega)).trans (bx_keep HRES1.out HB3.out)) (by omega) _ _
      go_wp2_with fail
      go_roundg (kl - (i + 1))
      case measure => omega
      case rel =>
        refine ⟨i + 1, .slice (some ⟨g4, 0, none⟩) (i + 1) c4, by omega, by omega, by go_num, ?_, HRN4⟩
        rw [HT1.out]; exact HST.out
    · have hik' : ¬ (i : Int) < (kl : Int) := by omega
      have htk : K.take i = K := List.take_of_length_le (by rw [HKL.out]; omega)
      rw [htk] at HG
      rw [htk, List.length_map, HKL.out] at hvr
      subst hvr
      have HE := Lib.hid (fun x0 x1 x2 x3 => HFIN.out ar cr ((((w0.setCell ⟨rb, 0, none⟩ x0).setCell ⟨rb, 1, none⟩ x1).setCell ⟨rb, 2, none⟩ x2).setCell ⟨rb, 3, none⟩ x3) (by
        obtain ⟨xs, h3, h4⟩ := HG.out.row.own
        rw [List.length_map, HKL.out] at h3
        exact (Rd.box4 (S := fun k => gb < k) (rd_of_own h3 (h4.mono fun k hk _ => hk.1) (by simp; exact HKL.out) (fun k e => (h3.lt k e).1)) (b := rb) (by omega) x0 x1 x2 x3).mono (fun k hk _ => by have := HRB.out; omega)) (below_box4 HG.out.bel (by have := HRB.out; omega) x0 x1 x2 x3))
      obtain ⟨x0, x1, x2, x3⟩ := bx_cells4 HG.out.out
      obtain ⟨z0, z1, z2, z3⟩ := bx_cells4 HRES.out
      obtain ⟨f0, f1, f2, f3⟩ := bx_free4 HRES.out
      clear htk hvb hcr1 hcr2
      go_wp2_with fail
      refine bodyPost_ret (v := .agg #[.int .i64 gt, .int .i64 gn, .int .i64 gs, .slice ar kl cr]) (by simp [results, Tryd.results18, go_sem, z0, z1, z2, z3]) rfl ?_
      exact HE.out _ _ _ _
end Gs
end Go.Proofs.YthnkgmlhpefldaaDoor
namespace Go.Proofs.YthnkgmlhpefldaaDoor
open Go.RowKit
namespace Gs

def fF (fit : List Rule → Bool) : Nat → List Rule → List Rule → Option (List Rule)
  | 0, _, p => if fit p then some p else none
  | _ + 1, [], _ => none
  | n + 1, r :: l, p => (fF fit n l (p ++ [r])).or (fF fit (n + 1) l p)
def gF (fit : List Rule → Bool) (L : List Rule) : Nat → Option (List Rule)
  | 0 => none
  | n + 1 => (gF fit L n).or (fF fit n L [])
section
variable {fit : List Rule → Bool} {L p : List Rule} {n i : Nat}
theorem fF_at (hi : i < L.length) : fF fit (n + 1) (L.drop i) p = (fF fit n (L.drop (i + 1)) (p ++ [L[i]])).or (fF fit (n + 1) (L.drop (i + 1)) p) := by
  rw [List.drop_eq_getElem_cons hi, fF]
theorem fF_end (hi : L.length ≤ i) : fF fit (n + 1) (L.drop i) p = none := by
  rw [List.drop_of_length_le hi, fF]
theorem sub_next (hi : i < L.length) (h : p.Sublist (L.take i)) : (p ++ [L[i]]).Sublist (L.take (i + 1)) := by
  rw [List.take_succ_eq_append_getElem hi]
  exact h.append (List.Sublist.refl _)
theorem sub_more {j : Nat} (hij : i ≤ j) (h : p.Sublist (L.take i)) : p.Sublist (L.take j) := by
  have : L.take i = (L.take j).take i := by rw [List.take_take]; congr 1; omega
  rw [this] at h
  exact h.trans (List.take_sublist _ _)
theorem fF_sub : ∀ (n i : Nat) (p c : List Rule), i ≤ L.length → p.Sublist (L.take i) → fF fit n (L.drop i) p = some c → c.Sublist L ∧ c.length = p.length + n ∧ fit c = true := by
  intro n
  induction n with
  | zero =>
    intro i p c hi hp h
    unfold fF at h
    by_cases hf : fit p = true
    · rw [if_pos hf] at h
      cases h
      exact ⟨hp.trans (List.take_sublist _ _), rfl, hf⟩
    · rw [if_neg hf] at h; cases h
  | succ n ih =>
    have key : ∀ m i p c, L.length - i = m → i ≤ L.length → p.Sublist (L.take i) → fF fit (n + 1) (L.drop i) p = some c → c.Sublist L ∧ c.length = p.length + (n + 1) ∧ fit c = true := by
      intro m
      induction m with
      | zero =>
        intro i p c hm hi hp h
        rw [fF_end (by omega)] at h; cases h
      | succ m ihm =>
        intro i p c hm hi hp h
        have hlt : i < L.length := by omega
        rw [fF_at hlt] at h
        rcases Option.or_eq_some_iff.1 h with h | ⟨_, h⟩
        · obtain ⟨h1, h2, h3⟩ := ih (i + 1) _ c (by omega) (sub_next hlt hp) h
          exact ⟨h1, by rw [h2, List.length_append]; simp; omega, h3⟩
        · exact ihm (i + 1) p c (by omega) (by omega) (sub_more (by omega) hp) h
    intro i p c hi hp h
    exact key _ i p c rfl hi hp h
end
end Gs
end Go.Proofs.YthnkgmlhpefldaaDoor
namespace Go.Proofs.YthnkgmlhpefldaaDoor
open Go.RowKit

theorem elWs : ElemT Tryd.prog 22 29 1 24 := ElemT.mk' (z := .slice none 0 0) Tryd.underlying22 (by kernel_rfl) rfl (by decide)
def NewWs (l : List Value) (w : World) (e : Ending) (w' : World) : Prop :=
  ∃ a cap, e = .returned (.slice a l.length cap) ∧ w'.ownsRow w.heap.size 29 1 (.slice a l.length cap) l.length l ∧ Below w.heap.size w w'
theorem newWs_of {l : List Value} {w w' : World} {v : Value} (h : w'.ownsRow w.heap.size 29 1 v l.length l) (hb : Below w.heap.size w w') : NewWs l w (.returned v) w' := by
  obtain ⟨a, cap, rfl, _, _⟩ := own_len h
  exact ⟨a, cap, rfl, h, hb⟩
def vlens (ls : List (List Value)) : Nat := (ls.map List.length).foldl (· + ·) 0
theorem vlens_snoc (ls : List (List Value)) (l : List Value) : vlens (ls ++ [l]) = vlens ls + l.length := by simp [vlens, List.foldl_append]
theorem vlens_flatten (ls : List (List Value)) : vlens ls = ls.flatten.length := by
  unfold vlens
  have h : ∀ (ns : List Nat) (a : Nat), ns.foldl (· + ·) a = a + ns.sum := by
    intro ns
    induction ns with
    | nil => intro a; simp
    | cons n ns ih => intro a; rw [List.foldl_cons, ih]; simp [Nat.add_assoc]
  rw [h, List.length_flatten]; simp
theorem vlens_take_le (ls : List (List Value)) (k : Nat) : vlens (ls.take k) ≤ vlens ls := by
  rw [vlens_flatten, vlens_flatten]
  conv => rhs; rw [← List.take_append_drop k ls]
  rw [List.flatten_append, List.length_append]; omega

/-- what slices.Grow leaves of the nil slice: a row of the call's own with nothing in it -/
def Grown0W (w : World) (e : Ending) (w' : World) : Prop := ∃ v, e = .returned v ∧ w'.ownsRow w.heap.size 29 1 v 0 [] ∧ Below w.heap.size w w'

set_option maxHeartbeats 400000 in
set_option maxRecDepth 100000 in
theorem grow_nilW (n : Nat) (w : World) (hb : n * 24 ≤ 140737488355328) :
    Calls Tryd.prog 19 #[.slice none 0 0, .int .i64 n] w (Grown0W w) := by
  rcases Nat.eq_zero_or_pos n with h0 | h0
  · subst h0
    go_enter Tryd.func19, Tryd.ntmps19
    go_wp2
    go_ret
    exact ⟨_, rfl, World.ownsRow_nil _ _ _ _, Below.refl _ _⟩
  · obtain ⟨i0, hi, hz0, hz1, hz2⟩ := info_parts (show (Tryd.prog.info? 29).map (fun i => (i.zero, i.size, i.bytes)) = some (some (.slice none 0 0), 1, 24) by kernel_rfl)
    have hG63 := grownCap_le_maxLen w n 0 29 (by unfold maxLen; omega)
    have hGn := grownCap_ge w n 0 29
    have hrz : ∀ ty, (Builtin.append_ #[22, 3] ty #[.slice none 0 0, .int .i64 n]).run Tryd.prog w =
        .ok (.slice (some ⟨w.heap.size, 0, none⟩) n (grownCap w n 0 29)) (w.drew.alloc (.cells (#[] ++ Builtin.zeroCells (Value.slice none 0 0).cells n ++ Builtin.zeroCells (Value.slice none 0 0).cells (grownCap w n 0 29 - n)) 29)) := fun ty => by
      have h := Lib.run_append_grow_zeros w 22 3 ty 29 i0 (.slice none 0 0) .i64 .i64 Tryd.underlying22 Tryd.underlying3 hi hz0 none 0 0 [] (run_firstCells_none w.drew i0.size 0 0 0) n h0 (by rw [hz1]; omega) (by omega) (by omega) (by rw [hz2]; omega)
        (by rw [Nat.zero_add]; exact growslice_fits (by omega) (by rw [hz2]; omega))
      simpa using h
    obtain ⟨G, hG⟩ : ∃ G, G = grownCap w n 0 29 := ⟨_, rfl⟩
    rw [← hG] at hrz hGn hG63
    clear hG
    unfold maxLen at hG63
    have hsz : (#[] ++ Builtin.zeroCells (Value.slice none 0 0).cells n ++ Builtin.zeroCells (Value.slice none 0 0).cells (G - n)).size = G := by
      simp [Builtin.zeroCells, Value.cells]; omega
    generalize (#[] ++ Builtin.zeroCells (Value.slice none 0 0).cells n ++ Builtin.zeroCells (Value.slice none 0 0).cells (G - n)) = cur at *
    have HO : Hid ((w.drew.alloc (.cells cur 29)).ownsRow w.heap.size 29 1 (.slice (some ⟨w.heap.size, 0, none⟩) 0 G) 0 []) := World.ownsRow_made w.drew cur G (Nat.le_refl _) (by unfold maxLen; omega) (by rw [Nat.mul_one]; exact hsz)
    have HB : Hid (Below w.heap.size w (w.drew.alloc (.cells cur 29))) := (Below.refl w.heap.size w).drew.alloc (Nat.le_refl _) _
    have HRZ := Lib.hid hrz
    clear hsz hrz
    go_enter Tryd.func19, Tryd.ntmps19
    go_wp2_with (at_builtin; refine Lib.wpList_append_run _ rfl _ _ _ _ rfl _ _ rfl rfl _ _ (HRZ.out _) ?_)
    go_ret
    exact ⟨_, rfl, HO.out, HB.out⟩

set_option maxHeartbeats 1000000 in
set_option maxRecDepth 100000 in
/-- slices.Concat at []int: the slices vs read as the lists ls -/
theorem concatW (a : Option Addr) (cap : Nat) (vs : List Value) (ls : List (List Value)) (w : World) (hv : Sl w (.slice a vs.length cap) vs) (hlen : vs.length = ls.length)
    (hs : ∀ i (h : i < vs.length), Sl w vs[i] (ls.getD i [])) (hone : ∀ l ∈ ls, ∀ u ∈ l, u.oneCell' = true) (hb : vlens ls * 24 ≤ 140737488355328) :
    Calls Tryd.prog 5 #[.slice a vs.length cap] w (NewWs ls.flatten w) := by
  have HV := Lib.hid hv
  have HS := Lib.hid hs
  have HL := Lib.hid hlen
  have HONE := Lib.hid hone
  obtain ⟨hc1, hc2⟩ := hv.len.2
  unfold maxLen at hc2
  clear hv hs hlen hone
  go_enter Tryd.func5, Tryd.ntmps5
  go_wp2
  go_loop [3, 11] (fun n t => ∃ k : Nat, k ≤ vs.length ∧ t = .int .i64 k ∧ n = .int .i64 (vlens (ls.take k) : Nat)) (fun _ t => vs.length - (intOf t).toNat)
  case atStart => exact ⟨0, by omega, rfl, rfl⟩
  case round =>
    obtain ⟨k, hk, rfl, rfl⟩ := hrel
    have hle := vlens_take_le ls k
    by_cases hlt : k < vs.length
    · obtain ⟨b, off, rfl, hc⟩ := HV.out.at hlt
      have hcell := hc k hlt
      have HSl := Lib.hid (HS.out k hlt)
      have HT : Hid (vlens (ls.take (k + 1)) = vlens (ls.take k) + (ls.getD k []).length) := by
        show _ = _
        rw [List.take_succ_eq_append_getElem (by rw [← HL.out]; exact hlt), vlens_snoc, getD_get _ _ _ (by rw [← HL.out]; exact hlt)]
      have hle2 := vlens_take_le ls (k + 1)
      obtain ⟨av, cv, HE⟩ : ∃ av cv, Hid (vs[k] = .slice av (ls.getD k []).length cv) := by
        obtain ⟨av, cv, h⟩ := HSl.out.form
        exact ⟨av, cv, h⟩
      rw [HE.out] at hcell
      generalize (ls.getD k []).length = m at *
      have hm : vlens (ls.take k) + m ≤ vlens ls := by rw [← HT.out]; exact hle2
      clear hc HSl HE hle2
      go_wp2
      exact ⟨⟨k + 1, by omega, by go_num, by rw [HT.out]; go_num⟩, by simp [intOf]; omega⟩
    · have ek : Hid (ls.take k = ls) := List.take_of_length_le (by have := HL.out; omega)
      rw [ek.out] at hle ⊢
      clear ek
      go_wp2_with fail
      refine (grow_nilW (vlens ls) w hb).mono ?_
      rintro e w1 ⟨v1, rfl, ho1, hb1⟩
      have HO1 := Lib.hid ho1
      have HB1 := Lib.hid hb1
      clear ho1 hb1
      go_wp2_with fail
      go_loopw [6, 27] (fun m t wr => ∃ k : Nat, k ≤ vs.length ∧ t = .int .i64 k ∧ Hid (wr.ownsRow w.heap.size 29 1 m (vlens (ls.take k)) (ls.take k).flatten) ∧ Hid (Below w.heap.size w wr)) (fun _ t _ => vs.length - (intOf t).toNat)
      case atStart => exact ⟨0, by omega, rfl, HO1, HB1⟩
      case round =>
        clear HO1 HB1
        obtain ⟨k, hk, rfl, HO, HB⟩ := hrel
        by_cases hlt : k < vs.length
        · obtain ⟨b, off, rfl, hc⟩ := (HV.out.keep HB.out).at hlt
          have hcell := hc k hlt
          have HSl := Lib.hid ((HS.out k hlt).keep HB.out)
          have HT : Hid (vlens (ls.take (k + 1)) = vlens (ls.take k) + (ls.getD k []).length) := by
            show _ = _
            rw [List.take_succ_eq_append_getElem (by rw [← HL.out]; exact hlt), vlens_snoc, getD_get _ _ _ (by rw [← HL.out]; exact hlt)]
          have HF : Hid ((ls.take (k + 1)).flatten = (ls.take k).flatten ++ (ls.getD k [])) := by
            show _ = _
            rw [List.take_succ_eq_append_getElem (by rw [← HL.out]; exact hlt), List.flatten_append, getD_get _ _ _ (by rw [← HL.out]; exact hlt)]; simp
          have hle2 := vlens_take_le ls (k + 1)
          have hx1 : ∀ u ∈ ls.getD k [], u.oneCell' = true := HONE.out _ (by rw [getD_get _ _ _ (by rw [← HL.out]; exact hlt)]; exact List.getElem_mem _)
          generalize (ls.getD k []) = x at *
          generalize vs[k] = vk at *
          have hm : vlens (ls.take k) + x.length ≤ vlens ls := by rw [← HT.out]; exact hle2
          have hz := HB.out.size
          clear hc hle2
          go_wp2_with (at_builtin; refine wp_appS elWs rfl _ _ rfl HO.out rfl HSl.out rfl hx1 ?_ ?_ hz ?_)
          · omega
          · unfold maxLen; omega
          · intro v' w' hown hg
            have HO3 : Hid (w'.ownsRow w.heap.size 29 1 v' (vlens (ls.take (k + 1))) (ls.take (k + 1)).flatten) := by
              rw [HT.out, HF.out]; exact hown
            have HB3 := Lib.hid (HB.out.grown hg hz (fun b hb => (HO.out.lt b hb).1))
            clear hown hg HO HB HSl
            go_wp2
            exact ⟨⟨k + 1, by omega, by go_num, HO3, HB3⟩, by simp [intOf]; omega⟩
        · have ek : Hid (ls.take k = ls) := List.take_of_length_le (by have := HL.out; omega)
          rw [ek.out] at HO
          clear ek
          go_wp2
          go_ret
          exact newWs_of (by rw [← vlens_flatten]; exact HO.out) HB.out


theorem Rd.wordsCells {S : Nat → Prop} {w : World} {L : List (List Int)} {v : Value} (h : Rd S w (.sl (L.map D.ints)) [v]) : ∃ xs, Sl w v xs ∧ xs.length = L.length ∧ (∀ u ∈ xs, u.oneCell' = true) ∧ RdAll S w (L.map D.ints) xs := by
  obtain ⟨a, cap, xs, e, h1, h2, h3, h4, h5⟩ := h
  have hl : xs.length = L.length := by
    have h6 := RdAll.len _ _ h5
    rw [h6]
    clear h6 h5 h4 h1 e
    induction L with
    | nil => rfl
    | cons x L ih => simp [D.cellsAll, D.cells, D.ints] at ih ⊢; omega
  simp at e
  rw [List.length_map] at h1
  refine ⟨xs, ⟨a, cap, by rw [hl]; exact e, by omega, h2, h3, fun i hi => h4 i hi |>.imp fun x hx => ⟨hx.1, hx.2.2⟩⟩, hl, ?_, h5⟩
  clear h4 hl e h1 h2 h3
  induction L generalizing xs with
  | nil => simp [RdAll] at h5; subst h5; simp
  | cons x L ih =>
    obtain ⟨c1, c2, rfl, k1, k2⟩ := h5
    obtain ⟨a', c', L', e', _⟩ := k1
    intro u hu
    rcases List.mem_append.1 hu with hu | hu
    · subst e'; simp at hu; subst hu; rfl
    · exact ih c2 k2 u hu
end Go.Proofs.YthnkgmlhpefldaaDoor
namespace Go.Proofs.YthnkgmlhpefldaaDoor
open Go.RowKit
namespace Gs

theorem ints_at {S : Nat → Prop} {w : World} {l : List (List Int)} {a : Option Addr} {n cap i : Nat} (h : Rd S w (.sl (l.map D.ints)) [.slice a n cap]) (hi : i < l.length) :
    ∃ b off u, a = some ⟨b, off, none⟩ ∧ b < w.heap.size ∧ w.cell? ⟨b, off + i, none⟩ = some u ∧ Rd S w (D.ints l[i]) [u] := by
  obtain ⟨b, off, cs, ha, hS, hlt, hr, hl, hc⟩ := h.at (k := 1) (fun d hd => by simp at hd; obtain ⟨t, _, rfl⟩ := hd; simp [D.ints, D.cells]) (by decide) (i := i) (by simpa using hi)
  simp at hr
  match cs, hl with
  | [u], _ => exact ⟨b, off, u, ha, hlt, by simpa using hc 0 (by simp), hr⟩
def WordsPost (L : List (List Int)) (w : World) (e : Ending) (w' : World) : Prop :=
  ∃ a cap, e = .returned (.slice a L.length cap) ∧ Rd AnyB w' (.sl (L.map D.ints)) [.slice a L.length cap] ∧ Below w.heap.size w w'
theorem concatWords (w : World) (g : Nat) (e : TypeId) (v1 v2 : Value) (L1 L2 : List (List Int)) (hg : g = w.heap.size) (h1 : Rd AnyB w (.sl (L1.map D.ints)) [v1]) (h2 : Rd AnyB w (.sl (L2.map D.ints)) [v2]) (hb : (L1.length + L2.length) * 24 ≤ 140737488355328) :
    Calls Tryd.prog 5 #[.slice (some ⟨g, 0, none⟩) 2 2] (w.alloc (.cells #[v1, v2] e)) (WordsPost (L1 ++ L2) w) := by
  have hB : Below w.heap.size w (w.alloc (.cells #[v1, v2] e)) := ((Below.refl _ _).alloc (Nat.le_refl _) _)
  obtain ⟨x1, s1, n1, o1, d1⟩ := h1.wordsCells
  obtain ⟨x2, s2, n2, o2, d2⟩ := h2.wordsCells
  refine (concatW (some ⟨g, 0, none⟩) 2 [v1, v2] [x1, x2] _ (sl_lit (v := #[v1, v2]) hg (by simp [maxLen])) rfl ?_ ?_ ?_).mono ?_
  · intro i hi
    simp at hi
    match i, hi with
    | 0, _ => exact s1.keep hB
    | 1, _ => exact s2.keep hB
  · intro l hl
    simp at hl
    rcases hl with rfl | rfl
    · exact o1
    · exact o2
  · simpa [vlens, n1, n2] using hb
  · rintro e w' ⟨a, c, rfl, ho, hb⟩
    have el : [x1, x2].flatten.length = (L1 ++ L2).length := by simp [n1, n2]
    rw [el] at ho
    rw [el]
    refine ⟨a, c, rfl, rd_of_own ho ?_ (by simp) (fun _ _ => trivial), hB.trans (hb.mono hB.size)⟩
    rw [List.map_append]
    have := (d1.below (hB.trans (hb.mono hB.size))).append (d2.below (hB.trans (hb.mono hB.size)))
    simpa using this

/-- a condition of words, as a function value -/
def PredW (g : Nat) (lb : Array Value) (l : List (List Int)) (p : List Int → Bool) (w : World) : Prop :=
  ∀ (W : World) (x : List Int) (n : Nat) (a : Option Addr) (c : Nat), x ∈ l → x.length = n → Below w.heap.size w W → Sl W (.slice a n c) (ints x) → Calls Tryd.prog g (#[.slice a n c] ++ lb) W fun e w' => e = .returned (.bool (p x)) ∧ Below W.heap.size W w'
def idxW (p : List Int → Bool) (l : List (List Int)) : Int := if l.any p then (l.findIdx p : Int) else -1
theorem idxW_hit {p : List Int → Bool} {l : List (List Int)} {i : Nat} (hi : i < l.length) (h : p l[i] = true) (hn : ∀ j (h : j < l.length), j < i → p l[j] = false) : idxW p l = i := by
  have h1 : l.any p = true := List.any_eq_true.2 ⟨l[i], List.getElem_mem hi, h⟩
  rw [idxW, if_pos h1]
  have : l.findIdx p = i := by
    rw [List.findIdx_eq hi]
    exact ⟨h, fun j hj => by simp [hn j (by omega) hj]⟩
  rw [this]
theorem idxW_none {p : List Int → Bool} {l : List (List Int)} (hn : ∀ j (h : j < l.length), p l[j] = false) : idxW p l = -1 := by
  have h1 : l.any p = false := by
    rw [List.any_eq_false]
    intro x hx
    obtain ⟨j, hj, rfl⟩ := List.getElem_of_mem hx
    simp [hn j hj]
  rw [idxW, if_neg (by simp [h1])]
theorem idxW_ge (p : List Int → Bool) (l : List (List Int)) : decide (0 ≤ idxW p l) = l.any p := by
  unfold idxW
  cases h : l.any p <;> simp [h]

set_option maxHeartbeats 1000000 in
theorem indexFuncW (g : Nat) (lb : Array Value) (p : List Int → Bool) (a : Option Addr) (cap : Nat) (l : List (List Int)) (w : World) (eg : ∀ args w, (callFunc g args).run Tryd.prog w = .ok (.enter g args) w)
    (hf : PredW g lb l p w) (hl : Rd AnyB w (.sl (l.map D.ints)) [.slice a l.length cap]) :
    Calls Tryd.prog 20 #[.slice a l.length cap, .func (.func g) #[] lb] w fun e w' => e = .returned (.int .i64 (idxW p l)) ∧ Below w.heap.size w w' := by
  have HL := Lib.hid hl
  have HF := Lib.hid hf
  have hc := hl.bounds.2
  unfold maxLen at hc
  obtain ⟨hc1, hc2⟩ := hc
  clear hl hf
  go_enter Tryd.func20, Tryd.ntmps20
  go_wp2
  go_loopg [8] l.length (fun gg v8 wr => ∃ i : Nat, i ≤ l.length ∧ l.length - i ≤ gg ∧ v8 = .int .i64 i ∧ Hid (Below w.heap.size w wr) ∧ Hid (∀ j (h : j < l.length), j < i → p l[j] = false))
  case atStart => exact ⟨0, by omega, by omega, rfl, Below.refl _ _, fun j _ hj => by omega⟩
  case round =>
    obtain ⟨i, hi, hg, rfl, HB, HN⟩ := hrel
    by_cases hlt : i < l.length
    · have hlt' : (i : Int) < (l.length : Int) := by omega
      obtain ⟨ba, oa, u, hae, -, c1, hru⟩ := ints_at (HL.out.below HB.out) hlt
      obtain ⟨x, HX⟩ := nameIt (l[i]'hlt)
      rw [HX.out] at hru
      have hsl := sl_rd hru
      obtain ⟨ua, un, uc, rfl⟩ : ∃ a n c, u = .slice a n c := by obtain ⟨a, k, rfl⟩ := hsl.form; exact ⟨_, _, _, rfl⟩
      have hun : x.length = un := by have := hsl.len.1; rw [ints_len] at this; exact this.symm
      have HC := Lib.hid (HF.out wr x un ua uc (by rw [← HX.out]; exact List.getElem_mem hlt) hun HB.out hsl)
      subst hae
      clear hru hsl hun
      go_wp2_with fail
      refine HC.out.mono ?_
      rintro e w6 ⟨rfl, hb6⟩
      have HB6 := Lib.hid (HB.out.trans (hb6.mono HB.out.size))
      clear hb6 c1
      cases hp : p x with
      | true =>
        have HE : Hid (idxW p l = i) := idxW_hit hlt (by rw [HX.out]; exact hp) HN.out
        clear hp
        go_wp2
        go_ret
        exact ⟨by rw [HE.out]; rfl, HB6.out⟩
      | false =>
        have HN2 : Hid (∀ j (h : j < l.length), j < i + 1 → p l[j] = false) := by
          intro j h hj
          by_cases e : j = i
          · subst e; rw [HX.out]; exact hp
          · exact HN.out j h (by omega)
        clear hp
        go_wp2
        go_roundg (l.length - (i + 1))
        case measure => omega
        case rel => exact ⟨i + 1, by omega, by omega, by go_num, HB6, HN2⟩
    · have hlt' : ¬ (i : Int) < (l.length : Int) := by omega
      have HE : Hid (idxW p l = -1) := idxW_none fun j hj => HN.out j hj (by omega)
      go_wp2
      go_ret
      exact ⟨by rw [HE.out]; rfl, HB.out⟩

set_option maxHeartbeats 1000000 in
theorem containsFuncW (g : Nat) (lb : Array Value) (p : List Int → Bool) (a : Option Addr) (cap : Nat) (l : List (List Int)) (w : World) (eg : ∀ args w, (callFunc g args).run Tryd.prog w = .ok (.enter g args) w)
    (hf : PredW g lb l p w) (hl : Rd AnyB w (.sl (l.map D.ints)) [.slice a l.length cap]) :
    Calls Tryd.prog 6 #[.slice a l.length cap, .func (.func g) #[] lb] w fun e w' => e = .returned (.bool (l.any p)) ∧ Below w.heap.size w w' := by
  have HL := Lib.hid hl
  have HF := Lib.hid hf
  have HG := Lib.hid eg
  clear hl hf eg
  go_enter Tryd.func6, Tryd.ntmps6
  go_wp2_with fail
  refine (indexFuncW g lb p a cap l w HG.out HF.out HL.out).mono ?_
  rintro e w1 ⟨rfl, hb⟩
  have HB := Lib.hid hb
  clear hb
  go_wp2
  go_ret
  exact ⟨by rw [idxW_ge]; rfl, HB.out⟩
end Gs
end Go.Proofs.YthnkgmlhpefldaaDoor
namespace Go.Proofs.YthnkgmlhpefldaaDoor
open Go.RowKit
namespace Gs
open Lg

/-- the words that examples may be -/
def wordOk (T : Int) (l : List (List Int)) : Prop := ∀ u ∈ l, u.length ≤ 5 ∧ ∀ t ∈ u, 0 ≤ t ∧ t < T
theorem has1E (g : Gram) (hck : checkG g = 0) (ra : Option Addr) (rcap : Nat) (gb : Nat) (u : List Int) (n : Nat) (hn : u.length = n) (hu : u.length ≤ 5 ∧ ∀ t ∈ u, 0 ≤ t ∧ t < g.terms) (a : Option Addr) (c : Nat) (w : World)
    (hx : w.heap[gb]? = some (.cells #[.int .i64 g.terms, .int .i64 g.nons, .int .i64 g.start, .slice ra g.rules.length rcap] 25 (0, 0))) (hr : Rd AnyB w (.sl (g.rules.map Rule.d)) [.slice ra g.rules.length rcap]) (hw : Sl w (.slice a n c) (ints u)) (hT : TabG w) :
    Calls Tryd.prog 31 #[.slice a n c, .pointer (some ⟨gb, 0, none⟩)] w fun e w' => e = .returned (.bool (langB g u)) ∧ Below w.heap.size w w' := by
  have HA := Lib.hid (acceptsE g hck ra rcap u n hn (by omega) hu.2 a c w hr hw hT)
  obtain ⟨x0, x1, x2, x3⟩ := bx_cells4 hx
  obtain ⟨lb, HL⟩ := nameIt (langB g u)
  rw [HL.out] at HA
  rw [HL.out]
  obtain ⟨gt, HGT⟩ := nameIt g.terms
  obtain ⟨gn, HGN⟩ := nameIt g.nons
  obtain ⟨gs, HGS⟩ := nameIt g.start
  obtain ⟨rl, HRL⟩ := nameIt g.rules.length
  rw [HGT.out, HGN.out, HGS.out, HRL.out] at HA
  rw [HGT.out] at x0
  rw [HGN.out] at x1
  rw [HGS.out] at x2
  rw [HRL.out] at x3
  clear hx hr hw hT hn hu hck
  go_enter Tryd.func31, Tryd.ntmps31
  go_wp2_with fail
  refine HA.out.mono ?_
  rintro e w1 ⟨rfl, hb1⟩
  have HB := Lib.hid hb1
  clear hb1
  go_wp2_with fail
  go_ret
  exact ⟨rfl, HB.out⟩
theorem has2E (hb : Nat) (gb : Nat) (u : List Int) (n : Nat) (a : Option Addr) (c : Nat) (w : World) (v : Bool) (hc : w.cell? ⟨hb, 0, none⟩ = some (.func (.func 31) #[] #[.pointer (some ⟨gb, 0, none⟩)]))
    (h1 : Calls Tryd.prog 31 #[.slice a n c, .pointer (some ⟨gb, 0, none⟩)] w fun e w' => e = .returned (.bool v) ∧ Below w.heap.size w w') :
    Calls Tryd.prog 33 #[.slice a n c, .pointer (some ⟨hb, 0, none⟩)] w fun e w' => e = .returned (.bool !v) ∧ Below w.heap.size w w' := by
  have H1 := Lib.hid h1
  have eg : ∀ args w, (callFunc 31 args).run Tryd.prog w = .ok (.enter 31 args) w := fun _ _ => by kernel_rfl
  clear h1
  go_enter Tryd.func33, Tryd.ntmps33
  go_wp2_with fail
  refine H1.out.mono ?_
  rintro e w1 ⟨rfl, hb1⟩
  have HB := Lib.hid hb1
  clear hb1
  go_wp2_with fail
  go_ret
  exact ⟨rfl, HB.out⟩
noncomputable def agr (g : Gram) (yes no : List (List Int)) : Bool := !(no.any (langB g)) && !(yes.any fun u => !langB g u)
set_option maxHeartbeats 2000000 in
theorem agrE (g : Gram) (hck : checkG g = 0) (ra : Option Addr) (rcap : Nat) (yes no : List (List Int)) (hyo : wordOk g.terms yes) (hno : wordOk g.terms no) (ya na : Option Addr) (yc nc : Nat) (w : World) (hr : Rd AnyB w (.sl (g.rules.map Rule.d)) [.slice ra g.rules.length rcap])
    (hy : Rd AnyB w (.sl (yes.map D.ints)) [.slice ya yes.length yc]) (hn : Rd AnyB w (.sl (no.map D.ints)) [.slice na no.length nc]) (hT : TabG w) :
    Calls Tryd.prog 16 #[.agg #[.int .i64 g.terms, .int .i64 g.nons, .int .i64 g.start, .slice ra g.rules.length rcap], .slice ya yes.length yc, .slice na no.length nc] w fun e w' => e = .returned (.bool (agr g yes no)) ∧ Below w.heap.size w w' := by
  obtain ⟨w1, HW1⟩ := nameIt ((w.alloc (.cells #[.int .i64 g.terms, .int .i64 g.nons, .int .i64 g.start, .slice ra g.rules.length rcap] 25)).alloc (.cells #[.func (.func 31) #[] #[.pointer (some ⟨w.heap.size, 0, none⟩)]] 36))
  have hb1 : Below w.heap.size w w1 := by rw [← HW1.out]; exact ((Below.refl _ _).alloc (Nat.le_refl _) _).alloc (by simp) _
  have X1 : w1.heap[w.heap.size]? = some (.cells #[.int .i64 g.terms, .int .i64 g.nons, .int .i64 g.start, .slice ra g.rules.length rcap] 25 (0, 0)) := by rw [← HW1.out]; exact bx_keep (bx_new _ _ _ rfl) ((Below.refl _ _).alloc (Nat.le_refl _) _)
  have Y1 : w1.heap[w.heap.size + 1]? = some (.cells #[.func (.func 31) #[] #[.pointer (some ⟨w.heap.size, 0, none⟩)]] 36 (0, 0)) := by rw [← HW1.out]; exact bx_new _ _ _ (by simp)
  have HB1 := Lib.hid hb1
  have h1 : ∀ W (u : List Int) n a c, Below w1.heap.size w1 W → u.length = n → (u.length ≤ 5 ∧ ∀ t ∈ u, 0 ≤ t ∧ t < g.terms) → Sl W (.slice a n c) (ints u) → Calls Tryd.prog 31 #[.slice a n c, .pointer (some ⟨w.heap.size, 0, none⟩)] W fun e w' => e = .returned (.bool (langB g u)) ∧ Below W.heap.size W w' := fun W u n a c hb h2 h3 h4 => has1E g hck ra rcap w.heap.size u n h2 h3 a c W (bx_keep X1 hb) ((hr.below hb1).below hb) h4 ((hT.keep hb1).keep hb)
  have HC1 := Lib.hid (containsFuncW 31 #[.pointer (some ⟨w.heap.size, 0, none⟩)] (langB g) na nc no w1 (fun _ _ => by kernel_rfl) (fun W u n a c hu h2 hb h4 => h1 W u n a c hb h2 (hno u hu) h4) (hn.below hb1))
  have HC2 : Hid (∀ W, Below w1.heap.size w1 W → Calls Tryd.prog 6 #[.slice ya yes.length yc, .func (.func 33) #[] #[.pointer (some ⟨w.heap.size + 1, 0, none⟩)]] W fun e w' => e = .returned (.bool (yes.any fun u => !langB g u)) ∧ Below W.heap.size W w') := fun W hW => containsFuncW 33 #[.pointer (some ⟨w.heap.size + 1, 0, none⟩)] (fun u => !langB g u) ya yc yes W (fun _ _ => by kernel_rfl) (fun W2 u n a c hu h2 hb h4 => has2E (w.heap.size + 1) w.heap.size u n a c W2 (langB g u) (bx_cells1 (bx_keep Y1 (hW.trans (hb.mono hW.size)))) (h1 W2 u n a c (hW.trans (hb.mono hW.size)) h2 (hyo u hu) h4)) ((hy.below hb1).below hW)
  have HAG : Hid (agr g yes no = (!(no.any (langB g)) && !(yes.any fun u => !langB g u))) := rfl
  obtain ⟨ag, HA⟩ := nameIt (agr g yes no)
  obtain ⟨q1, HQ1⟩ := nameIt (no.any (langB g))
  obtain ⟨q2, HQ2⟩ := nameIt (yes.any fun u => !langB g u)
  rw [HA.out, HQ1.out, HQ2.out] at HAG
  rw [HQ1.out] at HC1
  simp only [HQ2.out] at HC2
  rw [HA.out]
  obtain ⟨gt, HGT⟩ := nameIt g.terms
  obtain ⟨gn, HGN⟩ := nameIt g.nons
  obtain ⟨gs, HGS⟩ := nameIt g.start
  obtain ⟨rl, HRL⟩ := nameIt g.rules.length
  rw [HGT.out, HGN.out, HGS.out, HRL.out] at HW1
  rw [HGT.out, HGN.out, HGS.out, HRL.out]
  obtain ⟨yl, HYL⟩ := nameIt yes.length
  obtain ⟨nl, HNL⟩ := nameIt no.length
  simp only [HYL.out] at HC2
  rw [HNL.out] at HC1
  rw [HYL.out, HNL.out]
  have y1 := bx_cells1 Y1
  clear h1 X1 Y1 hb1 hr hy hn hT hyo hno hck
  go_enter Tryd.func16, Tryd.ntmps16
  go_upto_region 2 with fail
  rw [HW1.out]
  go_wp2_with fail
  refine HC1.out.mono ?_
  rintro e w2 ⟨rfl, hb2⟩
  have HB2 := Lib.hid hb2
  clear hb2 HC1 y1
  have HB02 : Hid (Below w.heap.size w w2) := HB1.out.trans (HB2.out.mono HB1.out.size)
  cases q1 with
  | true =>
    have hag : ag = false := HAG.out
    subst hag
    clear HAG
    go_wp2_with fail
    go_ret
    exact ⟨rfl, HB02.out⟩
  | false =>
    have HC3 := Lib.hid (HC2.out w2 HB2.out)
    have hag : ag = !q2 := HAG.out
    have HAG2 := Lib.hid hag
    clear hag HAG HC2
    go_wp2_with fail
    refine HC3.out.mono ?_
    rintro e w3 ⟨rfl, hb3⟩
    have HB3 : Hid (Below w.heap.size w w3) := HB02.out.trans (hb3.mono HB02.out.size)
    clear hb3 HC3
    go_wp2_with fail
    go_ret
    exact ⟨by rw [HAG2.out]; rfl, HB3.out⟩
end Gs
end Go.Proofs.YthnkgmlhpefldaaDoor
namespace Go.Proofs.YthnkgmlhpefldaaDoor
open Go.RowKit
section
variable {P : Program} {md : Region.Mode} {ops : Array Oper} {Q : Exit → Act → World → Prop} {S : World → Prop} {n : Nat}
theorem wpU_3 {i j k : Nat} {o o' o'' : Oper} {f : Nat} {listed : Array Bool} {a : Act} {w : World} (hr : Region.ready md ops listed = [i, j, k]) (ho : ops[i]? = some o) (ho' : ops[j]? = some o') (ho'' : ops[k]? = some o'')
    (h : ∀ K : Act → World → Prop, OnU P md ops Q S n f (listed.setIfInBounds i true) K → if Region.wanted o (yielded ops a.tmps) = true then Oper.wp P o a w K Q else K (a.put o.dst undef) w)
    (h' : ∀ K : Act → World → Prop, OnU P md ops Q S n f (listed.setIfInBounds j true) K → if Region.wanted o' (yielded ops a.tmps) = true then Oper.wp P o' a w K Q else K (a.put o'.dst undef) w)
    (h'' : ∀ K : Act → World → Prop, OnU P md ops Q S n f (listed.setIfInBounds k true) K → if Region.wanted o'' (yielded ops a.tmps) = true then Oper.wp P o'' a w K Q else K (a.put o''.dst undef) w) : wpU P md ops Q S n (f + 1) listed a w := by
  refine ⟨fun h0 => (by rw [hr] at h0; cases h0), fun x hx => ?_⟩
  rw [hr] at hx
  rcases List.mem_cons.1 hx with rfl | hx
  · exact wpOp_step ho (fun K hK => h K (fun a w hS hW => hK a w ⟨hS, hW⟩))
  rcases List.mem_cons.1 hx with rfl | hx
  · exact wpOp_step ho' (fun K hK => h' K (fun a w hS hW => hK a w ⟨hS, hW⟩))
  · obtain rfl : x = k := by simpa using hx
    exact wpOp_step ho'' (fun K hK => h'' K (fun a w hS hW => hK a w ⟨hS, hW⟩))
end
end Go.Proofs.YthnkgmlhpefldaaDoor
