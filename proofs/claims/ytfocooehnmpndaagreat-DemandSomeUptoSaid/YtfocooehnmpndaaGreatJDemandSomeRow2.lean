/- The contract of gram.Check. The comparison of two occurrences, and slices.SortFunc at occurrences. attr.Refs: the closure that gathers the occurrences. Rows of nested data of the call's own: append of one datum, of a slice of data. Append of a slice of data, empty or not, to a row of the call's own that is not empty, at a step of a region that draws its order. Append of a whole row of the call's own to another. copy between slices of elements of several cells, into a block that is known whole. The contract of slices.Insert of one occurrence into a row of the call's own. slices.SortFunc at occurrences. -/
import Derived.Test.YtfocooehnmpndaaGreatJDemandSomeRow1
import Derived.Deep.DeepCutAuto
import Derived.Shelf.SlSortCmp.NoneTotal
import Derived.Shelf.Lay
import Derived.Laws.OwnMore
import Derived.Laws.EntriesVeiled
import Derived.Laws.CopyRow
import Derived.Lib.Overlaps
import Derived.Deep.RegionLaw
import Derived.IntWalk
import Derived.Laws.Externs
import Derived.Ground.SlsfProg
namespace Go.Proofs.YtfocooehnmpndaaGreat
open Go.RowKit
theorem cells4 {W w' : World} (hb : Below W.heap.size W w') {b1 b2 : Nat} {T : TypeId} {a0 a1 c0 c1 : Value} (h1 : W.heap[b1]? = some (.cells #[a0, a1] T (0, 0))) (h2 : W.heap[b2]? = some (.cells #[c0, c1] T (0, 0))) :
    w'.cell? ⟨b1, 0, none⟩ = some a0 ∧ w'.cell? ⟨b1, 0 + 1, none⟩ = some a1 ∧ w'.cell? ⟨b2, 0, none⟩ = some c0 ∧ w'.cell? ⟨b2, 0 + 1, none⟩ = some c1 := by
  obtain ⟨x1, x2⟩ := bx_cells2 (bx_keep h1 hb)
  obtain ⟨x4, x5⟩ := bx_cells2 (bx_keep h2 hb)
  exact ⟨x1, x2, x4, x5⟩
set_option maxHeartbeats 1000000 in
set_option maxRecDepth 100000 in
theorem compareR (x y : Rule) (a a' : Option Addr) (c c' : Nat) (w : World) (hx : Rd AnyB w (.sl (x.right.map Sym.d)) [.slice a x.right.length c]) (hy : Rd AnyB w (.sl (y.right.map Sym.d)) [.slice a' y.right.length c']) :
    Calls Tryz.prog 68 #[.agg #[.int .i64 x.left, .slice a x.right.length c], .agg #[.int .i64 y.left, .slice a' y.right.length c']] w fun e w' => e = .returned (.int .i64 (cmpR x y)) ∧ Below w.heap.size w w' := by
  obtain ⟨lx, HLX⟩ := nameIt x.left
  obtain ⟨ly, HLY⟩ := nameIt y.left
  obtain ⟨nx, HNX⟩ := nameIt x.right.length
  obtain ⟨ny, HNY⟩ := nameIt y.right.length
  obtain ⟨w0, HW0⟩ := nameIt ((w.alloc (.cells #[.int .i64 lx, .slice a nx c] 81)).alloc (.cells #[.int .i64 ly, .slice a' ny c'] 81))
  have HB : Hid (Below w.heap.size w w0) := by rw [← HW0.out]; exact ((Below.refl _ _).alloc (Nat.le_refl _) _).alloc (by simp) _
  have X1 : Hid (w0.heap[w.heap.size]? = some (.cells #[.int .i64 lx, .slice a nx c] 81 (0, 0))) := by
    rw [← HW0.out]; exact bx_keep (bx_new _ _ _ rfl) ((Below.refl _ _).alloc (Nat.le_refl _) _)
  have X2 : Hid (w0.heap[w.heap.size + 1]? = some (.cells #[.int .i64 ly, .slice a' ny c'] 81 (0, 0))) := by
    rw [← HW0.out]; exact bx_new _ _ _ (by simp)
  obtain ⟨q1, HQ1⟩ := nameIt (cmp3 lx ly)
  obtain ⟨q2, HQ2⟩ := nameIt (cmpS x.right y.right)
  have C1 := Lib.hid (fun W => compareInt lx ly W)
  have C2 := Lib.hid (fun W (hb : Below w0.heap.size w0 W) => compareSyms a a' c c' x.right y.right W ((hx.below HB.out).below hb) ((hy.below HB.out).below hb))
  rw [HQ1.out] at C1
  rw [HQ2.out, HNX.out, HNY.out] at C2
  have HR : Hid (cmpR x y = orL [q1, q2]) := by show _ = _; unfold cmpR; rw [HLX.out, HLY.out, HQ1.out, HQ2.out]
  rw [HLX.out, HLY.out, HNX.out, HNY.out]
  obtain ⟨x0, x1⟩ := bx_cells2 X1.out
  obtain ⟨y0, y1⟩ := bx_cells2 X2.out
  clear hx hy
  go_enter Tryz.func68, Tryz.ntmps68
  go_wp2_with fail
  rw [HW0.out]
  go_region_held3 (fun w' => w'.cell? ⟨w.heap.size, 0, none⟩ = some (.int .i64 lx) ∧ w'.cell? ⟨w.heap.size, 0 + 1, none⟩ = some (.slice a nx c) ∧ w'.cell? ⟨w.heap.size + 1, 0, none⟩ = some (.int .i64 ly) ∧ w'.cell? ⟨w.heap.size + 1, 0 + 1, none⟩ = some (.slice a' ny c'))
    (first | exact cells4 (Below.refl _ _).drew X1.out X2.out | exact cells4 (HB2.out.alloc HB2.out.size _) X1.out X2.out | exact cells4 HB2.out X1.out X2.out | fail)
    (first
      | (go_at_call 102; (with_reducible refine (C1.out _).mono ?_); rintro e w' ⟨rfl, rfl⟩)
      | (go_at_call 103; (with_reducible refine (C2.out _ (Below.refl _ _).drew).mono ?_); rintro e w2 ⟨rfl, hb2⟩; have HB2 : Hid (Below w0.heap.size w0 w2) := (Below.refl _ _).drew.trans hb2; clear hb2)
      | (go_at_call 101; (with_reducible refine (orInt _ [q1, q2] _ (sl_lit (v := #[.int .i64 q1, .int .i64 q2]) rfl (of_decide_eq_true rfl))).mono ?_); rintro e w' ⟨rfl, rfl⟩)
      | fail)
  go_wp2_with fail
  go_ret
  have hB := HB.out.trans (HB2.out.mono HB.out.size)
  exact ⟨by rw [HR.out]; rfl, hB.alloc hB.size _⟩
set_option maxHeartbeats 1000000 in
set_option maxRecDepth 100000 in
theorem hasE (g : Gram) (a : Option Addr) (n c : Nat) (s : Sym) (w : World) :
    Calls Tryz.prog 65 #[.agg #[.int .i64 g.terms, .int .i64 g.nons, .int .i64 g.start, .slice a n c], .agg #[.bool s.term, .int .i64 s.n]] w fun e w' => e = .returned (.bool (hasS g s)) ∧ Below w.heap.size w w' := by
  obtain ⟨gt, HGT⟩ := nameIt g.terms
  obtain ⟨gn, HGN⟩ := nameIt g.nons
  obtain ⟨gs, HGS⟩ := nameIt g.start
  obtain ⟨st, HST⟩ := nameIt s.term
  obtain ⟨sn, HSN⟩ := nameIt s.n
  obtain ⟨B, HBn⟩ := nameIt (hasS g s)
  have HV : Hid ((decide (0 ≤ sn) && (st && decide (sn < gt) || !st && decide (sn < gn))) = B) := by show _ = _; rw [← HBn.out]; unfold hasS; rw [HGT.out, HGN.out, HST.out, HSN.out]
  rw [HGT.out, HGN.out, HGS.out, HST.out, HSN.out, HBn.out]
  by_cases h0 : 0 ≤ sn
  · have b0 : decide (0 ≤ sn) = true := by simpa using h0
    cases st with
    | true =>
      by_cases h1 : sn < gt
      · have b1 : decide (sn < gt) = true := by simpa using h1
        obtain rfl : B = true := by rw [← HV.out]; simp [h0, h1]
        clear h0 h1
        go_enter Tryz.func65, Tryz.ntmps65
        go_wp2_with fail
        go_ret
        exact ⟨rfl, ((Below.refl _ _).alloc (Nat.le_refl _) _).alloc (by simp) _⟩
      · have b1 : decide (sn < gt) = false := by simpa using h1
        obtain rfl : B = false := by rw [← HV.out]; simp [h0, h1]
        clear h0 h1
        go_enter Tryz.func65, Tryz.ntmps65
        go_wp2_with fail
        go_ret
        exact ⟨rfl, ((Below.refl _ _).alloc (Nat.le_refl _) _).alloc (by simp) _⟩
    | false =>
      by_cases h1 : sn < gn
      · have b1 : decide (sn < gn) = true := by simpa using h1
        obtain rfl : B = true := by rw [← HV.out]; simp [h0, h1]
        clear h0 h1
        go_enter Tryz.func65, Tryz.ntmps65
        go_wp2_with fail
        go_ret
        exact ⟨rfl, ((Below.refl _ _).alloc (Nat.le_refl _) _).alloc (by simp) _⟩
      · have b1 : decide (sn < gn) = false := by simpa using h1
        obtain rfl : B = false := by rw [← HV.out]; simp [h0, h1]
        clear h0 h1
        go_enter Tryz.func65, Tryz.ntmps65
        go_wp2_with fail
        go_ret
        exact ⟨rfl, ((Below.refl _ _).alloc (Nat.le_refl _) _).alloc (by simp) _⟩
  · have b0 : decide (0 ≤ sn) = false := by simpa using h0
    obtain rfl : B = false := by rw [← HV.out]; simp [h0]
    clear h0
    go_enter Tryz.func65, Tryz.ntmps65
    go_wp2_with fail
    go_ret
    exact ⟨rfl, ((Below.refl _ _).alloc (Nat.le_refl _) _).alloc (by simp) _⟩
set_option maxHeartbeats 1000000 in
theorem hasF (g : Gram) (b : Nat) (a : Option Addr) (n c : Nat) (l : List Sym) (w : World) (hx : w.heap[b]? = some (.cells #[.int .i64 g.terms, .int .i64 g.nons, .int .i64 g.start, .slice a n c] 24 (0, 0))) :
    PredSym 64 #[.pointer (some ⟨b, 0, none⟩)] l (fun s => !hasS g s) w := by
  intro W s _ hb
  have hc := hasE g a n c s
  have hx' := bx_keep hx hb
  obtain ⟨gt, HGT⟩ := nameIt g.terms
  obtain ⟨gn, HGN⟩ := nameIt g.nons
  obtain ⟨gs, HGS⟩ := nameIt g.start
  obtain ⟨st, HST⟩ := nameIt s.term
  obtain ⟨sn, HSN⟩ := nameIt s.n
  obtain ⟨B, HBn⟩ := nameIt (hasS g s)
  rw [HGT.out, HGN.out, HGS.out] at hx'
  rw [HGT.out, HGN.out, HGS.out, HST.out, HSN.out, HBn.out] at hc
  dsimp only
  rw [HST.out, HSN.out, HBn.out]
  obtain ⟨x0, x1, x2, x3⟩ := bx_cells4 hx'
  have hlt := (Array.getElem?_eq_some_iff.1 hx').1
  have HC := Lib.hid hc
  clear hc hx hb hx'
  show Calls _ _ #[_, _] _ _
  go_enter Tryz.func64, Tryz.ntmps64
  go_wp2_with fail
  refine (HC.out _).mono ?_
  rintro e w1 ⟨rfl, hb1⟩
  have hB := (Below.refl W.heap.size W).alloc (Nat.le_refl _) (.cells #[.bool st, .int .i64 sn] 78)
  have HB1 := Lib.hid (hB.trans (hb1.mono hB.size))
  clear hb1 hB x0 x1 x2 x3
  cases B
  all_goals
    go_wp2_with fail
    go_ret
    exact ⟨rfl, HB1.out⟩
set_option maxHeartbeats 1000000 in
theorem sameRF (r : Rule) (b : Nat) (ar : Option Addr) (cr : Nat) (l : List Rule) (w : World) (hx : w.heap[b]? = some (.cells #[.int .i64 r.left, .slice ar r.right.length cr] 81 (0, 0))) (hr : Rd AnyB w (.sl (r.right.map Sym.d)) [.slice ar r.right.length cr]) :
    PredRule 67 #[.pointer (some ⟨b, 0, none⟩)] l (fun x => cmpR x r == 0) w := by
  intro W x v _ hb hv
  obtain ⟨av, cv, rfl, -, -⟩ := hv.form
  rw [List.length_map] at hv ⊢
  have hx' := bx_keep hx hb
  have hc := fun W' (h : Below W.heap.size W W') => compareR x r av ar cv cr W' (hv.below h) ((hr.below hb).below h)
  obtain ⟨lx, HLX⟩ := nameIt x.left
  obtain ⟨nx, HNX⟩ := nameIt x.right.length
  obtain ⟨lr, HLR⟩ := nameIt r.left
  obtain ⟨nr, HNR⟩ := nameIt r.right.length
  obtain ⟨q, HQ⟩ := nameIt (cmpR x r)
  rw [HLX.out, HNX.out, HLR.out, HNR.out, HQ.out] at hc
  rw [HLR.out, HNR.out] at hx'
  dsimp only
  rw [HLX.out, HNX.out, HQ.out]
  obtain ⟨x0, x1⟩ := bx_cells2 hx'
  have hlt := (Array.getElem?_eq_some_iff.1 hx').1
  have HC := Lib.hid hc
  clear hc hx hb hx' hv hr
  show Calls _ _ #[_, _] _ _
  go_enter Tryz.func67, Tryz.ntmps67
  go_wp2_with fail
  refine (HC.out _ ((Below.refl _ _).alloc (Nat.le_refl _) _)).mono ?_
  rintro e w1 ⟨rfl, hb1⟩
  have hB := (Below.refl W.heap.size W).alloc (Nat.le_refl _) (.cells #[.int .i64 lx, .slice av nx cv] 81)
  have HB1 := Lib.hid (hB.trans (hb1.mono hB.size))
  clear hb1 hB x0 x1
  go_wp2_with fail
  go_ret
  exact ⟨rfl, HB1.out⟩
theorem Rd.start {S : Nat → Prop} {w : World} {ds : List D} {a : Option Addr} {n cap i : Nat} (h : Rd S w (.sl ds) [.slice a n cap]) (hi : i ≤ ds.length) : Rd S w (.sl (ds.take i)) [.slice a i cap] := by
  obtain ⟨a', cap', L, e, h1, h2, h3, h4, h5⟩ := h
  simp at e
  obtain ⟨rfl, rfl, rfl⟩ := e
  rw [← List.take_append_drop i ds] at h5
  obtain ⟨c1, c2, rfl, h6, h7⟩ := h5.split
  refine ⟨a, cap, c1, by simp; omega, by simp; omega, h2, h3, fun j hj => ?_, h6⟩
  have := h4 j (by simp; omega)
  rwa [List.getElem_append_left hj] at this
theorem badHead_cases {g : Gram} (h : badHead g = true) : (decide (g.terms < 1) = true) ∨ (decide (g.terms < 1) = false ∧ decide (8 < g.terms) = true) ∨ (decide (g.terms < 1) = false ∧ decide (8 < g.terms) = false ∧ decide (g.nons < 1) = true) ∨ (decide (g.terms < 1) = false ∧ decide (8 < g.terms) = false ∧ decide (g.nons < 1) = false ∧ decide (10 < g.nons) = true) ∨
    (decide (g.terms < 1) = false ∧ decide (8 < g.terms) = false ∧ decide (g.nons < 1) = false ∧ decide (10 < g.nons) = false ∧ decide (g.start < 0) = true) ∨ (decide (g.terms < 1) = false ∧ decide (8 < g.terms) = false ∧ decide (g.nons < 1) = false ∧ decide (10 < g.nons) = false ∧ decide (g.start < 0) = false ∧ decide (g.nons ≤ g.start) = true) := by
  simp [badHead] at h ⊢
  omega
theorem goodHead {g : Gram} (h : ¬ badHead g = true) : decide (g.terms < 1) = false ∧ decide (8 < g.terms) = false ∧ decide (g.nons < 1) = false ∧ decide (10 < g.nons) = false ∧ decide (g.start < 0) = false ∧ decide (g.nons ≤ g.start) = false := by
  simp [badHead] at h ⊢
  omega
set_option maxHeartbeats 4000000 in
set_option maxRecDepth 100000 in
theorem checkE (g : Gram) (ar : Option Addr) (cr : Nat) (w : World) (hr : Rd AnyB w (.sl (g.rules.map Rule.d)) [.slice ar g.rules.length cr]) :
    Calls Tryz.prog 31 #[.agg #[.int .i64 g.terms, .int .i64 g.nons, .int .i64 g.start, .slice ar g.rules.length cr]] w fun e w' => e = .returned (.int .i64 (checkG g)) ∧ Below w.heap.size w w' := by
  have hbs := hr.bounds.2
  unfold maxLen at hbs
  obtain ⟨hc1, hc2⟩ := hbs
  obtain ⟨gt, HGT⟩ := nameIt g.terms
  obtain ⟨gn, HGN⟩ := nameIt g.nons
  obtain ⟨gs, HGS⟩ := nameIt g.start
  obtain ⟨K, HK⟩ := nameIt g.rules
  have HBC := Lib.hid (@badHead_cases g)
  have HGH := Lib.hid (@goodHead g)
  rw [HGT.out, HGN.out, HGS.out] at HBC HGH
  obtain ⟨w0, HW0⟩ := nameIt (w.alloc (.cells #[.int .i64 gt, .int .i64 gn, .int .i64 gs, .slice ar K.length cr] 24))
  have HB0 : Hid (Below w.heap.size w w0) := by rw [← HW0.out]; exact (Below.refl _ _).alloc (Nat.le_refl _) _
  have X1 : Hid (w0.heap[w.heap.size]? = some (.cells #[.int .i64 gt, .int .i64 gn, .int .i64 gs, .slice ar K.length cr] 24 (0, 0))) := by rw [← HW0.out]; exact bx_new _ _ _ rfl
  have HR := Lib.hid (hr.below HB0.out)
  rw [HK.out] at HR hc1
  rw [HGT.out, HGN.out, HGS.out, HK.out]
  obtain ⟨x0, x1, x2, x3⟩ := bx_cells4 X1.out
  clear hr
  by_cases hbad : badHead g = true
  · have HE : Hid (checkG g = 1) := by show _ = _; simp [checkG, hbad]
    rcases HBC.out hbad with h1 | ⟨h1, h2⟩ | ⟨h1, h2, h3⟩ | ⟨h1, h2, h3, h4⟩ | ⟨h1, h2, h3, h4, h5⟩ | ⟨h1, h2, h3, h4, h5, h6⟩
    all_goals
      clear hbad
      go_enter Tryz.func31, Tryz.ntmps31
      go_upto_region 1 with fail
      rw [HW0.out]
      go_wp2_with fail
      go_ret
      exact ⟨by rw [HE.out]; rfl, HB0.out⟩
  · obtain ⟨h1, h2, h3, h4, h5, h6⟩ := HGH.out hbad
    have HBD := Lib.hid hbad
    clear hbad
    by_cases hlen : 32 < K.length
    · have HE : Hid (checkG g = 2) := by show _ = _; rw [checkG, if_neg HBD.out, HK.out, if_pos hlen]
      have hlen' : (32 : Int) < (K.length : Int) := by omega
      go_enter Tryz.func31, Tryz.ntmps31
      go_upto_region 1 with fail
      rw [HW0.out]
      go_wp2_with fail
      go_ret
      exact ⟨by rw [HE.out]; rfl, HB0.out⟩
    · have HE : Hid (checkG g = faultsFrom g 0 K) := by show _ = _; rw [checkG, if_neg HBD.out, HK.out, if_neg hlen]
      have hlen' : ¬ (32 : Int) < (K.length : Int) := by omega
      go_enter Tryz.func31, Tryz.ntmps31
      go_upto_region 1 with fail
      rw [HW0.out]
      go_wp2_with fail
      clear h1 h2 h3 h4 h5 h6 x0 x1 x2 x3
      go_loopg [42] K.length (fun gg v42 wr => ∃ i : Nat, i ≤ K.length ∧ K.length - i ≤ gg ∧ v42 = .int .i64 i ∧ Hid (Below w0.heap.size w0 wr) ∧ Hid (faultsFrom g i (K.drop i) = faultsFrom g 0 K))
      case atStart => exact ⟨0, by omega, by omega, rfl, Below.refl _ _, rfl⟩
      case round =>
        obtain ⟨i, hi, hg, rfl, HB, HF⟩ := hrel
        by_cases hlt : i < K.length
        · have hlt' : (i : Int) < (K.length : Int) := by omega
          have hiK : (i : Int) ≤ (cr : Int) := by omega
          obtain ⟨b, off, vr, hae, -, hbl, c0, c1, hkr⟩ := (HR.out.below HB.out).rule_at hlt
          obtain ⟨av, cv, rfl, -, hcv⟩ := hkr.form
          rw [List.length_map] at c1 hkr
          have h1 := HF.out
          have hrl : i < g.rules.length := by rw [HK.out]; exact hlt
          rw [← HK.out, faultsFrom_at hrl] at h1
          simp only [HK.out] at h1
          obtain ⟨r, HRn⟩ := nameIt (K[i]'hlt)
          rw [HRn.out] at c0 c1 hkr h1
          have hbl2 : b < wr.heap.size := hbl
          obtain ⟨w4, HW4⟩ := nameIt (wr.alloc (.cells #[.int .i64 r.left, .slice av r.right.length cv] 81))
          have hb4 : Below wr.heap.size wr w4 := by rw [← HW4.out]; exact (Below.refl _ _).alloc (Nat.le_refl _) _
          have X4 : Hid (w4.heap[wr.heap.size]? = some (.cells #[.int .i64 r.left, .slice av r.right.length cv] 81 (0, 0))) := by rw [← HW4.out]; exact bx_new _ _ _ rfl
          have HB4 := Lib.hid (HB.out.trans (hb4.mono HB.out.size))
          have HKR := Lib.hid (hkr.below hb4)
          have X1' := Lib.hid (bx_keep X1.out HB4.out)
          have HX1 := X1'
          rw [← HGT.out, ← HGN.out, ← HGS.out] at HX1
          have PS := Lib.hid (hasF g w.heap.size ar K.length cr r.right w4 HX1.out)
          have CS := Lib.hid (containsFuncSym 64 #[.pointer (some ⟨w.heap.size, 0, none⟩)] (fun s => !hasS g s) av cv r.right w4 (fun _ _ => by kernel_rfl) PS.out HKR.out)
          have htl : (K.take i).length = i := by simp; omega
          have hst : ∀ W, Below w4.heap.size w4 W → Rd AnyB W (.sl ((K.take i).map Rule.d)) [.slice ar (K.take i).length cr] := by
            intro W hb
            have h2 := (((HR.out.below HB4.out).below hb).start (i := i) (by simp; omega))
            rw [← List.map_take] at h2
            rw [htl]; exact h2
          have CRR := Lib.hid (fun W (hb : Below w4.heap.size w4 W) => containsFuncRule 67 #[.pointer (some ⟨wr.heap.size, 0, none⟩)] (fun x => cmpR x r == 0) ar cr (K.take i) W (fun _ _ => by kernel_rfl) (sameRF r wr.heap.size av cv (K.take i) W (bx_keep X4.out hb) (HKR.out.below hb)) (hst W hb))
          rw [htl] at CRR
          obtain ⟨lf, HLF⟩ := nameIt r.left
          obtain ⟨rn, HRNn⟩ := nameIt r.right.length
          obtain ⟨A1, HA1⟩ := nameIt (r.right.any fun s => !hasS g s)
          obtain ⟨A2, HA2⟩ := nameIt ((K.take i).any fun x => cmpR x r == 0)
          have hfr : faultR g i r = if lf < 0 ∨ gn ≤ lf then 3 else if 4 < rn then 2 else if A1 then 3 else if A2 then 6 else 0 := by
            unfold faultR; rw [HLF.out, HGN.out, HRNn.out, HA1.out, HK.out, HA2.out]
          rw [HLF.out] at c0 HW4
          rw [HRNn.out] at c1 HW4 CS
          rw [HA1.out] at CS
          simp only [HA2.out] at CRR
          have X4' := X4
          rw [HLF.out, HRNn.out] at X4'
          obtain ⟨y0, y1⟩ := bx_cells2 X4'.out
          obtain ⟨x0, x1, x2, x3⟩ := bx_cells4 X1'.out
          have hl4 : wr.heap.size < w4.heap.size := (Array.getElem?_eq_some_iff.1 X4'.out).1
          have hl1 : w.heap.size < w4.heap.size := (Array.getElem?_eq_some_iff.1 X1'.out).1
          have HFR := Lib.hid hfr
          have H1 := Lib.hid h1
          have hrn : (rn : Int) ≤ 9223372036854775807 := by have := HKR.out.bounds.2; rw [HRNn.out] at this; unfold maxLen at this hcv; omega
          subst hae
          clear hkr hb4 h1 hfr htl hst
          by_cases ha : lf < 0 ∨ gn ≤ lf
          · have hf : faultR g i r = 3 := by rw [HFR.out, if_pos ha]
            have HE2 : Hid (faultsFrom g 0 K = 3) := by show _ = _; rw [← H1.out, hf, if_neg (by decide)]
            have ha' : (decide (lf < 0) = true) ∨ (decide (lf < 0) = false ∧ decide (gn ≤ lf) = true) := by simp; omega
            clear hf ha
            rcases ha' with k1 | ⟨k1, k2⟩
            all_goals
              go_upto_region 8 with fail
              rw [HW4.out]
              go_wp2_with fail
              go_ret
              exact ⟨by rw [HE.out, HE2.out]; rfl, HB0.out.trans (HB4.out.mono HB0.out.size)⟩
          · have k1 : decide (lf < 0) = false := by simp; omega
            have k2 : decide (gn ≤ lf) = false := by simp; omega
            have HFa : Hid (faultR g i r = if 4 < rn then 2 else if A1 then 3 else if A2 then 6 else 0) := by show _ = _; rw [HFR.out, if_neg ha]
            clear ha HFR
            by_cases hb : 4 < rn
            · have k3 : (4 : Int) < (rn : Int) := by omega
              have hf : faultR g i r = 2 := by rw [HFa.out, if_pos hb]
              have HE2 : Hid (faultsFrom g 0 K = 2) := by show _ = _; rw [← H1.out, hf, if_neg (by decide)]
              clear hf
              go_upto_region 8 with fail
              rw [HW4.out]
              go_wp2_with fail
              go_ret
              exact ⟨by rw [HE.out, HE2.out]; rfl, HB0.out.trans (HB4.out.mono HB0.out.size)⟩
            · have k3 : ¬ (4 : Int) < (rn : Int) := by omega
              have HFb : Hid (faultR g i r = if A1 then 3 else if A2 then 6 else 0) := by show _ = _; rw [HFa.out, if_neg hb]
              clear HFa
              go_upto_region 8 with fail
              rw [HW4.out]
              go_wp2_with fail
              refine CS.out.mono ?_
              rintro e w5 ⟨rfl, hb5⟩
              have HB45 := Lib.hid hb5
              have HB5 := Lib.hid (HB4.out.trans (hb5.mono HB4.out.size))
              obtain ⟨x0, x1, x2, x3⟩ := bx_cells4 (bx_keep X1'.out hb5)
              have hl15 : w.heap.size < w5.heap.size := (Array.getElem?_eq_some_iff.1 (bx_keep X1'.out hb5)).1
              clear hb5 y0 y1
              cases A1 with
              | true =>
                have hf : faultR g i r = 3 := by rw [HFb.out, if_pos rfl]
                have HE2 : Hid (faultsFrom g 0 K = 3) := by show _ = _; rw [← H1.out, hf, if_neg (by decide)]
                clear hf
                go_wp2_with fail
                go_ret
                exact ⟨by rw [HE.out, HE2.out]; rfl, HB0.out.trans (HB5.out.mono HB0.out.size)⟩
              | false =>
                go_wp2_with fail
                refine (CRR.out _ HB45.out).mono ?_
                rintro e w6 ⟨rfl, hb6⟩
                have HB6 := Lib.hid (HB5.out.trans (hb6.mono HB5.out.size))
                clear hb6 x0 x1 x2 x3
                cases A2 with
                | true =>
                  have hf : faultR g i r = 6 := by rw [HFb.out]; rfl
                  have HE2 : Hid (faultsFrom g 0 K = 6) := by show _ = _; rw [← H1.out, hf, if_neg (by decide)]
                  clear hf
                  go_wp2_with fail
                  go_ret
                  exact ⟨by rw [HE.out, HE2.out]; rfl, HB0.out.trans (HB6.out.mono HB0.out.size)⟩
                | false =>
                  have hf : faultR g i r = 0 := by rw [HFb.out]; rfl
                  have HE2 : Hid (faultsFrom g (i + 1) (K.drop (i + 1)) = faultsFrom g 0 K) := by show _ = _; rw [← H1.out, hf, if_pos rfl]
                  clear hf
                  go_wp2_with fail
                  go_roundg (K.length - (i + 1))
                  case measure => omega
                  case rel => exact ⟨i + 1, by omega, by omega, by go_num, HB6, HE2⟩
        · have hlt' : ¬ (i : Int) < (K.length : Int) := by omega
          have HE2 : Hid (faultsFrom g 0 K = 0) := by show _ = _; rw [← HF.out, List.drop_of_length_le (by omega)]; rfl
          go_wp2_with fail
          go_ret
          exact ⟨by rw [HE.out, HE2.out]; rfl, HB0.out.trans (HB.out.mono HB0.out.size)⟩
end Go.Proofs.YtfocooehnmpndaaGreat
namespace Go.Proofs.YtfocooehnmpndaaGreat
open Go.RowKit
namespace At
def cmpRef (x y : Ref) : Int := orL [cmp3 x.at' y.at', cmp3 x.attr y.attr]
set_option maxHeartbeats 1000000 in
set_option maxRecDepth 100000 in
theorem refCmpE (x y : Ref) (w : World) :
    Calls Tryz.prog 125 #[.agg #[.int .i64 x.at', .int .i64 x.attr], .agg #[.int .i64 y.at', .int .i64 y.attr]] w fun e w' => e = .returned (.int .i64 (cmpRef x y)) ∧ ∃ q os', w' = Go.Sort.grow (w.drewN q) os' := by
  obtain ⟨xa, HXA⟩ := nameIt x.at'
  obtain ⟨xi, HXI⟩ := nameIt x.attr
  obtain ⟨ya, HYA⟩ := nameIt y.at'
  obtain ⟨yi, HYI⟩ := nameIt y.attr
  obtain ⟨w0, HW0⟩ := nameIt ((w.alloc (.cells #[.int .i64 xa, .int .i64 xi] 83)).alloc (.cells #[.int .i64 ya, .int .i64 yi] 83))
  have HWG : Hid (∃ os', w0 = Go.Sort.grow w os') := ⟨_, by rw [← HW0.out, Go.Sort.alloc_eq_grow, Go.Sort.alloc_eq_grow, Go.Sort.grow_grow]⟩
  have HB : Hid (Below w.heap.size w w0) := by rw [← HW0.out]; exact ((Below.refl _ _).alloc (Nat.le_refl _) _).alloc (by simp) _
  have X1 : Hid (w0.heap[w.heap.size]? = some (.cells #[.int .i64 xa, .int .i64 xi] 83 (0, 0))) := by
    rw [← HW0.out]; exact bx_keep (bx_new _ _ _ rfl) ((Below.refl _ _).alloc (Nat.le_refl _) _)
  have X2 : Hid (w0.heap[w.heap.size + 1]? = some (.cells #[.int .i64 ya, .int .i64 yi] 83 (0, 0))) := by
    rw [← HW0.out]; exact bx_new _ _ _ (by simp)
  obtain ⟨q1, HQ1⟩ := nameIt (cmp3 xa ya)
  obtain ⟨q2, HQ2⟩ := nameIt (cmp3 xi yi)
  have C1 := Lib.hid (fun W => compareInt xa ya W)
  have C2 := Lib.hid (fun W => compareInt xi yi W)
  rw [HQ1.out] at C1
  rw [HQ2.out] at C2
  have HR : Hid (cmpRef x y = orL [q1, q2]) := by show _ = _; unfold cmpRef; rw [HXA.out, HYA.out, HXI.out, HYI.out, HQ1.out, HQ2.out]
  rw [HXA.out, HXI.out, HYA.out, HYI.out]
  obtain ⟨x0, x1⟩ := bx_cells2 X1.out
  obtain ⟨y0, y1⟩ := bx_cells2 X2.out
  go_enter Tryz.func125, Tryz.ntmps125
  go_wp2_with fail
  rw [HW0.out]
  go_region_held3 (fun w' => w'.cell? ⟨w.heap.size, 0, none⟩ = some (.int .i64 xa) ∧ w'.cell? ⟨w.heap.size, 0 + 1, none⟩ = some (.int .i64 xi) ∧ w'.cell? ⟨w.heap.size + 1, 0, none⟩ = some (.int .i64 ya) ∧ w'.cell? ⟨w.heap.size + 1, 0 + 1, none⟩ = some (.int .i64 yi))
    (first | exact cells4 (Below.refl _ _).drew X1.out X2.out | exact cells4 ((Below.refl _ _).drew.alloc (Nat.le_refl _) _) X1.out X2.out | fail)
    (first
      | (go_at_call 102; (with_reducible refine (C1.out _).mono ?_); rintro e w' ⟨rfl, rfl⟩)
      | (go_at_call 102; (with_reducible refine (C2.out _).mono ?_); rintro e w' ⟨rfl, rfl⟩)
      | (go_at_call 101; (with_reducible refine (orInt _ [q1, q2] _ (sl_lit (v := #[.int .i64 q1, .int .i64 q2]) rfl (of_decide_eq_true rfl))).mono ?_); rintro e w' ⟨rfl, rfl⟩)
      | fail)
  go_wp2_with fail
  go_ret
  obtain ⟨os, ho⟩ := HWG.out
  exact ⟨by rw [HR.out]; rfl, 1, os ++ _, by rw [ho, Go.Sort.alloc_eq_grow, ← Go.Sort.grow_grow]; rfl⟩
end At
end Go.Proofs.YtfocooehnmpndaaGreat
namespace Go.Proofs.YtfocooehnmpndaaGreat
open Go.RowKit
namespace At
def refC (l : List Ref) : List Value := l.flatMap fun x => [.int .i64 x.at', .int .i64 x.attr]
theorem refC_append (a b : List Ref) : refC (a ++ b) = refC a ++ refC b := by simp [refC]
theorem refC_len : ∀ l : List Ref, (refC l).length = l.length * 2
  | [] => rfl
  | x :: l => by rw [show x :: l = [x] ++ l from rfl, refC_append, List.length_append, refC_len l]; simp [refC]; omega
theorem elRef : ElemT Tryz.prog 159 83 2 16 := ElemT.mk' (z := .agg #[.int .i64 0, .int .i64 0]) Tryz.underlying159 (by kernel_rfl) rfl (by decide)
def refsOf (x : Expr) : List Ref := ((enodes x).filter fun y => y.kind == 1).map Expr.ref
def refsL (l : List Expr) : List Ref := ((enodesL l).filter fun y => y.kind == 1).map Expr.ref
def own1 (x : Expr) : List Ref := if x.kind = 1 then [x.ref] else []
theorem refsOf_eq (x : Expr) : refsOf x = own1 x ++ refsL x.args := by
  unfold refsOf own1 refsL
  rw [enodes_eq, List.filter_cons]
  by_cases h : x.kind = 1
  · simp [h]
  · simp [h]
theorem refsL_take {l : List Expr} {i : Nat} (h : i < l.length) : refsL (l.take (i + 1)) = refsL (l.take i) ++ refsOf l[i] := by
  unfold refsL refsOf
  rw [enodesL_take h, List.filter_append, List.map_append]
theorem refsOf_len (x : Expr) : (refsOf x).length ≤ x.size := by
  unfold refsOf
  rw [List.length_map, ← enodes_len]
  exact List.length_filter_le _ _
theorem refsL_len (l : List Expr) : (refsL l).length ≤ sizeL l := by
  unfold refsL
  rw [List.length_map, ← enodesL_len]
  exact List.length_filter_le _ _
structure RfI (w0 : World) (ob vb B : Nat) (L : List Ref) (u : Value) (W : World) : Prop where
  bel : Below w0.heap.size w0 W
  lo : w0.heap.size ≤ ob ∧ w0.heap.size ≤ vb ∧ ob < B ∧ vb < B ∧ ob ≠ vb ∧ B ≤ W.heap.size ∧ w0.heap.size ≤ B
  obox : W.heap[ob]? = some (.cells #[u] 159 (0, 0))
  vbox : W.heap[vb]? = some (.cells #[.func (.func 123) #[] #[.pointer (some ⟨ob, 0, none⟩), .pointer (some ⟨vb, 0, none⟩)]] 199 (0, 0))
  own : W.ownsRow B 83 2 u L.length (refC L)
theorem RfI.keep {w0 : World} {ob vb B : Nat} {L : List Ref} {u : Value} {W W' : World} (h : RfI w0 ob vb B L u W) (hb : Below W.heap.size W W') : RfI w0 ob vb B L u W' :=
  ⟨h.bel.trans (hb.mono h.bel.size), by have := h.lo; have := hb.size; omega, bx_keep h.obox hb, bx_keep h.vbox hb, own_keep h.own hb⟩
theorem RfI.app {w0 : World} {ob vb B : Nat} {L : List Ref} {u u' : Value} {W W0 W1 : World} {x : Ref} (h : RfI w0 ob vb B L u W) (hb : Below W.heap.size W W0)
    (ho : W1.ownsRow B 83 2 u' (L.length + 1) (refC L ++ [.int .i64 x.at', .int .i64 x.attr])) (hg : W0.grownBy W1 u.ownBlock) : RfI w0 ob vb B (L ++ [x]) u' (W1.setCell ⟨ob, 0, none⟩ u') := by
  have hl := h.lo
  have hk := h.keep hb
  have hne : ∀ k, k < B → u.ownBlock ≠ some k := fun k hk e => by have := (h.own.lt _ e).1; omega
  have hne' : ∀ k, k < B → u'.ownBlock ≠ some k := fun k hk e => by have := (ho.lt _ e).1; omega
  have hs := hb.size
  have hs2 := hg.size
  have hbel : Below w0.heap.size w0 W1 := hk.bel.grown hg hk.bel.size (fun k e => by have := (h.own.lt k e).1; omega)
  have g : ∀ {k : Nat} {o : Obj}, k < B → W0.heap[k]? = some o → W1.heap[k]? = some o := fun {k o} hk e => by rw [hg.block k (by omega) (fun e => hne k hk e.symm)]; exact e
  refine ⟨hbel.setCell (by simp; omega) _, by simp [World.setCell]; omega, ?_, bx_other (g (by omega) hk.vbox) (by omega) _ _, ?_⟩
  · rw [bx_set (g (by omega) hk.obox)]; rfl
  · rw [refC_append, List.length_append]
    exact ownsRow_setCell_other ho (fun e => hne' _ (by simp; omega) e) _
set_option maxHeartbeats 4000000 in
set_option maxRecDepth 100000 in
theorem gatherE (w0 : World) (ob vb B : Nat) : ∀ (m : Nat) (x : Expr) (v : Value) (L : List Ref) (u : Value) (W : World), x.size ≤ m → RfI w0 ob vb B L u W → Rd AnyB w0 (.sl (x.args.map Expr.d)) [v] → L.length + x.size ≤ 1048576 →
      Calls Tryz.prog 123 #[.agg #[.int .i64 x.kind, .int .i64 x.n, .int .i64 x.ref.at', .int .i64 x.ref.attr, v], .pointer (some ⟨ob, 0, none⟩), .pointer (some ⟨vb, 0, none⟩)] W fun e W' => e = .returned (.tuple #[]) ∧ ∃ u', RfI w0 ob vb B (L ++ refsOf x) u' W' := by
  intro m
  induction m with
  | zero => intro x v L u W hm; have := x.size_pos; omega
  | succ m ih =>
  intro x v L u W hm hI hv hN
  obtain ⟨a, cap, rfl, hc1, hc2⟩ := hv.form
  rw [List.length_map] at hc1 hv ⊢
  unfold maxLen at hc2
  have HV := Lib.hid hv
  have HI := Lib.hid hI
  have IH := Lib.hid ih
  have HM := Lib.hid hm
  have HN := Lib.hid hN
  have HSZ := Lib.hid x.size_eq
  have HRE := Lib.hid (refsOf_eq x)
  have HO1 : Hid (own1 x = if x.kind = 1 then [x.ref] else []) := rfl
  obtain ⟨K, HKN⟩ := nameIt x.args
  rw [HKN.out] at hc1 HV HSZ HRE ⊢
  obtain ⟨au, cu, rfl, hu1, hu2⟩ := own_len hI.own
  unfold maxLen at hu2
  have hlen : L.length < 1048576 := by have := x.size_pos; omega
  obtain ⟨W0, HW0⟩ := nameIt (W.alloc (.cells #[.int .i64 x.kind, .int .i64 x.n, .int .i64 x.ref.at', .int .i64 x.ref.attr, .slice a K.length cap] 86))
  have hb0 : Below W.heap.size W W0 := by rw [← HW0.out]; exact (Below.refl _ _).alloc (Nat.le_refl _) _
  have X0 : Hid (W0.heap[W.heap.size]? = some (.cells #[.int .i64 x.kind, .int .i64 x.n, .int .i64 x.ref.at', .int .i64 x.ref.attr, .slice a K.length cap] 86 (0, 0))) := by rw [← HW0.out]; exact bx_new _ _ _ rfl
  have HI0 := Lib.hid (hI.keep hb0)
  obtain ⟨q0, HQ0⟩ := nameIt x.kind
  obtain ⟨q1, HQ1⟩ := nameIt x.n
  obtain ⟨q2, HQ2⟩ := nameIt x.ref.at'
  obtain ⟨q3, HQ3⟩ := nameIt x.ref.attr
  rw [HQ0.out] at HO1
  rw [HQ0.out, HQ1.out, HQ2.out, HQ3.out] at X0 HW0 ⊢
  have HLO := Lib.hid hI.lo
  have HWS : Hid (W.heap.size < W0.heap.size) := (Array.getElem?_eq_some_iff.1 X0.out).1
  have HRX := Lib.hid (show (x.ref : Ref) = ⟨q2, q3⟩ by rw [← HQ2.out, ← HQ3.out])
  obtain ⟨x0, x1, x2, x3, x4⟩ := bx_cells5 X0.out
  have c0 := bx_cells1 HI0.out.obox
  have f0 := bx_free1 HI0.out.obox
  have hob0 : ob < W0.heap.size := (Array.getElem?_eq_some_iff.1 HI0.out.obox).1
  obtain ⟨O1, HOO⟩ := nameIt (own1 x)
  rw [HOO.out] at HO1 HRE
  clear hv hI ih hm hN hb0
  go_enter Tryz.func123, Tryz.ntmps123
  go_upto_region 1 with fail
  rw [HW0.out]
  go_upto_if 8 with fail
  go_cut [] (fun wx => Hid ((∃ u, RfI w0 ob vb B (L ++ O1) u wx) ∧ wx.heap[W.heap.size]? = some (.cells #[.int .i64 q0, .int .i64 q1, .int .i64 q2, .int .i64 q3, .slice a K.length cap] 86 (0, 0))))
  case first =>
    by_cases hk1 : q0 = 1
    · have HO2 : Hid (O1 = [⟨q2, q3⟩]) := by show _ = _; rw [HO1.out, if_pos hk1, HRX.out]
      subst hk1
      go_wp2_with (at_builtin; refine wp_app1at elRef rfl _ _ rfl HI0.out.own rfl rfl (by simp) rfl rfl (by omega) (by unfold maxLen; omega) (by have := HI0.out.lo; omega) ?_)
      intro v' w' ho hg hat
      have HI1 := Lib.hid (HI0.out.app (x := ⟨q2, q3⟩) (Below.refl _ _) ho hg)
      obtain ⟨av', cv', rfl, -, -⟩ := own_len ho
      have hon : (Value.slice au L.length cu).ownBlock ≠ some ob := fun e => by have := (HI0.out.own.lt _ e).1; have := HLO.out; omega
      have hobx : w'.heap[ob]? = some (.cells #[.slice au L.length cu] 159 (0, 0)) := by rw [hg.block ob hob0 (fun e => hon e.symm)]; exact HI0.out.obox
      have g0 := bx_cells1 hobx
      have g1f := bx_free1 hobx
      have hWn : (Value.slice au L.length cu).ownBlock ≠ some W.heap.size := fun e => by have := (HI.out.own.lt _ e).2; omega
      have htx : Hid (w'.heap[W.heap.size]? = some (.cells #[.int .i64 1, .int .i64 q1, .int .i64 q2, .int .i64 q3, .slice a K.length cap] 86 (0, 0))) := by show _ = _; rw [hg.block W.heap.size HWS.out (fun e => hWn e.symm)]; exact X0.out
      have HNB : Hid (W.heap.size ≠ ob) := by have := HLO.out; show _ ≠ _; omega
      clear ho hg hat c0 f0 hon hWn hobx
      go_wp2_with fail
      go_meet
      case rel =>
        have h2 := bx_other htx.out HNB.out 0 (.slice av' (L.length + 1) cv')
        refine ⟨⟨.slice av' (L.length + 1) cv', ?_⟩, h2⟩
        rw [HO2.out]
        exact HI1.out
    · have hkb : (q0 == 1) = false := by simpa using hk1
      have HO2 : Hid (O1 = []) := by show _ = _; rw [HO1.out, if_neg hk1]
      clear hk1
      go_wp2_with fail
      go_meet
      case rel =>
        refine ⟨⟨.slice au L.length cu, ?_⟩, X0.out⟩
        rw [HO2.out, List.append_nil]
        exact HI0.out
  case rest =>
    clear x0 x1 x2 x3 x4 c0 f0
    have HI2 := Lib.hid hcut.out.1
    have HX2 := Lib.hid hcut.out.2
    clear hcut
    obtain ⟨x0, x1, x2, x3, x4⟩ := bx_cells5 HX2.out
    have HR0 : Hid (∃ u, RfI w0 ob vb B (L ++ O1 ++ refsL (K.take 0)) u wc) := by
      obtain ⟨u, hu⟩ := HI2.out
      exact ⟨u, by simpa [refsL, enodesL] using hu⟩
    go_wp2_with fail
    clear x0 x1 x2 x3 x4
    go_loopg [17] K.length (fun gg v17 wr => ∃ (i : Nat), i ≤ K.length ∧ K.length - i ≤ gg ∧ v17 = .int .i64 i ∧ Hid (∃ u, RfI w0 ob vb B (L ++ O1 ++ refsL (K.take i)) u wr))
    case atStart => exact ⟨0, by omega, by omega, rfl, HR0⟩
    case round =>
      clear HR0 HI2 HX2
      obtain ⟨i, hi, hg, rfl, HR⟩ := hrel
      by_cases hlt : i < K.length
      · have hlt' : (i : Int) < (K.length : Int) := by omega
        obtain ⟨b, off, v, hae, -, hbl, e0, e1, e2, e3, e4, hkid⟩ := Rd.arg HV.out hlt
        obtain ⟨av, cv, rfl, -, -⟩ := hkid.form
        rw [List.length_map] at e4 hkid
        obtain ⟨uu, hPI⟩ := HR.out
        have hbel := hPI.bel
        have e0 := (hbel.cell (p := ⟨b, off + i * 5, none⟩) hbl).trans e0
        have e1 := (hbel.cell (p := ⟨b, off + i * 5 + 1, none⟩) hbl).trans e1
        have e2 := (hbel.cell (p := ⟨b, off + i * 5 + 2, none⟩) hbl).trans e2
        have e3 := (hbel.cell (p := ⟨b, off + i * 5 + 3, none⟩) hbl).trans e3
        have e4 := (hbel.cell (p := ⟨b, off + i * 5 + 4, none⟩) hbl).trans e4
        have hks := sizeL_kid hlt
        have hms : K[i].size ≤ m := by
          have h1 := HM.out
          rw [HSZ.out] at h1
          omega
        have hnn : (L ++ O1 ++ refsL (K.take i)).length + K[i].size ≤ 1048576 := by
          have h1 := HN.out
          have h2 := refsL_len (K.take i)
          have h3 : O1.length ≤ 1 := by rw [HO1.out]; split <;> simp
          rw [HSZ.out] at h1
          simp only [List.length_append]
          omega
        obtain ⟨w3, HW3⟩ := nameIt (wr.alloc (.cells #[.int .i64 K[i].kind, .int .i64 K[i].n, .int .i64 K[i].ref.at', .int .i64 K[i].ref.attr, .slice av K[i].args.length cv] 86))
        have hb3 : Below wr.heap.size wr w3 := by rw [← HW3.out]; exact (Below.refl _ _).alloc (Nat.le_refl _) _
        have X3 : Hid (w3.heap[wr.heap.size]? = some (.cells #[.int .i64 K[i].kind, .int .i64 K[i].n, .int .i64 K[i].ref.at', .int .i64 K[i].ref.attr, .slice av K[i].args.length cv] 86 (0, 0))) := by rw [← HW3.out]; exact bx_new _ _ _ rfl
        have hih := IH.out K[i] _ _ _ _ hms (hPI.keep hb3) hkid hnn
        have hvx := bx_cells1 (bx_keep hPI.vbox hb3)
        have HST : Hid (∀ u' W', RfI w0 ob vb B ((L ++ O1 ++ refsL (K.take i)) ++ refsOf K[i]) u' W' → ∃ u, RfI w0 ob vb B (L ++ O1 ++ refsL (K.take (i + 1))) u W') := by
          intro u' W' h
          refine ⟨u', ?_⟩
          rw [refsL_take hlt]
          simpa [List.append_assoc] using h
        obtain ⟨kid, HKI⟩ := nameIt (K[i]'hlt)
        rw [HKI.out] at e0 e1 e2 e3 e4 hih HST X3 HW3
        obtain ⟨p0, HP0⟩ := nameIt kid.kind
        obtain ⟨p1, HP1⟩ := nameIt kid.n
        obtain ⟨p2, HP2⟩ := nameIt kid.ref.at'
        obtain ⟨p3, HP3⟩ := nameIt kid.ref.attr
        obtain ⟨pn, HPN⟩ := nameIt kid.args.length
        rw [HP0.out, HP1.out, HP2.out, HP3.out, HPN.out] at hih X3 HW3
        rw [HP0.out] at e0
        rw [HP1.out] at e1
        rw [HP2.out] at e2
        rw [HP3.out] at e3
        rw [HPN.out] at e4
        have HIH := Lib.hid hih
        obtain ⟨y0, y1, y2, y3, y4⟩ := bx_cells5 X3.out
        subst hae
        clear hbel hms hnn hih hkid hPI hb3 hks HR
        go_upto_region 6 with fail
        rw [HW3.out]
        clear e0 e1 e2 e3 e4
        go_wp2_with fail
        refine HIH.out.mono ?_
        rintro e W4 ⟨rfl, u4, hI4⟩
        have HR' := Lib.hid (HST.out _ _ hI4)
        clear hI4 HIH y0 y1 y2 y3 y4 hvx
        go_wp2_with fail
        go_roundg (K.length - (i + 1))
        case measure => omega
        case rel => exact ⟨i + 1, by omega, by omega, by go_num, HR'⟩
      · have hlt' : ¬ (i : Int) < (K.length : Int) := by omega
        have HFIN : Hid (∃ u, RfI w0 ob vb B (L ++ refsOf x) u wr) := by
          obtain ⟨u, hu⟩ := HR.out
          refine ⟨u, ?_⟩
          rw [HRE.out, ← List.append_assoc]
          rw [List.take_of_length_le (by omega)] at hu
          exact hu
        go_wp2_with fail
        exact bodyPost_end (results_none Tryz.results123 _ _ _) rfl ⟨rfl, HFIN.out⟩
end At
end Go.Proofs.YtfocooehnmpndaaGreat
namespace Go.Proofs.YtfocooehnmpndaaGreat
open Go.RowKit
mutual
theorem Rd.ones {S : Nat → Prop} {w : World} : ∀ (d : D) (cs : List Value), Rd S w d cs → ∀ u ∈ cs, u.oneCell' = true
  | .int n, cs, h => by simp [Rd] at h; subst h; simp [Value.oneCell']
  | .bool n, cs, h => by simp [Rd] at h; subst h; simp [Value.oneCell']
  | .str n, cs, h => by simp [Rd] at h; subst h; simp [Value.oneCell']
  | .sl ds, cs, h => by obtain ⟨a, cap, L, rfl, _⟩ := h; simp [Value.oneCell']
  | .agg ds, cs, h => RdAll.ones ds cs h
theorem RdAll.ones {S : Nat → Prop} {w : World} : ∀ (ds : List D) (cs : List Value), RdAll S w ds cs → ∀ u ∈ cs, u.oneCell' = true
  | [], cs, h => by simp [RdAll] at h; subst h; simp
  | d :: ds, cs, h => by
    obtain ⟨c1, c2, rfl, h1, h2⟩ := h
    intro u hu
    rcases List.mem_append.1 hu with hu | hu
    · exact Rd.ones d c1 h1 u hu
    · exact RdAll.ones ds c2 h2 u hu
end
theorem wp_appD {P : Program} {ops : Array Oper} {rest : List Oper} {o : Oper} {a : Act} {Q : Exit → Act → World → Prop} {w : World} {t e : TypeId} {size bytes : Nat} (E : ElemT P t e size bytes)
    (hgd : o.guard = none) (s x : Operand) (ho : o.op = .call { callee := .builtin .append, args := #[s, x], argTypes := #[t, t] })
    {B : Nat} {v u : Value} {n : Nat} {xs : List Value} {S : Nat → Prop} {ds : List D} (hown : w.ownsRow B e size v n xs) (hs : a.eval s = v) (hsl : Rd S w (.sl ds) [u]) (hx : a.eval x = u) (hk : ∀ d ∈ ds, d.cells = size)
    (hb : (n + ds.length) * bytes ≤ 140737488355328) (hm : n + ds.length ≤ maxLen) (hB : B ≤ w.heap.size)
    (h : ∀ v' w' L, RdAll S w ds L → w'.ownsRow B e size v' (n + ds.length) (xs ++ L) → w.grownBy w' v.ownBlock → (v'.ownBlock = v.ownBlock ∨ ∃ k, v'.ownBlock = some k ∧ w.heap.size ≤ k) → wpList P ops Q rest (a.put o.dst v') w') :
    wpList P ops Q (o :: rest) a w := by
  obtain ⟨hu, ⟨i, z, hi, hz, hsz, hby, hzs⟩, hp⟩ := E
  obtain ⟨a', cap, L, e1, hl, hc, hn, hcell, hd⟩ := hsl
  simp at e1
  subst e1
  have hL : L.length = ds.length * size := by rw [RdAll.len _ _ hd, cellsAll_eq hk]
  cases a' with
  | none =>
    obtain rfl : cap = 0 := hn rfl
    have h0 : ds.length = 0 := by omega
    have hL0 : L = [] := List.eq_nil_of_length_eq_zero (by rw [hL, h0]; simp)
    subst hL0
    rw [h0] at hx
    refine wpList_append_own_none hgd s x t ho B e i size hu hi v n xs hs hown hx (h v w [] hd (by simpa [h0] using hown) ?_ (.inl rfl))
    exact ⟨rfl, rfl, rfl, Nat.le_refl _, fun _ _ _ => rfl⟩
  | some ad =>
    refine wpList_append_own_at w hgd s x t ho B e i z size bytes hu hi hz hsz hby hzs hp v n xs hs hown ad ds.length cap L hx hL ?_ (RdAll.ones _ _ hd) hm hb hB fun v' w' h2 h3 _ h5 => h v' w' L hd h2 h3 (h5.imp id fun e => ⟨_, e, Nat.le_refl _⟩)
    intro j y hj
    obtain ⟨hj1, hj2⟩ := List.getElem?_eq_some_iff.1 hj
    obtain ⟨y', hy, _, h2⟩ := hcell j hj1
    cases hy
    rw [h2, hj2]
theorem step_appB {P : Program} {ops : Array Oper} {o : Oper} {a : Act} {K : Act → World → Prop} {Q : Exit → Act → World → Prop} {E' : Prop} {w0 : World} {t e : TypeId} {size bytes : Nat} (E : ElemT P t e size bytes)
    (hgd : o.guard = none) (s x : Operand) (ho : o.op = .call { callee := .builtin .append, args := #[s, x], argTypes := #[t, t] })
    {B : Nat} {v : Value} {n : Nat} {xs : List Value} {news : Array Value} (hown : w0.ownsRow B e size v n xs) (hs : a.eval s = v) {g0 : Nat} (hx : a.eval x = .slice (some ⟨g0, 0, none⟩) 1 1) (hg0 : w0.heap[g0]? = some (.cells news e (0, 0)))
    (hn : news.size = size) (h1 : news.toList.all Value.oneCell' = true) (hb : (n + 1) * bytes ≤ 140737488355328) (hm : n + 1 ≤ maxLen) (hB : B ≤ w0.heap.size)
    (h : ∀ g cap w', w'.ownsRow B e size (.slice (some ⟨g, 0, none⟩) (n + 1) cap) (n + 1) (xs ++ news.toList) → w0.grownBy w' v.ownBlock → (v.ownBlock = some g ∨ g = w0.heap.size) → g < w'.heap.size → K (a.put o.dst (.slice (some ⟨g, 0, none⟩) (n + 1) cap)) w') :
    if Region.wanted o (yielded ops a.tmps) = true then Oper.wp P o a w0 K Q else E' := by
  obtain ⟨hu, ⟨i, z, hi, hz, hsz, hby, hzs⟩, hp⟩ := E
  exact step_append_lies w0 hgd s x t ho B e i z size bytes hu hi hz hsz hby hzs hp v n xs hs hown ⟨g0, 0, none⟩ 1 1 news.toList hx (by simp [hn]) (World.news_of_block hg0) (List.all_eq_true.1 h1) (by omega) hm hb hB w0.heap.size rfl h
theorem at_lies {v : Value} {g H n cap : Nat} (h : v.ownBlock = some g ∨ g = H) : (Value.slice (some ⟨g, 0, none⟩) n cap).ownBlock = v.ownBlock ∨ ∃ k, (Value.slice (some ⟨g, 0, none⟩) n cap).ownBlock = some k ∧ H ≤ k := by
  rcases h with h | h
  · exact .inl h.symm
  · exact .inr ⟨g, rfl, by omega⟩
structure RowD (S : Nat → Prop) (B : Nat) (e : TypeId) (size : Nat) (ds : List D) (v : Value) (wr : World) : Prop where
  own : ∃ xs, wr.ownsRow B e size v ds.length xs ∧ RdAll (fun k => S k ∧ v.ownBlock ≠ some k) wr ds xs
  le : B ≤ wr.heap.size
theorem RowD.keep {S : Nat → Prop} {B : Nat} {e : TypeId} {size : Nat} {ds : List D} {v : Value} {wr w' : World} (h : RowD S B e size ds v wr) (hb : Below wr.heap.size wr w') : RowD S B e size ds v w' := by
  obtain ⟨⟨xs, h1, h2⟩, h3⟩ := h
  exact ⟨⟨xs, own_keep h1 hb, h2.below hb⟩, Nat.le_trans h3 hb.size⟩
theorem RowD.form {S : Nat → Prop} {B : Nat} {e : TypeId} {size : Nat} {ds : List D} {v : Value} {wr : World} (h : RowD S B e size ds v wr) : ∃ a cap, v = .slice a ds.length cap ∧ ds.length ≤ cap ∧ cap ≤ maxLen ∧ ∀ k, v.ownBlock = some k → B ≤ k ∧ k < wr.heap.size := by
  obtain ⟨⟨xs, h1, h2⟩, h3⟩ := h
  obtain ⟨a, cap, rfl, e1, e2⟩ := own_len h1
  exact ⟨a, cap, rfl, e1, e2, h1.lt⟩
theorem RowD.rd {S : Nat → Prop} {B : Nat} {e : TypeId} {size : Nat} {ds : List D} {v : Value} {wr : World} (h : RowD S B e size ds v wr) : Rd (fun k => S k ∨ B ≤ k) wr (.sl ds) [v] := by
  obtain ⟨⟨xs, h1, h2⟩, h3⟩ := h
  exact rd_of_own h1 (h2.mono fun k hk _ => .inl hk.1) rfl (fun k e => .inr (h1.lt k e).1)
theorem RowD.nil (S : Nat → Prop) (B : Nat) (e : TypeId) (size : Nat) (w : World) (h : B ≤ w.heap.size) : RowD S B e size [] (.slice none 0 0) w := ⟨⟨[], World.ownsRow_nil _ _ _ _, by simp [RdAll]⟩, h⟩
theorem RowD.step {S T : Nat → Prop} {B : Nat} {e : TypeId} {size : Nat} {ds es : List D} {v v' : Value} {W0 W1 : World} {xs news : List Value} {n : Nat} (h1 : W0.ownsRow B e size v n xs) (h2 : RdAll (fun k => S k ∧ v.ownBlock ≠ some k) W0 ds xs) (hn : n = ds.length)
    (hp : RdAll T W0 es news) (hT : ∀ k, T k → k < W0.heap.size → S k ∧ v.ownBlock ≠ some k) (hB : B ≤ W0.heap.size)
    (ho : W1.ownsRow B e size v' (n + es.length) (xs ++ news)) (hg : W0.grownBy W1 v.ownBlock) (hat : v'.ownBlock = v.ownBlock ∨ ∃ k, v'.ownBlock = some k ∧ W0.heap.size ≤ k) : RowD S B e size (ds ++ es) v' W1 := by
  subst hn
  exact ⟨⟨xs ++ news, by rw [List.length_append]; exact ho, own_step h2 (hp.mono hT) hg hat⟩, Nat.le_trans hB hg.size⟩
end Go.Proofs.YtfocooehnmpndaaGreat
namespace Go.Proofs.YtfocooehnmpndaaGreat
open Go.RowKit
theorem step_appN {P : Program} {ops : Array Oper} {o : Oper} {a : Act} {K : Act → World → Prop} {Q : Exit → Act → World → Prop} {E' : Prop} {w : World} {t e : TypeId} {size bytes : Nat} (E : ElemT P t e size bytes)
    (hgd : o.guard = none) (s x : Operand) (ho : o.op = .call { callee := .builtin .append, args := #[s, x], argTypes := #[t, t] })
    {B : Nat} {v u : Value} {n : Nat} {xs : List Value} {S : Nat → Prop} {ds : List D} (hown : w.ownsRow B e size v n xs) (h0 : 0 < n) (hs : a.eval s = v) (hsl : Rd S w (.sl ds) [u]) (hx : a.eval x = u) (hk : ∀ d ∈ ds, d.cells = size)
    (hb : (n + ds.length) * bytes ≤ 140737488355328) (hm : n + ds.length ≤ maxLen) (hB : B ≤ w.heap.size)
    (h : ∀ g cap w' L, RdAll S w ds L → w'.ownsRow B e size (.slice (some ⟨g, 0, none⟩) (n + ds.length) cap) (n + ds.length) (xs ++ L) → w.grownBy w' v.ownBlock → (v.ownBlock = some g ∨ g = w.heap.size) → g < w'.heap.size → K (a.put o.dst (.slice (some ⟨g, 0, none⟩) (n + ds.length) cap)) w') :
    if Region.wanted o (yielded ops a.tmps) = true then Oper.wp P o a w K Q else E' := by
  have hw : Region.wanted o (yielded ops a.tmps) = true := by simp [Region.wanted, hgd]
  rw [if_pos hw]
  obtain ⟨hu, ⟨i, z, hi, hz, hsz, hby, hzs⟩, hp⟩ := E
  obtain ⟨a', cap, L, e1, hl, hc, hn, hcell, hd⟩ := hsl
  simp at e1
  subst e1
  have hL : L.length = ds.length * size := by rw [RdAll.len _ _ hd, cellsAll_eq hk]
  cases a' with
  | none =>
    obtain rfl : cap = 0 := hn rfl
    have h1 : ds.length = 0 := by omega
    have hL0 : L = [] := List.eq_nil_of_length_eq_zero (by rw [hL, h1]; simp)
    subst hL0
    rw [h1] at hx
    have hr := run_append_owned_none (P := P) (w := w) B t o.type e i size hu hi v n xs hown
    obtain ⟨g, c, rfl, _, hlt⟩ := hown.form h0
    unfold Oper.wp execOp
    simp only [ho, resolve, invoke, builtin, Sem.run_bind, Sem.run_pure, Result.andThen_ok, List.map_toArray, List.map_cons, List.map_nil, hs, hx, hr]
    have h2 := h g c w [] hd (by simpa [h1] using hown) ⟨rfl, rfl, rfl, Nat.le_refl _, fun _ _ _ => rfl⟩ (.inl rfl) hlt
    rw [h1] at h2
    exact h2
  | some ad =>
    obtain ⟨v', w', hr, h2, h3, h4, h5⟩ := run_append_own_at (P := P) w B t o.type e i z size bytes hu hi hz hsz hby hzs hp v n xs hown ad ds.length cap L hL (by
      intro j y hj
      obtain ⟨hj1, hj2⟩ := List.getElem?_eq_some_iff.1 hj
      obtain ⟨y', hy, _, h2⟩ := hcell j hj1
      cases hy
      rw [h2, hj2]) (RdAll.ones _ _ hd) hm hb hB
    obtain ⟨g, c, rfl, _, hlt⟩ := h2.form (by omega)
    unfold Oper.wp execOp
    simp only [ho, resolve, invoke, builtin, Sem.run_bind, Sem.run_pure, Result.andThen_ok, List.map_toArray, List.map_cons, List.map_nil, hs, hx, hr]
    refine h g c w' L hd h2 h3 ?_ hlt
    rcases h5 with h5 | h5
    · exact .inl (by rw [← h5]; rfl)
    · exact .inr (by simpa [Value.ownBlock] using h5)
end Go.Proofs.YtfocooehnmpndaaGreat
namespace Go.Proofs.YtfocooehnmpndaaGreat
open Go.RowKit
theorem own_of_blockB {w : World} {B g : Nat} {e : TypeId} {size n : Nat} {cur : Array Value} (h : w.heap[g]? = some (.cells cur e (0, 0))) (hB : B ≤ g) (hn : cur.size = n * size) (hm : n ≤ maxLen) : w.ownsRow B e size (.slice (some ⟨g, 0, none⟩) n n) n cur.toList :=
  ⟨by simpa using hn, .inr ⟨_, n, cur, rfl, hB, h, Nat.le_refl _, hm, hn, by rw [← hn]; exact List.take_of_length_le (by simp)⟩⟩
theorem wp_appRow {P : Program} {ops : Array Oper} {rest : List Oper} {o : Oper} {a : Act} {Q : Exit → Act → World → Prop} {w : World} {t e : TypeId} {size bytes : Nat} (E : ElemT P t e size bytes)
    (hgd : o.guard = none) (s x : Operand) (ho : o.op = .call { callee := .builtin .append, args := #[s, x], argTypes := #[t, t] })
    {B B2 : Nat} {v u : Value} {n k : Nat} {xs ys : List Value} (hown : w.ownsRow B e size v n xs) (hs : a.eval s = v) (hr : w.ownsRow B2 e size u k ys) (hx : a.eval x = u) (h1 : ∀ y ∈ ys, y.oneCell' = true)
    (hb : (n + k) * bytes ≤ 140737488355328) (hm : n + k ≤ maxLen) (hB : B ≤ w.heap.size)
    (h : ∀ v' w', w'.ownsRow B e size v' (n + k) (xs ++ ys) → w.grownBy w' v.ownBlock → (v'.ownBlock = v.ownBlock ∨ ∃ q, v'.ownBlock = some q ∧ w.heap.size ≤ q) → wpList P ops Q rest (a.put o.dst v') w') :
    wpList P ops Q (o :: rest) a w := by
  obtain ⟨hu, ⟨i, z, hi, hz, hsz, hby, hzs⟩, hp⟩ := E
  have hcell := fun {g : Nat} (hg : u.ownBlock = some g) => hr.cells hg
  have hlen := hr.1
  rcases hr.2 with ⟨rfl, h0⟩ | ⟨g, cap, cur, rfl, _⟩
  · subst h0
    have : ys = [] := List.eq_nil_of_length_eq_zero (by rw [hlen]; simp)
    subst this
    exact wpList_append_own_none hgd s x t ho B e i size hu hi v n xs hs hown hx (h v w (by simpa using hown) ⟨rfl, rfl, rfl, Nat.le_refl _, fun _ _ _ => rfl⟩ (.inl rfl))
  · exact wpList_append_own_at w hgd s x t ho B e i z size bytes hu hi hz hsz hby hzs hp v n xs hs hown ⟨g, 0, none⟩ k cap ys hx hlen (hcell rfl) h1 hm hb hB fun v' w' h2 h3 _ h5 => h v' w' h2 h3 (h5.imp id fun e => ⟨_, e, Nat.le_refl _⟩)
end Go.Proofs.YtfocooehnmpndaaGreat
namespace Go.Proofs.YtfocooehnmpndaaGreat
open Go.RowKit
theorem run_copy_rowK {P : Program} (w : World) (dT sT ty elem : TypeId) (size n g o dLen dCap : Nat) (a : Addr) (sLen sCap : Nat) (cur : Array Value) (t : TypeId) (cs : List Value)
    (hu : P.underlying dT = some (.slice elem)) (hs : (P.info? elem).map (·.size) = some size) (hg : w.heap[g]? = some (.cells cur t (0, 0))) (hm : Nat.min sLen dLen = n) (hn : n * size = cs.length)
    (hsrc : ∀ j v, cs[j]? = some v → w.cell? (a.add j) = some v) (hfit : o + cs.length ≤ cur.size) (h1 : ∀ v ∈ cs, v.oneCell' = true) :
    (Builtin.copy_ #[dT, sT] ty #[.slice (some ⟨g, o, none⟩) dLen dCap, .slice (some a) sLen sCap]).run P w = .ok (goInt n) (w.setRow g (cur.toList.take o ++ cs ++ cur.toList.drop (o + cs.length)).toArray) := by
  have hl := run_loadCells_list (P := P) w a cs hsrc
  have hst := run_storeCells_at P g o t cs 0 cur w hg (by simpa using hfit) h1
  cases hq : P.info? elem with
  | none => simp [hq] at hs
  | some i =>
    have hi : i.size = size := by simpa [hq] using hs
    simp [Builtin.copy_, run_underlying hu, Builtin.lenOf, Builtin.firstCells, sizeOf, typeInfo, hq, hi, hm, hn, hl, hst]
theorem wp_copyK {P : Program} (w : World) {o : Oper} {a : Act} {K : Act → World → Prop} {Q : Exit → Act → World → Prop} (d s : Operand) (t t' : TypeId)
    (ho : o.op = .call { callee := .builtin .copy, args := #[d, s], argTypes := #[t, t'] }) {v u v' : Value} {w' : World} (hd : a.eval d = v) (hs : a.eval s = u)
    (hr : (Builtin.copy_ #[t, t'] o.type #[v, u]).run P w = .ok v' w') (h : K (a.put o.dst v') w') : o.wp P a w K Q := by
  unfold Oper.wp execOp
  simp only [ho, resolve, invoke, builtin, Sem.run_bind, Sem.run_pure, Result.andThen_ok, List.map_toArray, List.map_cons, List.map_nil, hd, hs, hr]
  exact h
theorem wpl_copyK {P : Program} (w : World) {ops : Array Oper} {rest : List Oper} {o : Oper} {a : Act} {Q : Exit → Act → World → Prop} (hgd : o.guard = none) (d s : Operand) (t t' : TypeId)
    (ho : o.op = .call { callee := .builtin .copy, args := #[d, s], argTypes := #[t, t'] }) {v u v' : Value} {w' : World} (hd : a.eval d = v) (hs : a.eval s = u)
    (hr : (Builtin.copy_ #[t, t'] o.type #[v, u]).run P w = .ok v' w') (h : wpList P ops Q rest (a.put o.dst v') w') : wpList P ops Q (o :: rest) a w :=
  wpList_plain hgd fun _ hK => wp_copyK w d s t t' ho hd hs hr (hK _ _ h)
theorem step_copyK {P : Program} {ops : Array Oper} {o : Oper} {a : Act} {w : World} {K : Act → World → Prop} {Q : Exit → Act → World → Prop} {E : Prop} (hg : o.guard = none) (d x : Operand) (dT sT : TypeId)
    (hop : o.op = .call { callee := .builtin .copy, args := #[d, x], argTypes := #[dT, sT] }) {v u v' : Value} {w' : World} (hd : a.eval d = v) (hx : a.eval x = u)
    (hr : (Builtin.copy_ #[dT, sT] o.type #[v, u]).run P w = .ok v' w') (hK : K (a.put o.dst v') w') : if Region.wanted o (yielded ops a.tmps) = true then Oper.wp P o a w K Q else E := by
  have hw : Region.wanted o (yielded ops a.tmps) = true := by simp [Region.wanted, hg]
  rw [if_pos hw]
  exact wp_copyK w d x dT sT hop hd hx hr hK
theorem setRow_block (w : World) (g : Nat) (cs : Array Value) {k : Nat} (h : k ≠ g) : (w.setRow g cs).heap[k]? = w.heap[k]? := by
  unfold World.setRow
  simp [Array.getElem?_modify, show ¬ g = k from fun e => h e.symm]
theorem grown_setRow (w : World) (g : Nat) (cs : Array Value) : w.grownBy (w.setRow g cs) (some g) :=
  ⟨rfl, rfl, rfl, by simp [World.setRow], fun k _ hn => setRow_block w g cs (fun e => hn (by rw [e]))⟩
end Go.Proofs.YtfocooehnmpndaaGreat
namespace Go.Proofs.YtfocooehnmpndaaGreat
open Go.RowKit
namespace At
theorem refC_ones (l : List Ref) : ∀ v ∈ refC l, v.oneCell' = true := by
  intro v hv
  unfold refC at hv
  rw [List.mem_flatMap] at hv
  obtain ⟨x, _, hx⟩ := hv
  simp at hx
  rcases hx with rfl | rfl <;> rfl
theorem ins_room {α : Type} (A D R X : List α) (hX : X.length = 2) (hR : 2 ≤ R.length) :
    (((((A ++ D ++ R).take (A.length + 2) ++ D ++ (A ++ D ++ R).drop (A.length + 2 + D.length)).take A.length ++ X) ++ ((A ++ D ++ R).take (A.length + 2) ++ D ++ (A ++ D ++ R).drop (A.length + 2 + D.length)).drop (A.length + 2)).take (A.length + 2 + D.length)) = A ++ X ++ D := by
  generalize hS : (A ++ D ++ R).drop (A.length + 2 + D.length) = S
  have hP : ((A ++ D ++ R).take (A.length + 2)).length = A.length + 2 := by rw [List.length_take]; simp; omega
  have hPA : ((A ++ D ++ R).take (A.length + 2)).take A.length = A := by
    rw [List.take_take, Nat.min_eq_left (by omega), List.append_assoc, List.take_left']; rfl
  generalize (A ++ D ++ R).take (A.length + 2) = P at hP hPA
  have h1 : (P ++ D ++ S).take A.length = A := by
    rw [List.append_assoc, List.take_append_of_le_length (by omega), hPA]
  have h2 : (P ++ D ++ S).drop (A.length + 2) = D ++ S := by
    rw [List.append_assoc, List.drop_left' hP]
  rw [h1, h2, ← List.append_assoc]
  rw [List.take_left']
  simp [hX]; omega
theorem ins_grow {α : Type} (A D Z X : List α) (hX : X.length = 2) (hZ : 2 + D.length ≤ Z.length) :
    ((((A ++ Z).take A.length ++ X ++ (A ++ Z).drop (A.length + 2)).take (A.length + 2) ++ D ++ ((A ++ Z).take A.length ++ X ++ (A ++ Z).drop (A.length + 2)).drop (A.length + 2 + D.length)).take (A.length + 2 + D.length)) = A ++ X ++ D := by
  have h1 : (A ++ Z).take A.length = A := by rw [List.take_left']; rfl
  rw [h1]
  have h2 : (A ++ X ++ (A ++ Z).drop (A.length + 2)).take (A.length + 2) = A ++ X := by rw [List.take_left']; simp [hX]
  rw [h2, List.take_left']
  simp [hX]; omega
theorem refC_split (L : List Ref) (i : Nat) : refC L = refC (L.take i) ++ refC (L.drop i) := by rw [← refC_append, List.take_append_drop]
theorem grown_new {a b c : World} {row : Option Nat} {q : Nat} (h : a.grownBy b row) (k : b.grownBy c (some q)) (hq : a.heap.size ≤ q) : a.grownBy c row :=
  ⟨k.os.trans h.os, k.tape.trans h.tape, k.output.trans h.output, Nat.le_trans h.size k.size, fun i hi hn => (k.block i (Nat.lt_of_lt_of_le hi h.size) (fun e => by simp at e; omega)).trans (h.block i hi hn)⟩
def InsPost (B : Nat) (L : List Ref) (i : Nat) (x : Ref) (u : Value) (w : World) (e : Ending) (w' : World) : Prop :=
  ∃ u', e = .returned u' ∧ w'.ownsRow B 83 2 u' (L.length + 1) (refC (L.take i ++ x :: L.drop i)) ∧ w.grownBy w' u.ownBlock
set_option maxHeartbeats 4000000 in
set_option maxRecDepth 100000 in
theorem insertRef (B : Nat) (L : List Ref) (x : Ref) (i : Nat) (hi : i ≤ L.length) (u : Value) (vb : Nat) (w : World) (hown : w.ownsRow B 83 2 u L.length (refC L)) (hvb : w.heap[vb]? = some (.cells #[.int .i64 x.at', .int .i64 x.attr] 83 (0, 0))) (hne : u.ownBlock ≠ some vb) (hB : B ≤ w.heap.size) (hlen : L.length ≤ 100000) :
    Calls Tryz.prog 110 #[u, .int .i64 (i : Int), .slice (some ⟨vb, 0, none⟩) 1 1] w (InsPost B L i x u w) := by
  obtain ⟨a, cap, hu, hc1, hc2⟩ := own_len hown
  unfold maxLen at hc2
  have HO := Lib.hid hown
  have HV := Lib.hid hvb
  have hi0 : (0 : Int) ≤ (i : Int) := by omega
  by_cases hin : i = L.length
  · have HFIN : Hid (∀ u' w', w'.ownsRow B 83 2 u' (L.length + 1) (refC L ++ [.int .i64 x.at', .int .i64 x.attr]) → w.grownBy w' u.ownBlock → InsPost B L i x u w (.returned u') w') := by
      intro u' w' h1 h2
      refine ⟨u', rfl, ?_, h2⟩
      rw [hin, List.take_length, List.drop_length, refC_append]
      exact h1
    obtain ⟨n, HN⟩ := nameIt L.length
    have hin' := hin
    rw [HN.out] at hin' hc1 hlen hu HO HFIN
    subst hin'
    subst hu
    have HVO := Lib.hid (own_of_blockB (B := 0) (n := 1) (size := 2) hvb (Nat.zero_le _) rfl (by simp [maxLen]))
    clear hown hvb hin
    by_cases hci : cap = i
    · subst hci
      go_enter Tryz.func110, Tryz.ntmps110
      go_wp2_with (at_builtin; refine wp_appRow elRef (by rfl) _ _ (by rfl) HO.out (by rfl) HVO.out (by rfl) (by simp [Value.oneCell']) (by omega) (by unfold maxLen; omega) hB ?_)
      intro v' w' ho hg hat
      have HO1 := Lib.hid ho
      have HG1 := Lib.hid hg
      obtain ⟨a', c', rfl, -, -⟩ := own_len ho
      clear ho hg hat
      go_wp2_with fail
      go_ret
      exact HFIN.out _ _ HO1.out HG1.out
    ·
      go_enter Tryz.func110, Tryz.ntmps110
      go_wp2_with (at_builtin; refine wp_appRow elRef (by rfl) _ _ (by rfl) HO.out (by rfl) HVO.out (by rfl) (by simp [Value.oneCell']) (by omega) (by unfold maxLen; omega) hB ?_)
      intro v' w' ho hg hat
      have HO1 := Lib.hid ho
      have HG1 := Lib.hid hg
      obtain ⟨a', c', rfl, -, -⟩ := own_len ho
      clear ho hg hat
      go_wp2_with fail
      go_ret
      exact HFIN.out _ _ HO1.out HG1.out
  · have hin2 : i < L.length := by omega
    obtain ⟨hl2, hrow⟩ := hown
    rcases hrow with ⟨rfl, h0⟩ | ⟨g, cap', cur, hu', hg, hh, hnc, hcm, hcs, htk⟩
    · omega
    rw [hu] at hu'
    obtain ⟨rfl, rfl⟩ : a = some ⟨g, 0, none⟩ ∧ cap = cap' := by simpa using hu'
    subst hu
    have hvg : vb ≠ g := fun e => hne (by rw [e]; rfl)
    have HTK := Lib.hid htk
    have HH := Lib.hid hh
    have hvlt := (Array.getElem?_eq_some_iff.1 hvb).1
    have hglt := (Array.getElem?_eq_some_iff.1 hh).1
    have HSZ := Lib.hid hcs
    have HGB := Lib.hid hg
    obtain ⟨n, HN⟩ := nameIt L.length
    rw [HN.out] at hin2 hnc hlen HTK
    rw [HN.out]
    have hinf : (Tryz.prog.info? 83).map (·.size) = some 2 := by kernel_rfl
    have hci : ¬ cap = i := by omega
    have hci1 : ¬ (i : Int) = (n : Int) := by omega
    have hii : (i : Int) < (n : Int) := by omega
    -- the row's cells
    have HCUR : Hid (∀ k (h : k < n * 2), cur[k]? = (refC L)[k]?) := by
      intro k hk
      have h := congrArg (fun l => l[k]?) HTK.out
      simp only [List.getElem?_take] at h
      rw [if_pos hk] at h
      simpa using h
    clear hu' hcs htk hl2
    by_cases hroom : cap < n + 1
    · obtain ⟨i0, hi9, hz0, hz1, hz2⟩ := info_parts (show (Tryz.prog.info? 83).map (fun i => (i.zero, i.size, i.bytes)) = some (some (.agg #[.int .i64 0, .int .i64 0]), 2, 16) by kernel_rfl)
      have hGle := grownCap_le_maxLen w (n + 1) cap 83 (by unfold maxLen; omega)
      have hGge := grownCap_ge w (n + 1) cap 83
      unfold maxLen at hGle
      have hik : i + (n + 1 - i) = n + 1 := by omega
      have hAl : (refC (L.take i)).length = i * 2 := by rw [refC_len, List.length_take, HN.out, Nat.min_eq_left (by omega)]
      have hDl : (refC (L.drop i)).length = (n - i) * 2 := by rw [refC_len, List.length_drop, HN.out]
      have hcA : ∀ j v, (refC (L.take i))[j]? = some v → w.cell? ⟨g, j, none⟩ = some v := by
        intro j v hj
        obtain ⟨hj1, _⟩ := List.getElem?_eq_some_iff.1 hj
        rw [hAl] at hj1
        have h1 : (refC L)[j]? = some v := by rw [refC_split L i, List.getElem?_append_left (by omega)]; exact hj
        have h2 := HCUR.out j (by omega)
        rw [h1] at h2
        simp [World.cell?, HH.out, h2]
      have hcD : ∀ j v, (refC (L.drop i))[j]? = some v → w.cell? ⟨g, i * 2 + j, none⟩ = some v := by
        intro j v hj
        obtain ⟨hj1, _⟩ := List.getElem?_eq_some_iff.1 hj
        rw [hDl] at hj1
        have h1 : (refC L)[i * 2 + j]? = some v := by rw [refC_split L i, List.getElem?_append_right (by omega), hAl]; simpa using hj
        have h2 := HCUR.out (i * 2 + j) (by omega)
        rw [h1] at h2
        simp [World.cell?, HH.out, h2]
      have hold : (Builtin.firstCells i0.size i (.slice (some ⟨g, 0, none⟩) i cap)).run Tryz.prog w.drew = .ok (refC (L.take i)).toArray w.drew := by
        rw [hz1]
        exact run_firstCells_some w.drew 2 i ⟨g, 0, none⟩ i cap (refC (L.take i)) (by rw [hAl]) (fun j v hj => by
          rw [add_at, Nat.zero_add]
          exact hcA j v hj)
      obtain ⟨G, HGG⟩ := nameIt (grownCap w (n + 1) cap 83)
      rw [HGG.out] at hGle hGge
      obtain ⟨ROW, HROW⟩ := nameIt ((refC (L.take i)).toArray ++ Builtin.zeroCells (Value.agg #[.int .i64 0, .int .i64 0]).cells (n + 1 - i) ++ Builtin.zeroCells (Value.agg #[.int .i64 0, .int .i64 0]).cells (G - (n + 1)))
      have hkk : (n : Int) + 1 - (i : Int) = ((n + 1 - i : Nat) : Int) := by omega
      have hrz : ∀ ty, (Builtin.append_ #[159, 3] ty #[.slice (some ⟨g, 0, none⟩) i cap, .int .i64 ((n : Int) + 1 - (i : Int))]).run Tryz.prog w = .ok (.slice (some ⟨w.heap.size, 0, none⟩) (n + 1) G) (w.drew.alloc (.cells ROW 83)) := fun ty => by
        have h := Lib.run_append_grow_zeros w 159 3 ty 83 i0 _ .i64 .i64 Tryz.underlying159 Tryz.underlying3 hi9 hz0 (some ⟨g, 0, none⟩) i cap (refC (L.take i)) hold (n + 1 - i) (by omega) (by rw [hz1]; omega) (by omega) (by omega) (by rw [hz2]; omega) (by rw [hz2, hik]; exact growslice_fits hroom (by omega))
        rw [hik, HGG.out, HROW.out] at h
        rw [hkk]
        exact h
      have hRs : ROW.size = G * 2 := by
        rw [← HROW.out]
        simp [Builtin.zeroCells, Value.cells, hAl]
        omega
      obtain ⟨Z, hZ⟩ : ∃ Z : List Value, ROW.toList = refC (L.take i) ++ Z := ⟨(Builtin.zeroCells (Value.agg #[.int .i64 0, .int .i64 0]).cells (n + 1 - i)).toList ++ (Builtin.zeroCells (Value.agg #[.int .i64 0, .int .i64 0]).cells (G - (n + 1))).toList, by rw [← HROW.out]; simp only [Array.toList_append, List.append_assoc]⟩
      have hZl : 2 + (refC (L.drop i)).length ≤ Z.length := by
        have h1 := congrArg List.length hZ
        rw [List.length_append, hAl, Array.length_toList, hRs] at h1
        rw [hDl]
        omega
      have HIR := Lib.hid (ins_grow (refC (L.take i)) (refC (L.drop i)) Z [.int .i64 x.at', .int .i64 x.attr] rfl hZl)
      rw [← hZ, hAl, hDl] at HIR
      obtain ⟨gn, HGN⟩ := nameIt w.heap.size
      have hgng : gn ≠ g := by have := HGN.out; omega
      have hgnv : gn ≠ vb := by have := HGN.out; omega
      have HGNB : Hid (B ≤ gn) := by show _ ≤ _; rw [← HGN.out]; exact hB
      obtain ⟨W1, HW1⟩ := nameIt (w.drew.alloc (.cells ROW 83))
      have hb1 : Below w.heap.size w W1 := by rw [← HW1.out]; exact (Below.refl _ _).drew.alloc (by simp) _
      have hg1 : W1.heap[gn]? = some (.cells ROW 83 (0, 0)) := by rw [← HW1.out]; exact bx_new _ _ _ HGN.out.symm
      have hv1 : W1.heap[vb]? = some (.cells #[.int .i64 x.at', .int .i64 x.attr] 83 (0, 0)) := bx_keep HV.out hb1
      have hh1 := bx_keep HH.out hb1
      obtain ⟨cur1, HC1⟩ := nameIt ((ROW.toList.take (i * 2) ++ ([.int .i64 x.at', .int .i64 x.attr] : List Value) ++ ROW.toList.drop (i * 2 + 2)).toArray)
      have hcp1 : ∀ ty dc, (Builtin.copy_ #[159, 159] ty #[.slice (some ⟨gn, i * 2, none⟩) (n + 1 - i) dc, .slice (some ⟨vb, 0, none⟩) 1 1]).run Tryz.prog W1 = .ok (goInt 1) (W1.setRow gn cur1) := by
        intro ty dc
        have h := run_copy_rowK (P := Tryz.prog) W1 159 159 ty 83 2 1 gn (i * 2) (n + 1 - i) dc ⟨vb, 0, none⟩ 1 1 ROW 83 [.int .i64 x.at', .int .i64 x.attr] Tryz.underlying159 hinf hg1 (by show min 1 (n + 1 - i) = 1; omega) (by simp) (fun j v hj => by
          rw [add_at]
          have hj2 : #[Value.int .i64 x.at', .int .i64 x.attr][j]? = some v := by simpa using hj
          simp [World.cell?, hv1, hj2]) (by simp [hRs]; omega) (by simp [Value.oneCell'])
        rw [show [Value.int .i64 x.at', Value.int .i64 x.attr].length = 2 from rfl, HC1.out] at h
        exact h
      obtain ⟨W2, HW2⟩ := nameIt (W1.setRow gn cur1)
      have hg2 : W2.heap[gn]? = some (.cells cur1 83 (0, 0)) := by rw [← HW2.out]; exact setRow_heap _ _ _ _ _ _ hg1
      have hh2 : W2.heap[g]? = some (.cells cur 83 (0, 0)) := by rw [← HW2.out, setRow_block _ _ _ (fun e => hgng e.symm)]; exact hh1
      have hs1 : cur1.size = G * 2 := by rw [← HC1.out]; simp [hRs]; omega
      obtain ⟨cur2, HC2⟩ := nameIt ((cur1.toList.take (i * 2 + 2) ++ refC (L.drop i) ++ cur1.toList.drop (i * 2 + 2 + (n - i) * 2)).toArray)
      have hcp2 : ∀ ty dc sc, (Builtin.copy_ #[159, 159] ty #[.slice (some ⟨gn, (i + 1) * 2, none⟩) (n + 1 - (i + 1)) dc, .slice (some ⟨g, i * 2, none⟩) (n - i) sc]).run Tryz.prog W2.drew = .ok (goInt ((n - i : Nat) : Int)) (W2.drew.setRow gn cur2) := by
        intro ty dc sc
        have h := run_copy_rowK (P := Tryz.prog) W2.drew 159 159 ty 83 2 (n - i) gn ((i + 1) * 2) (n + 1 - (i + 1)) dc ⟨g, i * 2, none⟩ (n - i) sc cur1 83 (refC (L.drop i)) Tryz.underlying159 hinf hg2 (by show min (n - i) (n + 1 - (i + 1)) = n - i; omega) (by rw [hDl]) (fun j v hj => by
          rw [add_at]
          have h1 := hcD j v hj
          unfold World.cell? at h1 ⊢
          rw [show W2.drew.heap = W2.heap from rfl, hh2]
          rw [HH.out] at h1
          exact h1) (by rw [hDl, hs1]; omega) (fun v hv => refC_ones _ v hv)
        rw [hDl, show (i + 1) * 2 = i * 2 + 2 by omega, HC2.out] at h
        rw [show (i + 1) * 2 = i * 2 + 2 by omega]
        exact h
      obtain ⟨W3, HW3⟩ := nameIt (W2.drew.setRow gn cur2)
      have hg3 : W3.heap[gn]? = some (.cells cur2 83 (0, 0)) := by rw [← HW3.out]; exact setRow_heap _ _ _ _ _ _ hg2
      have hs3 : cur2.size = G * 2 := by rw [← HC2.out]; simp [hs1, hDl]; omega
      have hgr : w.grownBy W3 (some g) := by
        rw [← HW3.out, ← HW2.out]
        exact grown_new (grown_trans (grown_new (grown_below hb1 _) (grown_setRow W1 gn cur1) (by rw [HGN.out]; exact Nat.le_refl _)) (grown_drew _ _)) (grown_setRow _ _ _) (by rw [HGN.out]; exact Nat.le_refl _)
      have HFIN : Hid (InsPost B L i x (.slice (some ⟨g, 0, none⟩) n cap) w (.returned (.slice (some ⟨gn, 0, none⟩) (n + 1) G)) W3) := by
        refine ⟨_, rfl, ?_, hgr⟩
        rw [HN.out]
        refine ⟨by rw [refC_len]; simp [HN.out]; omega, .inr ⟨gn, G, cur2, rfl, HGNB.out, hg3, hGge, by unfold maxLen; omega, hs3, ?_⟩⟩
        have h := HIR.out
        rw [show i * 2 + 2 + (n - i) * 2 = (n + 1) * 2 by omega] at h
        rw [← HC2.out, ← HC1.out]
        simp only [List.toList_toArray]
        rw [show i * 2 + 2 + (n - i) * 2 = (n + 1) * 2 by omega]
        rw [h, refC_append, show x :: L.drop i = [x] ++ L.drop i from rfl, refC_append, ← List.append_assoc]
        rfl
      rw [HGN.out, HW1.out] at hrz
      simp only [HW2.out] at hcp1
      rw [HW3.out] at hcp2
      have hw1 : IntKind.i64.wrap ((n : Int) + 1) = (n : Int) + 1 := IntWalk.i64_in _ (by omega)
      have hw2 : IntKind.i64.wrap ((i : Int) + 1) = (i : Int) + 1 := IntWalk.i64_in _ (by omega)
      have hw3 : IntKind.i64.wrap ((n : Int) + 1 - (i : Int)) = (n : Int) + 1 - (i : Int) := IntWalk.i64_in _ (by omega)
      have ht2 : ((i : Int) + 1).toNat = i + 1 := by omega
      have hc3 : (cap : Int) < (n : Int) + 1 := by omega
      have hc5 : (i : Int) + 1 ≤ (n : Int) + 1 := by omega
      have hc6 : (i : Int) ≤ (n : Int) + 1 := by omega
      have hc7 : (0 : Int) ≤ (i : Int) + 1 := by omega
      have hc9 : ¬ G = i := by omega
      have hc10 : ¬ G = i + 1 := by omega
      have hc11 : i ≤ cap := by omega
      have hc12 : (i : Int) ≤ (n : Int) := by omega
      clear hvb hh hik hAl hDl hcA hcD hold hkk hRs hZ hZl hg1 hv1 hh1 hg2 hh2 hs1 hg3 hs3 hgr hb1 hinf hi9 hz0 hz1 hz2
      go_enter Tryz.func110, Tryz.ntmps110
      go_wp2_with (at_builtin; refine Lib.wpList_append_run _ rfl _ _ 159 3 rfl _ _ rfl rfl _ _ (hrz _) ?_)
      go_region_law (refine step_copyK rfl _ _ 159 159 rfl (by simp [Act.eval, Act.put]; try rfl) (by simp [Act.eval, Act.put]; try rfl) (hcp2 _ _ _) ?_)
      all_goals
        go_wp2_with fail
        go_ret
        exact HFIN.out
    · have hroom2 : n + 1 ≤ cap := by omega
      have hci2 : ¬ cap = i + 1 := by omega
      have hov : ∀ lb cb, (callFunc 128 #[.slice (some ⟨vb, 0, none⟩) 1 1, .slice (some ⟨g, (i + 1) * 2, none⟩) lb cb]).run Tryz.prog w = .ok (.value (.bool false)) w := fun lb cb => by
        rw [run_callFunc_extern Tryz.func128 (by kernel_rfl) (by kernel_rfl) (by kernel_rfl) (e := Extern.SlicesOverlaps.overlaps #[159, 159] #[4]) (by kernel_rfl),
          Lib.run_overlaps_apart w 159 4 83 Tryz.underlying159 2 (fun W => by kernel_rfl) ⟨vb, 0, none⟩ ⟨g, (i + 1) * 2, none⟩ 1 1 lb cb hvg 83 83 2 cur.size (by simp [World.shape?, HV.out]) (by simp [World.shape?, HH.out]) (by rw [HSZ.out]; omega) (by simp [World.frozen?, HV.out]) (by simp [World.frozen?, HV.out])]
        rfl
      have hw1 : IntKind.i64.wrap ((n : Int) + 1) = (n : Int) + 1 := IntWalk.i64_in _ (by omega)
      have hw2 : IntKind.i64.wrap ((i : Int) + 1) = (i : Int) + 1 := IntWalk.i64_in _ (by omega)
      have ht1 : ((n : Int) + 1).toNat = n + 1 := by omega
      have ht2 : ((i : Int) + 1).toNat = i + 1 := by omega
      have hc3 : ¬ (cap : Int) < (n : Int) + 1 := by omega
      have hc4 : (n : Int) + 1 ≤ (cap : Int) := by omega
      have hc5 : (i : Int) + 1 ≤ (n : Int) + 1 := by omega
      have hc6 : (i : Int) ≤ (n : Int) + 1 := by omega
      have hc7 : (0 : Int) ≤ (i : Int) + 1 := by omega
      have hc8 : (0 : Int) ≤ (n : Int) + 1 := by omega
      clear hvb hh
      go_enter Tryz.func110, Tryz.ntmps110
      go_upto_region 15 with fail
      obtain ⟨R, hR⟩ : ∃ R : List Value, cur.toList = refC L ++ R := ⟨cur.toList.drop (n * 2), by conv => lhs; rw [← List.take_append_drop (n * 2) cur.toList, HTK.out]⟩
      have hRl : 2 ≤ R.length := by
        have h1 := congrArg List.length hR
        rw [List.length_append, refC_len, Array.length_toList, HSZ.out, HN.out] at h1
        omega
      rw [refC_split L i] at hR
      have hAl : (refC (L.take i)).length = i * 2 := by rw [refC_len, List.length_take, HN.out, Nat.min_eq_left (by omega)]
      have hDl : (refC (L.drop i)).length = (n - i) * 2 := by rw [refC_len, List.length_drop, HN.out]
      have HIR := Lib.hid (ins_room (refC (L.take i)) (refC (L.drop i)) R [.int .i64 x.at', .int .i64 x.attr] rfl hRl)
      rw [← hR, hAl, hDl] at HIR
      have hcell : ∀ j v, (refC (L.drop i))[j]? = some v → w.cell? ⟨g, i * 2 + j, none⟩ = some v := by
        intro j v hj
        obtain ⟨hj1, _⟩ := List.getElem?_eq_some_iff.1 hj
        rw [hDl] at hj1
        have h1 : (refC L)[i * 2 + j]? = some v := by rw [refC_split L i, List.getElem?_append_right (by omega), hAl]; simpa using hj
        have h2 := HCUR.out (i * 2 + j) (by omega)
        rw [h1] at h2
        simp [World.cell?, HH.out, h2]
      obtain ⟨cur1, HC1⟩ := nameIt ((cur.toList.take (i * 2 + 2) ++ refC (L.drop i) ++ cur.toList.drop (i * 2 + 2 + (n - i) * 2)).toArray)
      have hcp1 : ∀ ty dc sc, (Builtin.copy_ #[159, 159] ty #[.slice (some ⟨g, (i + 1) * 2, none⟩) (n + 1 - (i + 1)) dc, .slice (some ⟨g, i * 2, none⟩) (n + 1 - i) sc]).run Tryz.prog w.drew =   .ok (goInt ((n - i : Nat) : Int)) (w.drew.setRow g cur1) := by
        intro ty dc sc
        have h := run_copy_rowK (P := Tryz.prog) w.drew 159 159 ty 83 2 (n - i) g ((i + 1) * 2) (n + 1 - (i + 1)) dc ⟨g, i * 2, none⟩ (n + 1 - i) sc cur 83 (refC (L.drop i)) Tryz.underlying159 hinf HH.out (by show min (n + 1 - i) (n + 1 - (i + 1)) = n - i; omega) (by rw [hDl]) (fun j v hj => by rw [add_at]; exact hcell j v hj) (by rw [hDl, HSZ.out]; omega) (fun v hv => refC_ones _ v hv)
        rw [hDl, show (i + 1) * 2 = i * 2 + 2 by omega, HC1.out] at h
        rw [show (i + 1) * 2 = i * 2 + 2 by omega]
        exact h
      obtain ⟨W1, HW1⟩ := nameIt (w.drew.setRow g cur1)
      have hg1 : W1.heap[g]? = some (.cells cur1 83 (0, 0)) := by rw [← HW1.out]; exact setRow_heap _ _ _ _ _ _ HH.out
      have hs1 : cur1.size = cap * 2 := by rw [← HC1.out]; simp [hDl, HSZ.out]; omega
      have hv1 : W1.heap[vb]? = some (.cells #[.int .i64 x.at', .int .i64 x.attr] 83 (0, 0)) := by rw [← HW1.out, setRow_block _ _ _ hvg]; exact HV.out
      obtain ⟨cur2, HC2⟩ := nameIt ((cur1.toList.take (i * 2) ++ ([.int .i64 x.at', .int .i64 x.attr] : List Value) ++ cur1.toList.drop (i * 2 + 2)).toArray)
      have hcp2 : ∀ ty dc, (Builtin.copy_ #[159, 159] ty #[.slice (some ⟨g, i * 2, none⟩) (n + 1 - i) dc, .slice (some ⟨vb, 0, none⟩) 1 1]).run Tryz.prog W1 = .ok (goInt 1) (W1.setRow g cur2) := by
        intro ty dc
        have h := run_copy_rowK (P := Tryz.prog) W1 159 159 ty 83 2 1 g (i * 2) (n + 1 - i) dc ⟨vb, 0, none⟩ 1 1 cur1 83 [.int .i64 x.at', .int .i64 x.attr] Tryz.underlying159 hinf hg1 (by show min 1 (n + 1 - i) = 1; omega) (by simp) (fun j v hj => by
          rw [add_at]
          have hj2 : #[Value.int .i64 x.at', .int .i64 x.attr][j]? = some v := by simpa using hj
          simp [World.cell?, hv1, hj2]) (by simp [hs1]; omega) (by simp [Value.oneCell'])
        rw [show [Value.int .i64 x.at', Value.int .i64 x.attr].length = 2 from rfl, HC2.out] at h
        exact h
      obtain ⟨W2, HW2⟩ := nameIt (W1.setRow g cur2)
      have hg2 : W2.heap[g]? = some (.cells cur2 83 (0, 0)) := by rw [← HW2.out]; exact setRow_heap _ _ _ _ _ _ hg1
      have hs2 : cur2.size = cap * 2 := by rw [← HC2.out]; simp [hs1]; omega
      have hgr : w.grownBy W2 (some g) := by rw [← HW2.out, ← HW1.out]; exact grown_trans (grown_trans (grown_drew w _) (grown_setRow _ _ _)) (grown_setRow _ _ _)
      have HFIN : Hid (InsPost B L i x (.slice (some ⟨g, 0, none⟩) n cap) w (.returned (.slice (some ⟨g, 0, none⟩) (n + 1) cap)) W2) := by
        refine ⟨_, rfl, ?_, hgr⟩
        rw [HN.out]
        refine ⟨by rw [refC_len]; simp [HN.out]; omega, .inr ⟨g, cap, cur2, rfl, HGB.out, hg2, hroom2, by unfold maxLen; omega, hs2, ?_⟩⟩
        have h := HIR.out
        rw [show i * 2 + 2 + (n - i) * 2 = (n + 1) * 2 by omega] at h
        rw [← HC2.out, ← HC1.out]
        simp only [List.toList_toArray]
        rw [show i * 2 + 2 + (n - i) * 2 = (n + 1) * 2 by omega]
        rw [h, refC_append, show x :: L.drop i = [x] ++ L.drop i from rfl, refC_append, ← List.append_assoc]
        rfl
      rw [HW1.out] at hcp1
      simp only [HW2.out] at hcp2
      clear hR hRl hAl hDl hcell hg1 hs1 hv1 hg2 hs2 hgr hinf
      go_region_law (refine step_copyK rfl _ _ 159 159 rfl (by simp [Act.eval, Act.put]; try rfl) (by simp [Act.eval, Act.put]; try rfl) (hcp1 _ _ _) ?_)
      all_goals
        go_wp2_with (at_builtin; refine wpl_copyK _ rfl _ _ 159 159 rfl rfl rfl (hcp2 _ _) ?_)
        go_ret
        exact HFIN.out
end At
end Go.Proofs.YtfocooehnmpndaaGreat
namespace Go.Proofs.YtfocooehnmpndaaGreat
open Go.RowKit Go.Shelf Go.Lib Go.Sort
shelf_lay_g SlLaysF0.n6 Slsf 6 at Tryz 124 as Tryz.sortRef
namespace At
def encRef (x : Ref) : List Value := [.int .i64 x.at', .int .i64 x.attr]
instance : Inhabited Ref := ⟨⟨0, 0⟩⟩
theorem cmpRef_lt (x y : Ref) : ltOf cmpRef x y = decide (x.at' < y.at' ∨ (x.at' = y.at' ∧ x.attr < y.attr)) := by
  unfold ltOf cmpRef
  simp only [orL, cmp3]
  by_cases h1 : x.at' < y.at'
  · simp [h1]
  · by_cases h2 : y.at' < x.at'
    · have h3 : ¬ x.at' = y.at' := by omega
      simp [h1, h2, h3]
    · have h3 : x.at' = y.at' := by omega
      by_cases h4 : x.attr < y.attr
      · simp [h3, h4]
      · by_cases h5 : y.attr < x.attr <;> simp [h3, h4, h5]
theorem swoRef : SWO (ltOf cmpRef) where
  irrefl x := by rw [cmpRef_lt]; simp
  trans x y z h1 h2 := by rw [cmpRef_lt] at *; simp at *; omega
  ntrans x y z h1 h2 := by rw [cmpRef_lt] at *; simp only [decide_eq_false_iff_not] at *; omega
theorem totRef (x y : Ref) (h1 : ltOf cmpRef x y = false) (h2 : ltOf cmpRef y x = false) : x = y := by
  rw [cmpRef_lt] at *
  simp only [decide_eq_false_iff_not] at *
  obtain ⟨a, b⟩ := x
  obtain ⟨c, d⟩ := y
  simp only at h1 h2
  have e1 : a = c := by omega
  have e2 : b = d := by omega
  rw [e1, e2]
theorem cmpLaysRef (blk off size : Nat) (w : World) : CmpLays Tryz.prog 125 #[] encRef 2 cmpRef blk off size w :=
  fun _ _ _ _ x y => refCmpE x y _
def sortR (l : List Ref) : List Ref := l.mergeSort fun x y => !(ltOf cmpRef) y x
theorem refC_at : ∀ (l : List Ref) (k : Nat) (h : k < l.length), (refC l)[k * 2]? = some (.int .i64 l[k].at') ∧ (refC l)[k * 2 + 1]? = some (.int .i64 l[k].attr)
  | [], _, h => by simp at h
  | x :: l, 0, _ => by simp [refC]
  | x :: l, k + 1, h => by
    have ih := refC_at l k (by simpa using h)
    have e : refC (x :: l) = .int .i64 x.at' :: .int .i64 x.attr :: refC l := by simp [refC]
    rw [e, show (k + 1) * 2 = k * 2 + 1 + 1 by omega]
    simpa using ih
theorem flat_refC (l : List Ref) : (flatK encRef 2 l.toArray).toList = refC l := by
  apply List.ext_getElem?
  intro t
  by_cases ht : t < l.length * 2
  · have h1 : (flatK encRef 2 l.toArray).toList[t]? = some ((flatK encRef 2 l.toArray)[t]!) := by
      rw [Array.getElem?_toList, getElem!_pos _ t (by simpa using ht)]
      exact Array.getElem?_eq_getElem (by simpa using ht)
    rw [h1, get_flatK _ _ _ _ (by simpa using ht)]
    have hk : t / 2 < l.length := by omega
    have hd : (l.toArray)[t / 2]! = l[t / 2] := by rw [getElem!_pos _ _ (by simpa using hk)]; simp
    rw [hd]
    obtain ⟨c0, c1⟩ := refC_at l (t / 2) hk
    rcases (show t % 2 = 0 ∨ t % 2 = 1 by omega) with e | e
    · rw [show t / 2 * 2 = t by omega] at c0
      rw [c0, e]; rfl
    · rw [show t / 2 * 2 + 1 = t by omega] at c1
      rw [c1, e]; rfl
  · rw [List.getElem?_eq_none (by simp; omega), List.getElem?_eq_none (by rw [refC_len]; omega)]
theorem put_flat (F : Array Value) (cur : Array Value) (h : F.size ≤ cur.size) : (putCells id 0 F cur).toList = F.toList ++ cur.toList.drop F.size := by
  apply List.ext_getElem?
  intro t
  rw [Array.getElem?_toList]
  unfold putCells
  rw [Array.getElem?_mapIdx]
  by_cases ht : t < F.size
  · rw [List.getElem?_append_left (by simpa using ht), Array.getElem?_eq_getElem (by omega : t < cur.size)]
    simp [ht]
  · rw [List.getElem?_append_right (by simpa using ht)]
    simp only [Array.length_toList, List.getElem?_drop]
    rw [show F.size + (t - F.size) = t by omega, Array.getElem?_toList]
    cases cur[t]? with
    | none => rfl
    | some y => simp [ht]
def SortPost (B : Nat) (l : List Ref) (u : Value) (w : World) (e : Ending) (w' : World) : Prop :=
  e = .returned (.tuple #[]) ∧ w'.ownsRow B 83 2 u l.length (refC (sortR l)) ∧ w.grownBy w' u.ownBlock
theorem sortR_len (l : List Ref) : (sortR l).length = l.length := by unfold sortR; exact List.length_mergeSort l
theorem sortRef (B : Nat) (l : List Ref) (u : Value) (w : World) (hown : w.ownsRow B 83 2 u l.length (refC l)) (hl : l.length ≤ 100000) :
    Calls Tryz.prog 124 #[u, .func (.func 125) #[] #[]] w (SortPost B l u w) := by
  rcases hown.2 with ⟨rfl, h0⟩ | ⟨g, cap, cur, rfl, hg, hh, hnc, hcm, hcs, htk⟩
  · obtain rfl : l = [] := by simpa using h0
    have h := AnyF.slices_SortFunc_none Tryz.sortRef none 0 (.func (.func 125) #[] #[]) w
    refine Calls.mono (P := Tryz.prog) (f := 124) h ?_
    rintro e w' ⟨rfl, rfl⟩
    exact ⟨rfl, by simpa [sortR] using hown, ⟨rfl, rfl, rfl, Nat.le_refl _, fun _ _ _ => rfl⟩⟩
  · have hglt := (Array.getElem?_eq_some_iff.1 hh).1
    have eg : ∀ args w, (callFunc 125 args).run Tryz.prog w = .ok (.enter 125 args) w := enters_of Tryz.func125 (by kernel_rfl) rfl
    have hH : HoldsK encRef 2 w g 0 l.toArray := by
      intro j hj
      have hj' : j < l.length * 2 := by simpa using hj
      have h1 : cur[j]? = some ((flatK encRef 2 l.toArray)[j]!) := by
        have hsz0 : (flatK encRef 2 l.toArray).size = l.length * 2 := by simp
        have e := congrArg (fun m : List Value => m[j]?) (htk.trans (flat_refC l).symm)
        simp only [List.getElem?_take] at e
        rw [if_pos hj', Array.getElem?_toList, Array.getElem?_toList] at e
        rw [e, getElem!_pos (flatK encRef 2 l.toArray) j (by simpa using hj')]
        exact Array.getElem?_eq_getElem (by simpa using hj')
      refine ⟨?_, ?_⟩
      · simp [World.cell?, hh, h1]
      · simp [World.frozen?, hh]
    have h := AnyQ.slices_SortFunc_total Tryz.sortRef 2 Tryz.isAgg83 Tryz.sizeOf83 encRef (fun _ => rfl) (fun x v hv => by simp [encRef] at hv; rcases hv with rfl | rfl <;> rfl) cmpRef swoRef 125 #[] g 0 cap l.toArray w eg (cmpLaysRef g 0 _ w) hH hglt (by simp; omega) totRef
    refine Calls.mono (P := Tryz.prog) (f := 124) h ?_
    rintro e w' ⟨rfl, n, os, rfl⟩
    have hF : (flatK encRef 2 (sortR l).toArray).toList = refC (sortR l) := flat_refC _
    have hsz : (flatK encRef 2 (sortR l).toArray).size = l.length * 2 := by rw [size_flatK]; simp [sortR_len]
    have hblk : (sortWorldK encRef 2 w g 0 n (sortR l).toArray os).heap[g]? = some (.cells (putCells id 0 (flatK encRef 2 (sortR l).toArray) cur) 83 (0, 0)) := by
      unfold sortWorldK grow putRowK putRow mapBlock
      simp only
      rw [Array.getElem?_append_left (by simpa [Sort.ahead] using hglt), Array.getElem?_modify, if_pos rfl]
      show Option.map _ w.heap[g]? = _
      rw [hh]; rfl
    refine ⟨rfl, ⟨by rw [refC_len, sortR_len], .inr ⟨g, cap, _, rfl, hg, hblk, hnc, hcm, by rw [← hcs]; simp [putCells], ?_⟩⟩, ?_⟩
    · rw [put_flat _ _ (by rw [hsz, hcs]; exact Nat.mul_le_mul_right _ hnc), List.take_append_of_le_length (by simp [hsz]), hF]
      exact List.take_of_length_le (by rw [refC_len, sortR_len]; omega)
    · refine ⟨rfl, rfl, rfl, ?_, fun k hk hne => ?_⟩
      · unfold sortWorldK; simp [putRowK, putRow, mapBlock, Sort.ahead]
      · have hkg : g ≠ k := fun e => hne (by rw [← e]; rfl)
        unfold sortWorldK grow putRowK putRow mapBlock
        simp only
        rw [Array.getElem?_append_left (by simpa [Sort.ahead] using hk), Array.getElem?_modify, if_neg hkg]
        rfl
end At
end Go.Proofs.YtfocooehnmpndaaGreat
