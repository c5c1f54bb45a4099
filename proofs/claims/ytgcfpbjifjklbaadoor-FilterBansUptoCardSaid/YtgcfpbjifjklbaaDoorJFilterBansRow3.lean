/- Which filters are valid: parlref4.BanFault and filter.Check. filter.Check. The contracts of gram.CopyTree and tree.Clone. The contracts of Below and tree.At. The contract of tree.Word. Places of nodes, paths and leaves of trees, in plain Lean. The contract of tree.Places. -/
import Derived.Test.YtgcfpbjifjklbaaDoorJFilterBansRow1
import Derived.Test.YtgcfpbjifjklbaaDoorJFilterBansRow2
import Derived.Deep.RegionHeld3
import Derived.Laws.OwnMore
import Derived.Laws.EntriesVeiled
import Derived.Deep.DeepCutAuto
namespace Go.Proofs.YtgcfpbjifjklbaaDoor
open Go.RowKit
namespace Fb
theorem filt_ban {g : Gram} {x : Filt} (hl : ¬ (400 < x.bans.length ∨ 20 < x.rejs.length)) {i : Nat} (hi : i < x.bans.length) (h : firstF (banF g) (x.bans.drop i) = firstF (banF g) x.bans) :
    (banF g x.bans[i] ≠ 0 → filtF g x = banF g x.bans[i]) ∧ (banF g x.bans[i] = 0 → firstF (banF g) (x.bans.drop (i + 1)) = firstF (banF g) x.bans) := by
  rw [firstF_drop hi] at h
  constructor
  · intro hn
    rw [if_pos hn] at h
    unfold filtF
    rw [if_neg hl, ← h, if_pos hn]
  · intro hn
    rw [if_neg (by simpa using hn)] at h
    exact h
theorem filt_bans {g : Gram} {x : Filt} (hl : ¬ (400 < x.bans.length ∨ 20 < x.rejs.length)) {i : Nat} (hi : x.bans.length ≤ i) (h : firstF (banF g) (x.bans.drop i) = firstF (banF g) x.bans) : firstF (rejF g) (x.rejs.drop 0) = filtF g x := by
  rw [firstF_end hi] at h
  unfold filtF
  rw [if_neg hl, ← h, if_neg (by simp)]
  rfl
theorem filt_rej {g : Gram} {x : Filt} {i : Nat} (hi : i < x.rejs.length) (h : firstF (rejF g) (x.rejs.drop i) = filtF g x) :
    (rejBad g x.rejs[i] = true → filtF g x = 1) ∧ (rejBad g x.rejs[i] = false → firstF (rejF g) (x.rejs.drop (i + 1)) = filtF g x) := by
  rw [firstF_drop hi] at h
  constructor
  · intro hn
    rw [if_pos (by simp [rejF, hn])] at h
    rw [← h]; simp [rejF, hn]
  · intro hn
    rw [if_neg (by simp [rejF, hn])] at h
    exact h
theorem inv_setc {md : Region.Mode} {ops : Array Oper} {n i : Nat} {listed : Array Bool} (inv : HeadInv md ops n listed) (hr : (Region.ready md ops listed).contains i = true) (hin : i < n) : HeadInv md ops n (listed.setIfInBounds i true) := inv.set (by simpa using hr) hin
theorem run_index2 (a b : Value) (w : World) : (Instr.index 58 (.agg #[a, b]) (.int .i64 0)).run Tryd.prog w = .ok a w ∧ (Instr.index 58 (.agg #[a, b]) (.int .i64 1)).run Tryd.prog w = .ok b w := by
  constructor <;> simp [Instr.index, Tryd.underlying58, go_sem]
theorem banArg_bad {g : Gram} {K : Nat} (hK : g.rules.length = K) {br bp bk : Int} (h : banArg g ⟨br, bp, bk⟩ = true) : (decide (br < 0) = true) ∨ (decide (br < 0) = false ∧ decide ((K : Int) ≤ br) = true) ∨
    ∃ i : Nat, br = (i : Int) ∧ ∃ hi : i < g.rules.length, (decide (bk < 0) = true) ∨ (decide (bk < 0) = false ∧ decide ((K : Int) ≤ bk) = true) ∨ (decide (bk < 0) = false ∧ decide ((K : Int) ≤ bk) = false ∧ decide (bp < 0) = true) ∨ (decide (bk < 0) = false ∧ decide ((K : Int) ≤ bk) = false ∧ decide (bp < 0) = false ∧ decide ((g.rules[i].right.length : Int) ≤ bp) = true) := by
  unfold banArg at h
  rw [hK] at h
  simp only [Bool.or_eq_true, decide_eq_true_eq, decide_eq_false_iff_not] at h ⊢
  by_cases h1 : br < 0
  · exact .inl h1
  by_cases h2 : (K : Int) ≤ br
  · exact .inr (.inl ⟨h1, h2⟩)
  have hi : br.toNat < g.rules.length := by omega
  have e1 : ruleAt g br = g.rules[br.toNat] := by unfold ruleAt; rw [List.getElem?_eq_getElem hi]; rfl
  rw [e1] at h
  exact .inr (.inr ⟨br.toNat, by omega, hi, by omega⟩)
theorem banArg_good {g : Gram} {br bp bk : Int} (h : banArg g ⟨br, bp, bk⟩ = false) : ∃ i k p : Nat, br = (i : Int) ∧ bk = (k : Int) ∧ bp = (p : Int) ∧ ∃ (hi : i < g.rules.length) (hk : k < g.rules.length), ∃ hp : p < g.rules[i].right.length, banForm g ⟨br, bp, bk⟩ = decide (g.rules[i].right[p] = ⟨false, g.rules[k].left⟩) := by
  obtain ⟨i, k, p, rfl, rfl, rfl, hi, hk, e1, e2, hp⟩ := banArg_ok h
  refine ⟨i, k, p, rfl, rfl, rfl, hi, hk, hp, ?_⟩
  unfold banForm
  rw [show ruleAt g (Ban.mk (i : Int) p k).rule = _ from e1, show ruleAt g (Ban.mk (i : Int) p k).kid = _ from e2]
  show decide ((g.rules[i].right[((p : Nat) : Int).toNat]?).getD _ = _) = _
  rw [Int.toNat_natCast, List.getElem?_eq_getElem hp]
  rfl
set_option maxHeartbeats 4000000 in
set_option maxRecDepth 100000 in
theorem banFaultE (g : Gram) (x : Filt) (ar : Option Addr) (cr : Nat) (ba : Option Addr) (bc : Nat) (ja : Option Addr) (jc : Nat) (W : World) (hr : Rd AnyB W (.sl (g.rules.map Rule.d)) [.slice ar g.rules.length cr])
    (hb : Rd AnyB W (.sl (x.bans.map Ban.d)) [.slice ba x.bans.length bc]) (hj : Rd AnyB W (.sl (x.rejs.map Rej.d)) [.slice ja x.rejs.length jc]) :
    Calls Tryd.prog 8 #[.agg #[.int .i64 g.terms, .int .i64 g.nons, .int .i64 g.start, .slice ar g.rules.length cr], .agg #[.slice ba x.bans.length bc, .slice ja x.rejs.length jc]] W fun e w' => e = .returned (.int .i64 (filtF g x)) ∧ Below W.heap.size W w' := by
  obtain ⟨hc1, hc2⟩ := hr.bounds.2
  obtain ⟨hc3, hc4⟩ := hb.bounds.2
  obtain ⟨hc5, hc6⟩ := hj.bounds.2
  unfold maxLen at hc2 hc4 hc6
  obtain ⟨gt, HGT⟩ := nameIt g.terms
  obtain ⟨gn, HGN⟩ := nameIt g.nons
  obtain ⟨gs, HGS⟩ := nameIt g.start
  obtain ⟨K, HKn⟩ := nameIt g.rules.length
  obtain ⟨bn, HBNn⟩ := nameIt x.bans.length
  obtain ⟨jn, HJNn⟩ := nameIt x.rejs.length
  have HQL : Hid ((400 < x.bans.length ∨ 20 < x.rejs.length) → filtF g x = 2) := fun h => by unfold filtF; rw [if_pos h]
  have HBN := Lib.hid (fun hl i hi h => @filt_ban g x hl i hi h)
  have HBE := Lib.hid (fun hl => @filt_bans g x hl x.bans.length (Nat.le_refl _))
  have HRJ := Lib.hid (fun i hi h => @filt_rej g x i hi h)
  obtain ⟨q, HQn⟩ := nameIt (filtF g x)
  rw [HBNn.out, HJNn.out, HQn.out] at HQL
  have HBE2 : Hid (¬ (400 < bn ∨ 20 < jn) → firstF (banF g) (x.bans.drop bn) = firstF (banF g) x.bans → firstF (rejF g) (x.rejs.drop 0) = q) := fun h1 h2 => by rw [← HQn.out]; exact HBE.out (by rw [HBNn.out, HJNn.out]; exact h1) (by rw [HBNn.out]; exact h2)
  clear HBE
  simp only [HQn.out] at HRJ
  obtain ⟨w0, HW0⟩ := nameIt ((W.alloc (.cells #[.int .i64 gt, .int .i64 gn, .int .i64 gs, .slice ar K cr] 24)).alloc (.cells #[.slice ba bn bc, .slice ja jn jc] 28))
  have HB0 : Hid (Below W.heap.size W w0) := by rw [← HW0.out]; exact ((Below.refl _ _).alloc (Nat.le_refl _) _).alloc (by simp) _
  have X1 : Hid (w0.heap[W.heap.size]? = some (.cells #[.int .i64 gt, .int .i64 gn, .int .i64 gs, .slice ar K cr] 24 (0, 0))) := by
    rw [← HW0.out]; exact bx_keep (bx_new _ _ _ rfl) ((Below.refl _ _).alloc (Nat.le_refl _) _)
  have X2 : Hid (w0.heap[W.heap.size + 1]? = some (.cells #[.slice ba bn bc, .slice ja jn jc] 28 (0, 0))) := by rw [← HW0.out]; exact bx_new _ _ _ (by simp)
  have HR := Lib.hid (hr.below HB0.out)
  have HBR := Lib.hid (hb.below HB0.out)
  have HJR := Lib.hid (hj.below HB0.out)
  rw [HKn.out] at HR hc1
  rw [HBNn.out] at HBR hc3
  rw [HJNn.out] at HJR hc5
  rw [HGT.out, HGN.out, HGS.out, HKn.out, HBNn.out, HJNn.out, HQn.out]
  obtain ⟨x0, x1, x2, x3⟩ := bx_cells4 X1.out
  obtain ⟨y0, y1⟩ := bx_cells2 X2.out
  have hl1 : W.heap.size < w0.heap.size := (Array.getElem?_eq_some_iff.1 X1.out).1
  have hl2 : W.heap.size + 1 < w0.heap.size := (Array.getElem?_eq_some_iff.1 X2.out).1
  clear hr hb hj
  go_enter Tryd.func8, Tryd.ntmps8
  go_upto_region 1 with fail
  rw [HW0.out]
  clear HW0
  by_cases hL : 400 < bn ∨ 20 < jn
  · have hq : q = 2 := HQL.out hL
    have hL' : (decide ((400 : Int) < (bn : Int)) = true) ∨ (decide ((400 : Int) < (bn : Int)) = false ∧ decide ((20 : Int) < (jn : Int)) = true) := by simp; omega
    clear HQL HBN HBE2 HRJ hL
    rcases hL' with k1 | ⟨k1, k2⟩
    all_goals
      go_wp2_with fail
      go_ret
      exact ⟨by rw [hq]; rfl, HB0.out⟩
  have k1 : decide ((400 : Int) < (bn : Int)) = false := by simp; omega
  have k2 : decide ((20 : Int) < (jn : Int)) = false := by simp; omega
  have HBN2 := Lib.hid (fun i h1 h2 => HBN.out (by rw [HBNn.out, HJNn.out]; exact hL) i h1 h2)
  have HBE3 := Lib.hid (HBE2.out hL)
  clear HBN HBE2 HQL hL
  go_wp2_with fail
  clear k1 k2 x0 x1 x2 x3 y0 y1
  go_loopg [25] bn (fun gg v25 wr => ∃ i : Nat, i ≤ bn ∧ bn - i ≤ gg ∧ v25 = .int .i64 i ∧ Hid (Below w0.heap.size w0 wr) ∧ Hid (firstF (banF g) (x.bans.drop i) = firstF (banF g) x.bans))
  case atStart => exact ⟨0, by omega, by omega, rfl, Below.refl _ _, rfl⟩
  case round =>
    obtain ⟨i, hi, hg, rfl, HB, HF⟩ := hrel
    by_cases hlt : i < bn
    · have hlt' : (i : Int) < (bn : Int) := by omega
      have hic : (i : Int) ≤ (bc : Int) := by omega
      obtain ⟨bb, bo, hae, -, hbl, c0, c1, c2⟩ := Rd.ban_at (HBR.out.below HB.out) (show i < x.bans.length by rw [HBNn.out]; exact hlt)
      obtain ⟨HN1, HN2⟩ := HBN2.out i (by rw [HBNn.out]; exact hlt) HF.out
      obtain ⟨bx, HBX⟩ := nameIt (x.bans[i]'(by rw [HBNn.out]; exact hlt))
      rw [HBX.out] at c0 c1 c2 HN1 HN2
      obtain ⟨br, bp, bk⟩ := bx
      simp only at c0 c1 c2
      obtain ⟨w4, HW4⟩ := nameIt (wr.alloc (.cells #[.int .i64 br, .int .i64 bp, .int .i64 bk] 42))
      have hb4 : Below wr.heap.size wr w4 := by rw [← HW4.out]; exact (Below.refl _ _).alloc (Nat.le_refl _) _
      have X4 : Hid (w4.heap[wr.heap.size]? = some (.cells #[.int .i64 br, .int .i64 bp, .int .i64 bk] 42 (0, 0))) := by rw [← HW4.out]; exact bx_new _ _ _ rfl
      have HB4 := Lib.hid (HB.out.trans (hb4.mono HB.out.size))
      have X1' := Lib.hid (bx_keep X1.out HB4.out)
      have X2' := Lib.hid (bx_keep X2.out HB4.out)
      obtain ⟨x0, x1, x2, x3⟩ := bx_cells4 X1'.out
      obtain ⟨y0, y1⟩ := bx_cells2 X2'.out
      obtain ⟨z0, z1, z2⟩ := bx_cells3 X4.out
      have hl4 : wr.heap.size < w4.heap.size := (Array.getElem?_eq_some_iff.1 X4.out).1
      have HFIN1 : Hid (∀ w', Below w4.heap.size w4 w' → Below W.heap.size W w') := fun w' h => HB0.out.trans ((HB4.out.trans (h.mono HB4.out.size)).mono HB0.out.size)
      have HFINQ : Hid (∀ q, Below W.heap.size W (w4.drewN q)) := fun q => HFIN1.out _ (below_drewN _ q)
      subst hae
      go_upto_region 6 with fail
      rw [HW4.out]
      clear HW4 c0 c1 c2 hbl
      by_cases hA : banArg g ⟨br, bp, bk⟩ = true
      · have hq : q = 1 := by have := HN1 (by simp [banF, hA]); rw [HQn.out] at this; rw [this]; simp [banF, hA]
        have HBA := Lib.hid (banArg_bad HKn.out hA)
        clear HN1 HN2 hA
        rcases HBA.out with k1 | ⟨k1, k2⟩ | ⟨ri, rfl, hri, HBA2⟩
        · go_quiet (fail)
          go_wp2_with fail
          go_ret
          exact ⟨by rw [hq]; rfl, HFINQ.out _⟩
        · go_quiet (fail)
          go_wp2_with fail
          go_ret
          exact ⟨by rw [hq]; rfl, HFINQ.out _⟩
        · obtain ⟨rb, ro, vr, hae, -, hrl, d0, d1, hkr⟩ := (HR.out.below HB4.out).rule_at hri
          obtain ⟨av, cv, rfl, -, hcv⟩ := hkr.form
          rw [List.length_map] at d1
          obtain ⟨rn, HRN⟩ := nameIt (g.rules[ri]'hri).right.length
          have hrn : (rn : Int) ≤ 9223372036854775807 := by have := hkr.bounds.2; rw [List.length_map, HRN.out] at this; unfold maxLen at this hcv; omega
          have k1 : decide ((ri : Int) < 0) = false := by simp
          have k2 : decide ((K : Int) ≤ (ri : Int)) = false := by rw [HKn.out] at hri; simp; omega
          have hri' : (ri : Int) < (K : Int) := by rw [HKn.out] at hri; omega
          have k2' : decide (K ≤ ri) = false := by simp; omega
          have HBB := Lib.hid HBA2
          rw [HRN.out] at d1 HBB
          have HD := Lib.hid d1
          subst hae
          clear hkr HBA d0 d1 HBA2
          rcases HBB.out with k3 | ⟨k3, k4⟩ | ⟨k3, k4, k5⟩ | ⟨k3, k4, k5, k6⟩
          all_goals
            have d1 := HD.out
            go_quiet (fail)
            go_wp2_with fail
            go_ret
            exact ⟨by rw [hq]; rfl, HFINQ.out _⟩
      · have HFB : Hid (banForm g ⟨br, bp, bk⟩ = false → q = 3) := fun h => by have := HN1 (by simp [banF, hA, h]); rw [HQn.out] at this; rw [this]; simp [banF, hA, h]
        have HFG : Hid (banForm g ⟨br, bp, bk⟩ = true → firstF (banF g) (x.bans.drop (i + 1)) = firstF (banF g) x.bans) := fun h => HN2 (by simp [banF, hA, h])
        obtain ⟨ri, ki, pi, rfl, rfl, rfl, hri, hki, hpi, hform⟩ := banArg_good (by simpa using hA)
        obtain ⟨rb, ro, vr, hae, -, hrl, d0, d1, hkr⟩ := (HR.out.below HB4.out).rule_at hri
        obtain ⟨rb2, ro2, vr2, hae2, -, -, e0, e1, -⟩ := (HR.out.below HB4.out).rule_at hki
        obtain ⟨av, cv, rfl, -, hcv⟩ := hkr.form
        rw [List.length_map] at d1 hkr
        obtain ⟨sb, so, hse, -, hsl, s0, s1⟩ := hkr.sym_at hpi
        obtain ⟨rfl, rfl⟩ : rb = rb2 ∧ ro = ro2 := by rw [hae] at hae2; simpa using hae2
        have hb3 := hkr.bounds.2
        unfold maxLen at hb3
        obtain ⟨y, HYn⟩ := nameIt (g.rules[ri].right[pi])
        obtain ⟨lk, HLK⟩ := nameIt (g.rules[ki]).left
        obtain ⟨rn, HRN⟩ := nameIt (g.rules[ri]).right.length
        obtain ⟨lr, HLR⟩ := nameIt (g.rules[ri]).left
        rw [HYn.out] at s0 s1 hform
        rw [HLK.out] at e0 hform
        rw [HRN.out] at d1 hkr hpi hb3
        obtain ⟨yt, yn⟩ := y
        simp only at s0 s1
        rw [hform] at HFB HFG
        rw [HKn.out] at hri hki
        have k1 : decide ((ri : Int) < 0) = false := by simp
        have k2 : ¬ K ≤ ri := by omega
        have k3 : decide ((ki : Int) < 0) = false := by simp
        have k4 : ¬ K ≤ ki := by omega
        have k5 : decide ((pi : Int) < 0) = false := by simp
        have k6 : ¬ rn ≤ pi := by omega
        have hri' : (ri : Int) < (K : Int) := by omega
        have hki' : (ki : Int) < (K : Int) := by omega
        have hpi' : (pi : Int) < (rn : Int) := by omega
        have E0 := Lib.hid e0
        subst hae hse
        clear HN1 HN2 hA hform hkr d0 e1 hae2 e0
        have e0 := E0.out
        have ax0 := aft_cell x0
        have ax1 := aft_cell x1
        have ax2 := aft_cell x2
        have ax3 := aft_cell x3
        have az0 := aft_cell z0
        have az1 := aft_cell z1
        have az2 := aft_cell z2
        have ad1 := aft_cell d1
        have as0 := aft_cell s0
        have as1 := aft_cell s1
        have ae0 := aft_cell e0
        refine wp_region_after (by kernel_rfl) (by kernel_rfl) ?_
        repeat (go_big_quiet_step (fail))
        refine wpQuiet_nil ?_
        rintro w5 ⟨⟨_, hb5⟩, rfl⟩
        clear ax0 ax1 ax2 ax3 az0 az1 az2 ad1 as0 as1 ae0
        replace x0 := (hb5.cell (lt_of_cell x0)).trans x0
        replace x1 := (hb5.cell (lt_of_cell x1)).trans x1
        replace x2 := (hb5.cell (lt_of_cell x2)).trans x2
        replace x3 := (hb5.cell (lt_of_cell x3)).trans x3
        replace z0 := (hb5.cell (lt_of_cell z0)).trans z0
        replace z1 := (hb5.cell (lt_of_cell z1)).trans z1
        replace z2 := (hb5.cell (lt_of_cell z2)).trans z2
        replace d1 := (hb5.cell (lt_of_cell d1)).trans d1
        replace s0 := (hb5.cell (lt_of_cell s0)).trans s0
        replace s1 := (hb5.cell (lt_of_cell s1)).trans s1
        replace e0 := (hb5.cell (lt_of_cell e0)).trans e0
        go_upto_region 8 with fail
        have HCS : Hid (∀ w', Below w5.heap.size w5 w' → (fun w' : World => w'.cell? ⟨W.heap.size, 0 + 3, none⟩ = some (.slice (some ⟨rb, ro, none⟩) K cr) ∧ w'.cell? ⟨wr.heap.size, 0, none⟩ = some (.int .i64 ri) ∧ w'.cell? ⟨wr.heap.size, 0 + 1, none⟩ = some (.int .i64 pi) ∧ w'.cell? ⟨rb, ro + ri * 2 + 1, none⟩ = some (.slice (some ⟨sb, so, none⟩) rn cv) ∧ w'.cell? ⟨sb, so + pi * 2, none⟩ = some (.bool yt) ∧ w'.cell? ⟨sb, so + pi * 2 + 1, none⟩ = some (.int .i64 yn)) w') := by
          intro w' hb
          exact ⟨(hb.cell (lt_of_cell x3)).trans x3, (hb.cell (lt_of_cell z0)).trans z0, (hb.cell (lt_of_cell z1)).trans z1, (hb.cell (lt_of_cell d1)).trans d1, (hb.cell (lt_of_cell s0)).trans s0, (hb.cell (lt_of_cell s1)).trans s1⟩
        obtain ⟨w6, HW6⟩ := nameIt (w5.alloc (.cells #[.bool false, .int .i64 0] 60)).drew
        have hb6 : Below w5.heap.size w5 w6 := by rw [← HW6.out]; exact ((Below.refl _ _).alloc (Nat.le_refl _) _).drew
        have X6 : Hid (w6.heap[w5.heap.size]? = some (.cells #[.bool false, .int .i64 0] 60 (0, 0))) := by rw [← HW6.out]; exact bx_new _ _ _ rfl
        have HB6 := Lib.hid hb6
        obtain ⟨f0, f1⟩ := bx_free2 X6.out
        obtain ⟨v0, v1⟩ := bx_cells2 X6.out
        refine wp_region_U (S := (fun w' : World => w'.cell? ⟨W.heap.size, 0 + 3, none⟩ = some (.slice (some ⟨rb, ro, none⟩) K cr) ∧ w'.cell? ⟨wr.heap.size, 0, none⟩ = some (.int .i64 ri) ∧ w'.cell? ⟨wr.heap.size, 0 + 1, none⟩ = some (.int .i64 pi) ∧ w'.cell? ⟨rb, ro + ri * 2 + 1, none⟩ = some (.slice (some ⟨sb, so, none⟩) rn cv) ∧ w'.cell? ⟨sb, so + pi * 2, none⟩ = some (.bool yt) ∧ w'.cell? ⟨sb, so + pi * 2 + 1, none⟩ = some (.int .i64 yn))) 12 (by kernel_rfl) (fun inv => ?_)
        refine wpU_take (i := 0) (v := .pointer (some ⟨W.heap.size, 0 + 3, none⟩)) rfl inv (by kernel_rfl) (by kernel_rfl) (by decide) (by decide) (by kernel_rfl) (by kernel_rfl) (by kernel_rfl) (fun _ _ _ h => h) (Or.inl ⟨by kernel_rfl, fun w' hw' => ?_⟩) (HCS.out _ (Below.refl _ _).drew) (fun inv => ?_)
        · obtain ⟨h0, h1, h2, h3, h4, h5⟩ := hw'
          go_simp
        try simp only [Act.put, List.setIfInBounds_toArray, List.set_cons_zero, List.set_cons_succ]
        refine wpU_take (i := 1) (v := .slice (some ⟨rb, ro, none⟩) K cr) rfl inv (by kernel_rfl) (by kernel_rfl) (by decide) (by decide) (by kernel_rfl) (by kernel_rfl) (by kernel_rfl) (fun _ _ _ h => h) (Or.inl ⟨by kernel_rfl, fun w' hw' => ?_⟩) (HCS.out _ (Below.refl _ _).drew) (fun inv => ?_)
        · obtain ⟨h0, h1, h2, h3, h4, h5⟩ := hw'
          go_simp
        try simp only [Act.put, List.setIfInBounds_toArray, List.set_cons_zero, List.set_cons_succ]
        refine wpU_take (i := 2) (v := .pointer (some ⟨wr.heap.size, 0, none⟩)) rfl inv (by kernel_rfl) (by kernel_rfl) (by decide) (by decide) (by kernel_rfl) (by kernel_rfl) (by kernel_rfl) (fun _ _ _ h => h) (Or.inl ⟨by kernel_rfl, fun w' hw' => ?_⟩) (HCS.out _ (Below.refl _ _).drew) (fun inv => ?_)
        · obtain ⟨h0, h1, h2, h3, h4, h5⟩ := hw'
          go_simp
        try simp only [Act.put, List.setIfInBounds_toArray, List.set_cons_zero, List.set_cons_succ]
        refine wpU_take (i := 3) (v := .int .i64 ri) rfl inv (by kernel_rfl) (by kernel_rfl) (by decide) (by decide) (by kernel_rfl) (by kernel_rfl) (by kernel_rfl) (fun _ _ _ h => h) (Or.inl ⟨by kernel_rfl, fun w' hw' => ?_⟩) (HCS.out _ (Below.refl _ _).drew) (fun inv => ?_)
        · obtain ⟨h0, h1, h2, h3, h4, h5⟩ := hw'
          go_simp
        try simp only [Act.put, List.setIfInBounds_toArray, List.set_cons_zero, List.set_cons_succ]
        refine wpU_take (i := 4) (v := .pointer (some ⟨rb, ro + ri * 2, none⟩)) rfl inv (by kernel_rfl) (by kernel_rfl) (by decide) (by decide) (by kernel_rfl) (by kernel_rfl) (by kernel_rfl) (fun _ _ _ h => h) (Or.inl ⟨by kernel_rfl, fun w' hw' => ?_⟩) (HCS.out _ (Below.refl _ _).drew) (fun inv => ?_)
        · obtain ⟨h0, h1, h2, h3, h4, h5⟩ := hw'
          go_simp
        try simp only [Act.put, List.setIfInBounds_toArray, List.set_cons_zero, List.set_cons_succ]
        refine wpU_take (i := 5) (v := .pointer (some ⟨rb, ro + ri * 2 + 1, none⟩)) rfl inv (by kernel_rfl) (by kernel_rfl) (by decide) (by decide) (by kernel_rfl) (by kernel_rfl) (by kernel_rfl) (fun _ _ _ h => h) (Or.inl ⟨by kernel_rfl, fun w' hw' => ?_⟩) (HCS.out _ (Below.refl _ _).drew) (fun inv => ?_)
        · obtain ⟨h0, h1, h2, h3, h4, h5⟩ := hw'
          go_simp
        try simp only [Act.put, List.setIfInBounds_toArray, List.set_cons_zero, List.set_cons_succ]
        refine wpU_take (i := 6) (v := .slice (some ⟨sb, so, none⟩) rn cv) rfl inv (by kernel_rfl) (by kernel_rfl) (by decide) (by decide) (by kernel_rfl) (by kernel_rfl) (by kernel_rfl) (fun _ _ _ h => h) (Or.inl ⟨by kernel_rfl, fun w' hw' => ?_⟩) (HCS.out _ (Below.refl _ _).drew) (fun inv => ?_)
        · obtain ⟨h0, h1, h2, h3, h4, h5⟩ := hw'
          go_simp
        try simp only [Act.put, List.setIfInBounds_toArray, List.set_cons_zero, List.set_cons_succ]
        refine wpU_take (i := 7) (v := .pointer (some ⟨wr.heap.size, 0 + 1, none⟩)) rfl inv (by kernel_rfl) (by kernel_rfl) (by decide) (by decide) (by kernel_rfl) (by kernel_rfl) (by kernel_rfl) (fun _ _ _ h => h) (Or.inl ⟨by kernel_rfl, fun w' hw' => ?_⟩) (HCS.out _ (Below.refl _ _).drew) (fun inv => ?_)
        · obtain ⟨h0, h1, h2, h3, h4, h5⟩ := hw'
          go_simp
        try simp only [Act.put, List.setIfInBounds_toArray, List.set_cons_zero, List.set_cons_succ]
        refine wpU_take (i := 8) (v := .int .i64 pi) rfl inv (by kernel_rfl) (by kernel_rfl) (by decide) (by decide) (by kernel_rfl) (by kernel_rfl) (by kernel_rfl) (fun _ _ _ h => h) (Or.inl ⟨by kernel_rfl, fun w' hw' => ?_⟩) (HCS.out _ (Below.refl _ _).drew) (fun inv => ?_)
        · obtain ⟨h0, h1, h2, h3, h4, h5⟩ := hw'
          go_simp
        try simp only [Act.put, List.setIfInBounds_toArray, List.set_cons_zero, List.set_cons_succ]
        refine wpU_take (i := 9) (v := .pointer (some ⟨sb, so + pi * 2, none⟩)) rfl inv (by kernel_rfl) (by kernel_rfl) (by decide) (by decide) (by kernel_rfl) (by kernel_rfl) (by kernel_rfl) (fun _ _ _ h => h) (Or.inl ⟨by kernel_rfl, fun w' hw' => ?_⟩) (HCS.out _ (Below.refl _ _).drew) (fun inv => ?_)
        · obtain ⟨h0, h1, h2, h3, h4, h5⟩ := hw'
          go_simp
        try simp only [Act.put, List.setIfInBounds_toArray, List.set_cons_zero, List.set_cons_succ]
        refine wpU_take (i := 10) (v := .agg #[.bool yt, .int .i64 yn]) rfl inv (by kernel_rfl) (by kernel_rfl) (by decide) (by decide) (by kernel_rfl) (by kernel_rfl) (by kernel_rfl) (fun _ _ _ h => h) (Or.inl ⟨by kernel_rfl, fun w' hw' => ?_⟩) (HCS.out _ (Below.refl _ _).drew) (fun inv => ?_)
        · obtain ⟨h0, h1, h2, h3, h4, h5⟩ := hw'
          go_simp
        try simp only [Act.put, List.setIfInBounds_toArray, List.set_cons_zero, List.set_cons_succ]
        refine wpU_one (i := 11) (by kernel_rfl) rfl (fun K hK => ?_)
        replace inv := inv_setc (i := 11) inv (by kernel_rfl) (by decide)
        go_simp
        rw [HW6.out]
        refine hK.out _ _ (fun _ => HCS.out _ HB6.out) ?_
        clear hK K
        try simp only [Act.put, List.setIfInBounds_toArray, List.set_cons_zero, List.set_cons_succ]
        refine wpU_one (i := 12) (by kernel_rfl) rfl (fun K hK => ?_)
        go_simp
        refine hK.out _ _ (fun h => absurd (show true = false from h) (by decide)) ?_
        clear hK K
        try simp only [Act.put, List.setIfInBounds_toArray, List.set_cons_zero, List.set_cons_succ]
        refine wpU_done (by kernel_rfl) ?_ _
        obtain ⟨w7, HW7⟩ := nameIt ((w6.setCell ⟨w5.heap.size, 0, none⟩ (.bool yt)).setCell ⟨w5.heap.size, 1, none⟩ (.int .i64 yn))
        have X7 : Hid (w7.heap[w5.heap.size]? = some (.cells #[.bool yt, .int .i64 yn] 60 (0, 0))) := by rw [← HW7.out]; exact bx_set2 X6.out _ _
        have hb67 : Below w5.heap.size w5 w7 := by rw [← HW7.out]; exact below_box2 HB6.out (Nat.le_refl _) _ _
        have HBW7 : Hid (Below w4.heap.size w4 w7) := hb5.trans (hb67.mono hb5.size)
        replace x0 := (hb67.cell (lt_of_cell x0)).trans x0
        replace x1 := (hb67.cell (lt_of_cell x1)).trans x1
        replace x2 := (hb67.cell (lt_of_cell x2)).trans x2
        replace x3 := (hb67.cell (lt_of_cell x3)).trans x3
        replace z0 := (hb67.cell (lt_of_cell z0)).trans z0
        replace z1 := (hb67.cell (lt_of_cell z1)).trans z1
        replace z2 := (hb67.cell (lt_of_cell z2)).trans z2
        replace d1 := (hb67.cell (lt_of_cell d1)).trans d1
        replace s0 := (hb67.cell (lt_of_cell s0)).trans s0
        replace s1 := (hb67.cell (lt_of_cell s1)).trans s1
        replace e0 := (hb67.cell (lt_of_cell e0)).trans e0
        obtain ⟨u0, u1⟩ := bx_cells2 X7.out
        have HB57 : Hid (Below w0.heap.size w0 w7) := HB4.out.trans (HBW7.out.mono HB4.out.size)
        clear hb5 hb6 hb67 E0
        rw [HW7.out]
        clear HW7 HW6 X6 HB6 HCS f0 f1 v0 v1
        go_upto_region 9 with fail
        have HQ7 : Hid (∀ q, Below w0.heap.size w0 (w7.drewN q)) := fun q => HB57.out.trans ((below_drewN _ q).mono HB57.out.size)
        cases yt with
        | true =>
          have hq := HFB.out (by simp)
          go_quiet (fail)
          go_wp2_with fail
          go_ret
          exact ⟨by rw [hq]; rfl, HB0.out.trans ((HQ7.out _).mono HB0.out.size)⟩
        | false =>
          by_cases hyl : yn = lk
          · subst hyl
            have HNX := Lib.hid (HFG.out (by simp))
            clear HFB HFG
            go_quiet (fail)
            go_wp2_with fail
            go_roundg (bn - (i + 1))
            case measure => omega
            case rel => exact ⟨i + 1, by omega, by omega, by go_num, HQ7.out _, HNX.out⟩
          · have hq := HFB.out (by simp [hyl])
            have hne : (yn == lk) = false := by simpa using hyl
            have hne' : (yn != lk) = true := by simpa using hyl
            clear HFB HFG hyl
            go_quiet (fail)
            go_wp2_with fail
            go_ret
            exact ⟨by rw [hq]; rfl, HB0.out.trans ((HQ7.out _).mono HB0.out.size)⟩
    · have hend : i = bn := by omega
      subst hend
      have hlt' : ¬ (i : Int) < (i : Int) := by omega
      have HF2 := Lib.hid (HBE3.out HF.out)
      have X1' := Lib.hid (bx_keep X1.out HB.out)
      have X2' := Lib.hid (bx_keep X2.out HB.out)
      obtain ⟨x0, x1, x2, x3⟩ := bx_cells4 X1'.out
      obtain ⟨y0, y1⟩ := bx_cells2 X2'.out
      clear HBN2 HBE3 HF
      obtain ⟨wo, rfl⟩ : ∃ wo : World, wo = wr := ⟨_, rfl⟩
      go_wp2_with fail
      clear x0 x1 x2 x3 y0 y1 X1' X2'
      go_loopg [100] jn (fun gg v100 wr => ∃ j : Nat, j ≤ jn ∧ jn - j ≤ gg ∧ v100 = .int .i64 j ∧ Hid (Below w0.heap.size w0 wr) ∧ Hid (firstF (rejF g) (x.rejs.drop j) = q))
      case atStart => exact ⟨0, by omega, by omega, rfl, HB.out, HF2.out⟩
      case round =>
        clear HF2 HB
        obtain ⟨j, hj, hg2, rfl, HB, HF⟩ := hrel
        by_cases hlt : j < jn
        · have hlt2 : (j : Int) < (jn : Int) := by omega
          have hjc : (j : Int) ≤ (jc : Int) := by omega
          obtain ⟨bb, bo, hae, -, hbl, c0, c1⟩ := Rd.rej_at (HJR.out.below HB.out) (show j < x.rejs.length by rw [HJNn.out]; exact hlt)
          obtain ⟨HN1, HN2⟩ := HRJ.out j (by rw [HJNn.out]; exact hlt) HF.out
          obtain ⟨bx, HBX⟩ := nameIt (x.rejs[j]'(by rw [HJNn.out]; exact hlt))
          rw [HBX.out] at c0 c1 HN1 HN2
          obtain ⟨n, m⟩ := bx
          simp only at c0 c1
          obtain ⟨w4, HW4⟩ := nameIt (wr.alloc (.cells #[.int .i64 n, .int .i64 m] 58))
          have hb4 : Below wr.heap.size wr w4 := by rw [← HW4.out]; exact (Below.refl _ _).alloc (Nat.le_refl _) _
          have X4 : Hid (w4.heap[wr.heap.size]? = some (.cells #[.int .i64 n, .int .i64 m] 58 (0, 0))) := by rw [← HW4.out]; exact bx_new _ _ _ rfl
          have HB4 := Lib.hid (HB.out.trans (hb4.mono HB.out.size))
          have X1' := Lib.hid (bx_keep X1.out HB4.out)
          obtain ⟨x0, x1, x2, x3⟩ := bx_cells4 X1'.out
          obtain ⟨z0, z1⟩ := bx_cells2 X4.out
          have H1 : Hid ((decide (n < 0) = true) ∨ (decide (n < 0) = false ∧ decide (gn ≤ n) = true) → q = 1) := fun h => HN1 (by unfold rejBad; rw [HGN.out]; simp at h ⊢; omega)
          have H2 : Hid ((decide (m < 0) = true) ∨ (decide (m < 0) = false ∧ decide (gn ≤ m) = true) → q = 1) := fun h => HN1 (by unfold rejBad; rw [HGN.out]; simp at h ⊢; omega)
          have H3 : Hid ((decide (n < 0) = false ∧ decide (gn ≤ n) = false) → (decide (m < 0) = false ∧ decide (gn ≤ m) = false) → firstF (rejF g) (x.rejs.drop (j + 1)) = q) := fun h1 h2 => HN2 (by unfold rejBad; rw [HGN.out]; simp at h1 h2 ⊢; omega)
          have HCS : Hid (∀ k : Int, ((decide (k < 0) = true) ∨ (decide (k < 0) = false ∧ decide (gn ≤ k) = true)) ∨ (decide (k < 0) = false ∧ decide (gn ≤ k) = false)) := by intro k; simp; omega
          subst hae
          go_upto_region 15 with fail
          rw [HW4.out]
          clear HW4 c0 c1 hbl HN1 HN2
          go_wp2_with fail
          have hl4 : wr.heap.size < w4.heap.size := (Array.getElem?_eq_some_iff.1 X4.out).1
          have ix0 := fun w => (run_index2 (.int .i64 n) (.int .i64 m) w).1
          have ix1 := fun w => (run_index2 (.int .i64 n) (.int .i64 m) w).2
          go_loopg [105] 2 (fun gg v105 wx => ∃ k : Nat, k ≤ 2 ∧ 2 - k ≤ gg ∧ v105 = .int .i64 k ∧ wx = w4 ∧ Hid (1 ≤ k → decide (n < 0) = false ∧ decide (gn ≤ n) = false) ∧ Hid (2 ≤ k → decide (m < 0) = false ∧ decide (gn ≤ m) = false))
          case atStart => exact ⟨0, by omega, by omega, rfl, rfl, (fun h => absurd h (by decide)), fun h => absurd h (by decide)⟩
          case round =>
            obtain ⟨k, hk, hg3, rfl, rfl, HK1, HK2⟩ := hrel
            rcases (show k = 0 ∨ k = 1 ∨ k = 2 by omega) with rfl | rfl | rfl
            · rcases HCS.out n with hbad | hgood
              · have hq := H1.out hbad
                rcases hbad with k1 | ⟨k1, k2⟩
                all_goals
                  clear H1 H2 H3 HCS HK1 HK2
                  go_wp2_with fail
                  go_ret
                  exact ⟨by rw [hq]; rfl, HB0.out.trans (HB4.out.mono HB0.out.size)⟩
              · obtain ⟨k1, k2⟩ := hgood
                have HG := Lib.hid (And.intro k1 k2)
                go_wp2_with fail
                go_roundg 1
                case measure => omega
                case rel => exact ⟨1, by omega, by omega, by go_num, rfl, (fun _ => HG.out), fun h => absurd h (by decide)⟩
            · rcases HCS.out m with hbad | hgood
              · have hq := H2.out hbad
                rcases hbad with k1 | ⟨k1, k2⟩
                all_goals
                  clear H1 H2 H3 HCS HK1 HK2
                  go_wp2_with fail
                  go_ret
                  exact ⟨by rw [hq]; rfl, HB0.out.trans (HB4.out.mono HB0.out.size)⟩
              · obtain ⟨k1, k2⟩ := hgood
                have HG := Lib.hid (And.intro k1 k2)
                have HG1 := Lib.hid (HK1.out (by decide))
                go_wp2_with fail
                go_roundg 0
                case measure => omega
                case rel => exact ⟨2, by omega, by omega, by go_num, rfl, (fun _ => HG1.out), fun _ => HG.out⟩
            · have HNX := Lib.hid (H3.out (HK1.out (by decide)) (HK2.out (by decide)))
              go_wp2_with fail
              go_roundg (jn - (j + 1))
              case measure => omega
              case rel => exact ⟨j + 1, by omega, by omega, by go_num, HB4.out, HNX.out⟩
        · have hend : j = jn := by omega
          subst hend
          have hlt2 : ¬ (j : Int) < (j : Int) := by omega
          have HQ0 : Hid (q = 0) := by have h := HF.out; rw [firstF_end (by rw [HJNn.out]; exact Nat.le_refl _)] at h; exact h.symm
          go_wp2_with fail
          go_ret
          exact ⟨by rw [HQ0.out]; rfl, HB0.out.trans (HB.out.mono HB0.out.size)⟩
end Fb
end Go.Proofs.YtgcfpbjifjklbaaDoor
namespace Go.Proofs.YtgcfpbjifjklbaaDoor
open Go.RowKit
namespace Fb
def inR (K : Nat) (n : Int) : Bool := decide (0 ≤ n) && decide (n < (K : Int))
theorem banArg_badC {g : Gram} {K : Nat} (hK : g.rules.length = K) {br bp bk : Int} (h : banArg g ⟨br, bp, bk⟩ = true) : inR K br = false ∨
    ∃ i : Nat, br = (i : Int) ∧ ∃ hi : i < g.rules.length, inR K bk = false ∨ (inR K bk = true ∧ decide (bp < 0) = true) ∨ (inR K bk = true ∧ decide (bp < 0) = false ∧ decide ((g.rules[i].right.length : Int) ≤ bp) = true) := by
  rcases banArg_bad hK h with h1 | ⟨h1, h2⟩ | ⟨i, h1, hi, h3⟩
  · left; unfold inR; simp at h1 ⊢; omega
  · left; unfold inR; simp at h1 h2 ⊢; omega
  · refine .inr ⟨i, h1, hi, ?_⟩
    rcases h3 with h3 | ⟨h3, h4⟩ | ⟨h3, h4, h5⟩ | ⟨h3, h4, h5, h6⟩
    · left; unfold inR; simp at h3 ⊢; omega
    · left; unfold inR; simp at h3 h4 ⊢; omega
    · refine .inr (.inl ⟨?_, h5⟩); unfold inR; simp at h3 h4 ⊢; omega
    · refine .inr (.inr ⟨?_, h5, h6⟩); unfold inR; simp at h3 h4 ⊢; omega
theorem inR_nat {K i : Nat} (h : i < K) : inR K (i : Int) = true := by unfold inR; simp; omega
set_option maxHeartbeats 1000000 in
set_option maxRecDepth 100000 in
theorem ruleE (K : Nat) (n gt gn gs : Int) (ar : Option Addr) (cr b : Nat) (W : World) (hx : W.heap[b]? = some (.cells #[.int .i64 gt, .int .i64 gn, .int .i64 gs, .slice ar K cr] 24 (0, 0))) (hK : K ≤ 9223372036854775807) :
    Calls Tryd.prog 33 #[.int .i64 n, .pointer (some ⟨b, 0, none⟩)] W fun e w' => e = .returned (.bool (inR K n)) ∧ Below W.heap.size W w' := by
  obtain ⟨B, HBn⟩ := nameIt (inR K n)
  have HV : Hid (inR K n = B) := HBn.out
  obtain ⟨x0, x1, x2, x3⟩ := bx_cells4 hx
  have hlt := (Array.getElem?_eq_some_iff.1 hx).1
  clear hx
  rw [HBn.out]
  by_cases h1 : 0 ≤ n
  · have k1 : decide (0 ≤ n) = true := by simpa using h1
    by_cases h2 : n < (K : Int)
    · have k2 : decide (n < (K : Int)) = true := by simpa using h2
      have HE : Hid (B = true) := by show _ = _; rw [← HV.out]; unfold inR; simp [h1, h2]
      go_enter Tryd.func33, Tryd.ntmps33
      go_wp2_with fail
      go_ret
      exact ⟨by rw [HE.out]; rfl, Below.refl _ _⟩
    · have k2 : decide (n < (K : Int)) = false := by simpa using h2
      have HE : Hid (B = false) := by show _ = _; rw [← HV.out]; unfold inR; simp [h2]
      go_enter Tryd.func33, Tryd.ntmps33
      go_wp2_with fail
      go_ret
      exact ⟨by rw [HE.out]; rfl, Below.refl _ _⟩
  · have k1 : decide (0 ≤ n) = false := by simpa using h1
    have HE : Hid (B = false) := by show _ = _; rw [← HV.out]; unfold inR; simp [h1]
    go_enter Tryd.func33, Tryd.ntmps33
    go_wp2_with fail
    go_ret
    exact ⟨by rw [HE.out]; rfl, Below.refl _ _⟩
def checkF (g : Gram) (x : Filt) : Int := if checkG g ≠ 0 then checkG g else filtF g x
set_option maxHeartbeats 4000000 in
set_option maxRecDepth 100000 in
theorem checkFE (g : Gram) (x : Filt) (ar : Option Addr) (cr : Nat) (ba : Option Addr) (bc : Nat) (ja : Option Addr) (jc : Nat) (W : World) (hr : Rd AnyB W (.sl (g.rules.map Rule.d)) [.slice ar g.rules.length cr])
    (hb : Rd AnyB W (.sl (x.bans.map Ban.d)) [.slice ba x.bans.length bc]) (hj : Rd AnyB W (.sl (x.rejs.map Rej.d)) [.slice ja x.rejs.length jc]) :
    Calls Tryd.prog 11 #[.agg #[.int .i64 g.terms, .int .i64 g.nons, .int .i64 g.start, .slice ar g.rules.length cr], .agg #[.slice ba x.bans.length bc, .slice ja x.rejs.length jc]] W fun e w' => e = .returned (.int .i64 (checkF g x)) ∧ Below W.heap.size W w' := by
  obtain ⟨hc1, hc2⟩ := hr.bounds.2
  obtain ⟨hc3, hc4⟩ := hb.bounds.2
  obtain ⟨hc5, hc6⟩ := hj.bounds.2
  unfold maxLen at hc2 hc4 hc6
  obtain ⟨gt, HGT⟩ := nameIt g.terms
  obtain ⟨gn, HGN⟩ := nameIt g.nons
  obtain ⟨gs, HGS⟩ := nameIt g.start
  obtain ⟨K, HKn⟩ := nameIt g.rules.length
  obtain ⟨bn, HBNn⟩ := nameIt x.bans.length
  obtain ⟨jn, HJNn⟩ := nameIt x.rejs.length
  have HQL : Hid ((400 < x.bans.length ∨ 20 < x.rejs.length) → filtF g x = 2) := fun h => by unfold filtF; rw [if_pos h]
  have HBN := Lib.hid (fun hl i hi h => @filt_ban g x hl i hi h)
  have HBE := Lib.hid (fun hl => @filt_bans g x hl x.bans.length (Nat.le_refl _))
  have HRJ := Lib.hid (fun i hi h => @filt_rej g x i hi h)
  have HCK0 := Lib.hid (fun (w' : World) (h : Rd AnyB w' (.sl (g.rules.map Rule.d)) [.slice ar g.rules.length cr]) => checkE g ar cr w' h)
  obtain ⟨z, HZ⟩ := nameIt (checkG g)
  obtain ⟨q, HQn⟩ := nameIt (filtF g x)
  have HQF : Hid (checkF g x = if z ≠ 0 then z else q) := by show _ = _; unfold checkF; rw [HZ.out, HQn.out]
  obtain ⟨q2, HQ2⟩ := nameIt (checkF g x)
  rw [HQ2.out] at HQF
  rw [HBNn.out, HJNn.out, HQn.out] at HQL
  have HBE2 : Hid (¬ (400 < bn ∨ 20 < jn) → firstF (banF g) (x.bans.drop bn) = firstF (banF g) x.bans → firstF (rejF g) (x.rejs.drop 0) = q) := fun h1 h2 => by rw [← HQn.out]; exact HBE.out (by rw [HBNn.out, HJNn.out]; exact h1) (by rw [HBNn.out]; exact h2)
  clear HBE
  simp only [HQn.out] at HRJ
  obtain ⟨w0, HW0⟩ := nameIt ((W.alloc (.cells #[.int .i64 gt, .int .i64 gn, .int .i64 gs, .slice ar K cr] 24)).alloc (.cells #[.slice ba bn bc, .slice ja jn jc] 28))
  have HB0 : Hid (Below W.heap.size W w0) := by rw [← HW0.out]; exact ((Below.refl _ _).alloc (Nat.le_refl _) _).alloc (by simp) _
  have X1 : Hid (w0.heap[W.heap.size]? = some (.cells #[.int .i64 gt, .int .i64 gn, .int .i64 gs, .slice ar K cr] 24 (0, 0))) := by
    rw [← HW0.out]; exact bx_keep (bx_new _ _ _ rfl) ((Below.refl _ _).alloc (Nat.le_refl _) _)
  have X2 : Hid (w0.heap[W.heap.size + 1]? = some (.cells #[.slice ba bn bc, .slice ja jn jc] 28 (0, 0))) := by rw [← HW0.out]; exact bx_new _ _ _ (by simp)
  have HR := Lib.hid (hr.below HB0.out)
  have HBR := Lib.hid (hb.below HB0.out)
  have HJR := Lib.hid (hj.below HB0.out)
  rw [HKn.out] at HR hc1
  rw [HBNn.out] at HBR hc3
  rw [HJNn.out] at HJR hc5
  have HCK : Hid (∀ w', Below w0.heap.size w0 w' → Calls Tryd.prog 7 #[.agg #[.int .i64 gt, .int .i64 gn, .int .i64 gs, .slice ar K cr]] w' fun e w'' => e = .returned (.int .i64 z) ∧ Below w'.heap.size w' w'') := by
    intro w' hb
    have h := HCK0.out w' ((hr.below HB0.out).below hb)
    rw [HGT.out, HGN.out, HGS.out, HKn.out, HZ.out] at h
    exact h
  clear HCK0
  rw [HGT.out, HGN.out, HGS.out, HKn.out, HBNn.out, HJNn.out, HQ2.out]
  obtain ⟨x0, x1, x2, x3⟩ := bx_cells4 X1.out
  obtain ⟨y0, y1⟩ := bx_cells2 X2.out
  have hl1 : W.heap.size < w0.heap.size := (Array.getElem?_eq_some_iff.1 X1.out).1
  have hl2 : W.heap.size + 1 < w0.heap.size := (Array.getElem?_eq_some_iff.1 X2.out).1
  clear hr hb hj
  go_enter Tryd.func11, Tryd.ntmps11
  go_upto_region 1 with fail
  rw [HW0.out]
  clear HW0
  go_wp2_with fail
  refine (HCK.out w0 (Below.refl _ _)).mono ?_
  rintro e w1 ⟨rfl, hb1⟩
  replace X1 := Lib.hid (bx_keep X1.out hb1)
  replace X2 := Lib.hid (bx_keep X2.out hb1)
  replace HR := Lib.hid (HR.out.below hb1)
  replace HBR := Lib.hid (HBR.out.below hb1)
  replace HJR := Lib.hid (HJR.out.below hb1)
  have HB01 : Hid (Below W.heap.size W w1) := HB0.out.trans (hb1.mono HB0.out.size)
  have hl1 : W.heap.size < w1.heap.size := (Array.getElem?_eq_some_iff.1 X1.out).1
  have hl2 : W.heap.size + 1 < w1.heap.size := (Array.getElem?_eq_some_iff.1 X2.out).1
  clear hb1 x0 x1 x2 x3 y0 y1 HB0 HCK
  obtain ⟨x0, x1, x2, x3⟩ := bx_cells4 X1.out
  obtain ⟨y0, y1⟩ := bx_cells2 X2.out
  by_cases hz : z = 0
  case neg =>
    have hne : (z != 0) = true := by simpa using hz
    have hne0 : (z == 0) = false := by simpa using hz
    have HE : Hid (q2 = z) := by show _ = _; rw [HQF.out, if_pos hz]
    clear hz
    go_wp2_with fail
    go_ret
    exact ⟨by rw [HE.out]; rfl, HB01.out⟩
  obtain rfl : q2 = q := by rw [HQF.out, if_neg (by simpa using hz)]
  subst hz
  by_cases hL : 400 < bn ∨ 20 < jn
  · have hq : q2 = 2 := HQL.out hL
    have hL' : (decide ((400 : Int) < (bn : Int)) = true) ∨ (decide ((400 : Int) < (bn : Int)) = false ∧ decide ((20 : Int) < (jn : Int)) = true) := by simp; omega
    clear HQL HBN HBE2 HRJ hL
    rcases hL' with k1 | ⟨k1, k2⟩
    all_goals
      go_wp2_with fail
      go_ret
      exact ⟨by rw [hq]; rfl, HB01.out⟩
  have k1 : decide ((400 : Int) < (bn : Int)) = false := by simp; omega
  have k2 : decide ((20 : Int) < (jn : Int)) = false := by simp; omega
  have HBN2 := Lib.hid (fun i h1 h2 => HBN.out (by rw [HBNn.out, HJNn.out]; exact hL) i h1 h2)
  have HBE3 := Lib.hid (HBE2.out hL)
  clear HBN HBE2 HQL hL
  go_wp2_with fail
  clear k1 k2 x0 x1 x2 x3 y0 y1
  go_loopg [30] bn (fun gg v30 wr => ∃ i : Nat, i ≤ bn ∧ bn - i ≤ gg ∧ v30 = .int .i64 i ∧ Hid (Below w1.heap.size w1 wr) ∧ Hid (firstF (banF g) (x.bans.drop i) = firstF (banF g) x.bans))
  case atStart => exact ⟨0, by omega, by omega, rfl, Below.refl _ _, rfl⟩
  case round =>
    obtain ⟨i, hi, hg, rfl, HB, HF⟩ := hrel
    by_cases hlt : i < bn
    · have hlt' : (i : Int) < (bn : Int) := by omega
      have hic : (i : Int) ≤ (bc : Int) := by omega
      obtain ⟨bb, bo, hae, -, hbl, c0, c1, c2⟩ := Rd.ban_at (HBR.out.below HB.out) (show i < x.bans.length by rw [HBNn.out]; exact hlt)
      obtain ⟨HN1, HN2⟩ := HBN2.out i (by rw [HBNn.out]; exact hlt) HF.out
      obtain ⟨bx, HBX⟩ := nameIt (x.bans[i]'(by rw [HBNn.out]; exact hlt))
      rw [HBX.out] at c0 c1 c2 HN1 HN2
      obtain ⟨br, bp, bk⟩ := bx
      simp only at c0 c1 c2
      obtain ⟨w4, HW4⟩ := nameIt (wr.alloc (.cells #[.int .i64 br, .int .i64 bp, .int .i64 bk] 42))
      have hb4 : Below wr.heap.size wr w4 := by rw [← HW4.out]; exact (Below.refl _ _).alloc (Nat.le_refl _) _
      have X4 : Hid (w4.heap[wr.heap.size]? = some (.cells #[.int .i64 br, .int .i64 bp, .int .i64 bk] 42 (0, 0))) := by rw [← HW4.out]; exact bx_new _ _ _ rfl
      have HB4 := Lib.hid (HB.out.trans (hb4.mono HB.out.size))
      have X1' := Lib.hid (bx_keep X1.out HB4.out)
      have X2' := Lib.hid (bx_keep X2.out HB4.out)
      obtain ⟨x0, x1, x2, x3⟩ := bx_cells4 X1'.out
      obtain ⟨y0, y1⟩ := bx_cells2 X2'.out
      obtain ⟨z0, z1, z2⟩ := bx_cells3 X4.out
      have hl4 : wr.heap.size < w4.heap.size := (Array.getElem?_eq_some_iff.1 X4.out).1
      have HFIN1 : Hid (∀ w', Below w4.heap.size w4 w' → Below W.heap.size W w') := fun w' h => HB01.out.trans ((HB4.out.trans (h.mono HB4.out.size)).mono HB01.out.size)
      have HFINQ : Hid (∀ q, Below W.heap.size W (w4.drewN q)) := fun q => HFIN1.out _ (below_drewN _ q)
      subst hae
      have HRU : Hid (∀ (n : Int) (w' : World), Below w4.heap.size w4 w' → Calls Tryd.prog 33 #[.int .i64 n, .pointer (some ⟨W.heap.size, 0, none⟩)] w' fun e w'' => e = .returned (.bool (inR K n)) ∧ Below w'.heap.size w' w'') := fun n w' hb => ruleE K n gt gn gs _ cr W.heap.size w' (bx_keep X1'.out hb) (by omega)
      go_upto_region 10 with fail
      rw [HW4.out]
      clear HW4 c0 c1 c2 hbl
      by_cases hA : banArg g ⟨br, bp, bk⟩ = true
      · have hq : q2 = 1 := by have := HN1 (by simp [banF, hA]); rw [HQn.out] at this; rw [this]; simp [banF, hA]
        have HQ1 := Lib.hid hq
        have HBA := Lib.hid (banArg_badC HKn.out hA)
        clear HN1 HN2 hA hq
        rcases HBA.out with k1 | ⟨ri, rfl, hri, HBA2⟩
        · have HRU1 := Lib.hid (fun w' hb => HRU.out br w' hb)
          rw [k1] at HRU1
          have ax3 := aft_cell x3
          have az0 := aft_cell z0
          refine wp_region_after (by kernel_rfl) (by kernel_rfl) ?_
          repeat (go_big_quiet_step (with_reducible exact Calls.after (HRU1.out _ (Aft.bel _))))
          refine wpQuiet_nil ?_
          rintro w5 ⟨⟨_, hb5⟩, rfl⟩
          have HE := Lib.hid (HFIN1.out _ hb5)
          clear ax3 az0 hb5
          go_wp2_with fail
          go_ret
          exact ⟨by rw [HQ1.out]; rfl, HE.out⟩
        · obtain ⟨rb, ro, vr, hae, -, hrl, d0, d1, hkr⟩ := (HR.out.below HB4.out).rule_at hri
          obtain ⟨av, cv, rfl, -, hcv⟩ := hkr.form
          rw [List.length_map] at d1
          obtain ⟨rn, HRN⟩ := nameIt (g.rules[ri]'hri).right.length
          have hrn : (rn : Int) ≤ 9223372036854775807 := by have := hkr.bounds.2; rw [List.length_map, HRN.out] at this; unfold maxLen at this hcv; omega
          have hri' : (ri : Int) < (K : Int) := by rw [HKn.out] at hri; omega
          have HRU1 := Lib.hid (fun w' hb => HRU.out (ri : Int) w' hb)
          rw [inR_nat (show ri < K by rw [← HKn.out]; exact hri)] at HRU1
          have HRU2 := Lib.hid (fun w' hb => HRU.out bk w' hb)
          have HBB := Lib.hid HBA2
          rw [HRN.out] at d1 HBB
          have HD := Lib.hid d1
          subst hae
          clear hkr HBA d0 d1 HBA2
          rcases HBB.out with k3 | ⟨k3, k5⟩ | ⟨k3, k5, k6⟩
          all_goals
            rw [k3] at HRU2
            have d1 := HD.out
            have ax3 := aft_cell x3
            have az0 := aft_cell z0
            have az1 := aft_cell z1
            have az2 := aft_cell z2
            have ad1 := aft_cell d1
            refine wp_region_after (by kernel_rfl) (by kernel_rfl) ?_
            repeat (go_big_quiet_step (first | with_reducible exact Calls.after (HRU1.out _ (Aft.bel _)) | with_reducible exact Calls.after (HRU2.out _ (Aft.bel _)) | fail))
            refine wpQuiet_nil ?_
            rintro w5 ⟨⟨_, hb5⟩, rfl⟩
            have HE := Lib.hid (HFIN1.out _ hb5)
            clear ax3 az0 az1 az2 ad1 hb5
            go_wp2_with fail
            go_ret
            exact ⟨by rw [HQ1.out]; rfl, HE.out⟩
      · have HFB : Hid (banForm g ⟨br, bp, bk⟩ = false → q2 = 3) := fun h => by have := HN1 (by simp [banF, hA, h]); rw [HQn.out] at this; rw [this]; simp [banF, hA, h]
        have HFG : Hid (banForm g ⟨br, bp, bk⟩ = true → firstF (banF g) (x.bans.drop (i + 1)) = firstF (banF g) x.bans) := fun h => HN2 (by simp [banF, hA, h])
        obtain ⟨ri, ki, pi, rfl, rfl, rfl, hri, hki, hpi, hform⟩ := banArg_good (by simpa using hA)
        obtain ⟨rb, ro, vr, hae, -, hrl, d0, d1, hkr⟩ := (HR.out.below HB4.out).rule_at hri
        obtain ⟨rb2, ro2, vr2, hae2, -, -, e0, e1, -⟩ := (HR.out.below HB4.out).rule_at hki
        obtain ⟨av, cv, rfl, -, hcv⟩ := hkr.form
        rw [List.length_map] at d1 hkr
        obtain ⟨sb, so, hse, -, hsl, s0, s1⟩ := hkr.sym_at hpi
        obtain ⟨rfl, rfl⟩ : rb = rb2 ∧ ro = ro2 := by rw [hae] at hae2; simpa using hae2
        have hb3 := hkr.bounds.2
        unfold maxLen at hb3
        obtain ⟨y, HYn⟩ := nameIt (g.rules[ri].right[pi])
        obtain ⟨lk, HLK⟩ := nameIt (g.rules[ki]).left
        obtain ⟨rn, HRN⟩ := nameIt (g.rules[ri]).right.length
        obtain ⟨lr, HLR⟩ := nameIt (g.rules[ri]).left
        rw [HYn.out] at s0 s1 hform
        rw [HLK.out] at e0 hform
        rw [HRN.out] at d1 hkr hpi hb3
        obtain ⟨yt, yn⟩ := y
        simp only at s0 s1
        rw [hform] at HFB HFG
        rw [HKn.out] at hri hki
        have k1 : decide ((ri : Int) < 0) = false := by simp
        have k2 : ¬ K ≤ ri := by omega
        have k3 : decide ((ki : Int) < 0) = false := by simp
        have k4 : ¬ K ≤ ki := by omega
        have k5 : decide ((pi : Int) < 0) = false := by simp
        have k6 : ¬ rn ≤ pi := by omega
        have hri' : (ri : Int) < (K : Int) := by omega
        have hki' : (ki : Int) < (K : Int) := by omega
        have hpi' : (pi : Int) < (rn : Int) := by omega
        have E0 := Lib.hid e0
        subst hae hse
        clear HN1 HN2 hA hform hkr d0 e1 hae2 e0
        have e0 := E0.out
        have HRU1 := Lib.hid (fun w' hb => HRU.out (ri : Int) w' hb)
        rw [inR_nat (show ri < K by omega)] at HRU1
        have HRU2 := Lib.hid (fun w' hb => HRU.out (ki : Int) w' hb)
        rw [inR_nat (show ki < K by omega)] at HRU2
        have ax0 := aft_cell x0
        have ax1 := aft_cell x1
        have ax2 := aft_cell x2
        have ax3 := aft_cell x3
        have az0 := aft_cell z0
        have az1 := aft_cell z1
        have az2 := aft_cell z2
        have ad1 := aft_cell d1
        have as0 := aft_cell s0
        have as1 := aft_cell s1
        have ae0 := aft_cell e0
        refine wp_region_after (by kernel_rfl) (by kernel_rfl) ?_
        repeat (go_big_quiet_step (first | with_reducible exact Calls.after (HRU1.out _ (Aft.bel _)) | with_reducible exact Calls.after (HRU2.out _ (Aft.bel _)) | fail))
        refine wpQuiet_nil ?_
        rintro w5 ⟨⟨_, hb5⟩, rfl⟩
        clear ax0 ax1 ax2 ax3 az0 az1 az2 ad1 as0 as1 ae0
        replace x0 := (hb5.cell (lt_of_cell x0)).trans x0
        replace x1 := (hb5.cell (lt_of_cell x1)).trans x1
        replace x2 := (hb5.cell (lt_of_cell x2)).trans x2
        replace x3 := (hb5.cell (lt_of_cell x3)).trans x3
        replace z0 := (hb5.cell (lt_of_cell z0)).trans z0
        replace z1 := (hb5.cell (lt_of_cell z1)).trans z1
        replace z2 := (hb5.cell (lt_of_cell z2)).trans z2
        replace d1 := (hb5.cell (lt_of_cell d1)).trans d1
        replace s0 := (hb5.cell (lt_of_cell s0)).trans s0
        replace s1 := (hb5.cell (lt_of_cell s1)).trans s1
        replace e0 := (hb5.cell (lt_of_cell e0)).trans e0
        have HGN2 := Lib.hid (fun (w' : World) (_ : Below w5.heap.size w5 w') => gramN lk w')
        go_upto_region 12 with fail
        cases yt with
        | true =>
          have hq := HFB.out (by simp)
          have HQ1 := Lib.hid hq
          clear hq HFB HFG
          have ax0 := aft_cell x0
          have ax1 := aft_cell x1
          have ax2 := aft_cell x2
          have ax3 := aft_cell x3
          have az0 := aft_cell z0
          have az1 := aft_cell z1
          have az2 := aft_cell z2
          have ad1 := aft_cell d1
          have as0 := aft_cell s0
          have as1 := aft_cell s1
          have ae0 := aft_cell e0
          refine wp_region_after (by kernel_rfl) (by kernel_rfl) ?_
          repeat (go_big_quiet_step (with_reducible exact Calls.after (HGN2.out _ (Aft.bel _))))
          refine wpQuiet_nil ?_
          rintro w7 ⟨⟨_, hb7⟩, rfl⟩
          have HB57 : Hid (Below w1.heap.size w1 w7) := HB4.out.trans ((hb5.trans (hb7.mono hb5.size)).mono HB4.out.size)
          have HE := Lib.hid (HFIN1.out _ (hb5.trans (hb7.mono hb5.size)))
          clear ax0 ax1 ax2 ax3 az0 az1 az2 ad1 as0 as1 ae0
          clear hb5 hb7 E0
          go_wp2_with fail
          go_ret
          exact ⟨by rw [HQ1.out]; rfl, HE.out⟩
        | false =>
          by_cases hyl : yn = lk
          · subst hyl
            have HNX := Lib.hid (HFG.out (by simp))
            clear HFB HFG
            have ax0 := aft_cell x0
            have ax1 := aft_cell x1
            have ax2 := aft_cell x2
            have ax3 := aft_cell x3
            have az0 := aft_cell z0
            have az1 := aft_cell z1
            have az2 := aft_cell z2
            have ad1 := aft_cell d1
            have as0 := aft_cell s0
            have as1 := aft_cell s1
            have ae0 := aft_cell e0
            refine wp_region_after (by kernel_rfl) (by kernel_rfl) ?_
            repeat (go_big_quiet_step (with_reducible exact Calls.after (HGN2.out _ (Aft.bel _))))
            refine wpQuiet_nil ?_
            rintro w7 ⟨⟨_, hb7⟩, rfl⟩
            have HB57 : Hid (Below w1.heap.size w1 w7) := HB4.out.trans ((hb5.trans (hb7.mono hb5.size)).mono HB4.out.size)
            have HE := Lib.hid (HFIN1.out _ (hb5.trans (hb7.mono hb5.size)))
            clear ax0 ax1 ax2 ax3 az0 az1 az2 ad1 as0 as1 ae0
            clear hb5 hb7 E0
            go_wp2_with fail
            go_roundg (bn - (i + 1))
            case measure => omega
            case rel => exact ⟨i + 1, by omega, by omega, by go_num, HB57.out, HNX.out⟩
          · have HQ1 := Lib.hid (HFB.out (by simp [hyl]))
            have hne : (yn == lk) = false := by simpa using hyl
            have hne' : (yn != lk) = true := by simpa using hyl
            clear HFB HFG hyl
            have ax0 := aft_cell x0
            have ax1 := aft_cell x1
            have ax2 := aft_cell x2
            have ax3 := aft_cell x3
            have az0 := aft_cell z0
            have az1 := aft_cell z1
            have az2 := aft_cell z2
            have ad1 := aft_cell d1
            have as0 := aft_cell s0
            have as1 := aft_cell s1
            have ae0 := aft_cell e0
            refine wp_region_after (by kernel_rfl) (by kernel_rfl) ?_
            repeat (go_big_quiet_step (with_reducible exact Calls.after (HGN2.out _ (Aft.bel _))))
            refine wpQuiet_nil ?_
            rintro w7 ⟨⟨_, hb7⟩, rfl⟩
            have HB57 : Hid (Below w1.heap.size w1 w7) := HB4.out.trans ((hb5.trans (hb7.mono hb5.size)).mono HB4.out.size)
            have HE := Lib.hid (HFIN1.out _ (hb5.trans (hb7.mono hb5.size)))
            clear ax0 ax1 ax2 ax3 az0 az1 az2 ad1 as0 as1 ae0
            clear hb5 hb7 E0
            go_wp2_with fail
            go_ret
            exact ⟨by rw [HQ1.out]; rfl, HE.out⟩
    · have hend : i = bn := by omega
      subst hend
      have hlt' : ¬ (i : Int) < (i : Int) := by omega
      have HF2 := Lib.hid (HBE3.out HF.out)
      have X1' := Lib.hid (bx_keep X1.out HB.out)
      have X2' := Lib.hid (bx_keep X2.out HB.out)
      obtain ⟨x0, x1, x2, x3⟩ := bx_cells4 X1'.out
      obtain ⟨y0, y1⟩ := bx_cells2 X2'.out
      clear HBN2 HBE3 HF
      obtain ⟨wo, rfl⟩ : ∃ wo : World, wo = wr := ⟨_, rfl⟩
      go_wp2_with fail
      clear x0 x1 x2 x3 y0 y1 X1' X2'
      go_loopg [88] jn (fun gg v88 wr => ∃ j : Nat, j ≤ jn ∧ jn - j ≤ gg ∧ v88 = .int .i64 j ∧ Hid (Below w1.heap.size w1 wr) ∧ Hid (firstF (rejF g) (x.rejs.drop j) = q2))
      case atStart => exact ⟨0, by omega, by omega, rfl, HB.out, HF2.out⟩
      case round =>
        clear HF2 HB
        obtain ⟨j, hj, hg2, rfl, HB, HF⟩ := hrel
        by_cases hlt : j < jn
        · have hlt2 : (j : Int) < (jn : Int) := by omega
          have hjc : (j : Int) ≤ (jc : Int) := by omega
          obtain ⟨bb, bo, hae, -, hbl, c0, c1⟩ := Rd.rej_at (HJR.out.below HB.out) (show j < x.rejs.length by rw [HJNn.out]; exact hlt)
          obtain ⟨HN1, HN2⟩ := HRJ.out j (by rw [HJNn.out]; exact hlt) HF.out
          obtain ⟨bx, HBX⟩ := nameIt (x.rejs[j]'(by rw [HJNn.out]; exact hlt))
          rw [HBX.out] at c0 c1 HN1 HN2
          obtain ⟨n, m⟩ := bx
          simp only at c0 c1
          obtain ⟨w4, HW4⟩ := nameIt (wr.alloc (.cells #[.int .i64 n, .int .i64 m] 58))
          have hb4 : Below wr.heap.size wr w4 := by rw [← HW4.out]; exact (Below.refl _ _).alloc (Nat.le_refl _) _
          have X4 : Hid (w4.heap[wr.heap.size]? = some (.cells #[.int .i64 n, .int .i64 m] 58 (0, 0))) := by rw [← HW4.out]; exact bx_new _ _ _ rfl
          have HB4 := Lib.hid (HB.out.trans (hb4.mono HB.out.size))
          have X1' := Lib.hid (bx_keep X1.out HB4.out)
          obtain ⟨x0, x1, x2, x3⟩ := bx_cells4 X1'.out
          obtain ⟨z0, z1⟩ := bx_cells2 X4.out
          subst hae
          go_upto_region 18 with fail
          rw [HW4.out]
          clear HW4 c0 c1 hbl
          have HE := Lib.hid (HB01.out.trans (HB4.out.mono HB01.out.size))
          rcases Int.lt_trichotomy n m with hnm | hnm | hnm
          · have g1 : ¬ m < n := by omega
            have g2 : n ≤ m := by omega
            have g3 : ¬ m ≤ n := by omega
            have HCS : (decide (n < 0) = true) ∨ (decide (n < 0) = false ∧ decide (gn ≤ m) = true) ∨ (decide (n < 0) = false ∧ decide (gn ≤ m) = false) := by simp; omega
            have H1 : Hid ((decide (n < 0) = true) ∨ (decide (n < 0) = false ∧ decide (gn ≤ m) = true) → q2 = 1) := fun h => HN1 (by unfold rejBad; rw [HGN.out]; simp at h ⊢; omega)
            have H3 : Hid ((decide (n < 0) = false ∧ decide (gn ≤ m) = false) → firstF (rejF g) (x.rejs.drop (j + 1)) = q2) := fun h1 => HN2 (by unfold rejBad; rw [HGN.out]; simp at h1 ⊢; omega)
            clear HN1 HN2
            rcases HCS with k1 | ⟨k1, k2⟩ | ⟨k1, k2⟩
            · have HQ1 := Lib.hid (H1.out (.inl k1))
              clear H1 H3
              go_wp2_with fail
              go_ret
              exact ⟨by rw [HQ1.out]; rfl, HE.out⟩
            · have HQ1 := Lib.hid (H1.out (.inr ⟨k1, k2⟩))
              clear H1 H3
              go_wp2_with fail
              go_ret
              exact ⟨by rw [HQ1.out]; rfl, HE.out⟩
            · have HNX := Lib.hid (H3.out ⟨k1, k2⟩)
              clear H1 H3
              go_wp2_with fail
              go_roundg (jn - (j + 1))
              case measure => omega
              case rel => exact ⟨j + 1, by omega, by omega, by go_num, HB4.out, HNX.out⟩
          · subst hnm
            have HCS : (decide (n < 0) = true) ∨ (decide (n < 0) = false ∧ decide (gn ≤ n) = true) ∨ (decide (n < 0) = false ∧ decide (gn ≤ n) = false) := by simp; omega
            have H1 : Hid ((decide (n < 0) = true) ∨ (decide (n < 0) = false ∧ decide (gn ≤ n) = true) → q2 = 1) := fun h => HN1 (by unfold rejBad; rw [HGN.out]; simp at h ⊢; omega)
            have H3 : Hid ((decide (n < 0) = false ∧ decide (gn ≤ n) = false) → firstF (rejF g) (x.rejs.drop (j + 1)) = q2) := fun h1 => HN2 (by unfold rejBad; rw [HGN.out]; simp at h1 ⊢; omega)
            clear HN1 HN2
            rcases HCS with k1 | ⟨k1, k2⟩ | ⟨k1, k2⟩
            · have HQ1 := Lib.hid (H1.out (.inl k1))
              clear H1 H3
              go_wp2_with fail
              go_ret
              exact ⟨by rw [HQ1.out]; rfl, HE.out⟩
            · have HQ1 := Lib.hid (H1.out (.inr ⟨k1, k2⟩))
              clear H1 H3
              go_wp2_with fail
              go_ret
              exact ⟨by rw [HQ1.out]; rfl, HE.out⟩
            · have HNX := Lib.hid (H3.out ⟨k1, k2⟩)
              clear H1 H3
              go_wp2_with fail
              go_roundg (jn - (j + 1))
              case measure => omega
              case rel => exact ⟨j + 1, by omega, by omega, by go_num, HB4.out, HNX.out⟩
          · have g1 : ¬ n < m := by omega
            have g2 : m ≤ n := by omega
            have g3 : ¬ n ≤ m := by omega
            have HCS : (decide (m < 0) = true) ∨ (decide (m < 0) = false ∧ decide (gn ≤ n) = true) ∨ (decide (m < 0) = false ∧ decide (gn ≤ n) = false) := by simp; omega
            have H1 : Hid ((decide (m < 0) = true) ∨ (decide (m < 0) = false ∧ decide (gn ≤ n) = true) → q2 = 1) := fun h => HN1 (by unfold rejBad; rw [HGN.out]; simp at h ⊢; omega)
            have H3 : Hid ((decide (m < 0) = false ∧ decide (gn ≤ n) = false) → firstF (rejF g) (x.rejs.drop (j + 1)) = q2) := fun h1 => HN2 (by unfold rejBad; rw [HGN.out]; simp at h1 ⊢; omega)
            clear HN1 HN2
            rcases HCS with k1 | ⟨k1, k2⟩ | ⟨k1, k2⟩
            · have HQ1 := Lib.hid (H1.out (.inl k1))
              clear H1 H3
              go_wp2_with fail
              go_ret
              exact ⟨by rw [HQ1.out]; rfl, HE.out⟩
            · have HQ1 := Lib.hid (H1.out (.inr ⟨k1, k2⟩))
              clear H1 H3
              go_wp2_with fail
              go_ret
              exact ⟨by rw [HQ1.out]; rfl, HE.out⟩
            · have HNX := Lib.hid (H3.out ⟨k1, k2⟩)
              clear H1 H3
              go_wp2_with fail
              go_roundg (jn - (j + 1))
              case measure => omega
              case rel => exact ⟨j + 1, by omega, by omega, by go_num, HB4.out, HNX.out⟩
        · have hend : j = jn := by omega
          subst hend
          have hlt2 : ¬ (j : Int) < (j : Int) := by omega
          have HQ0 : Hid (q2 = 0) := by have h := HF.out; rw [firstF_end (by rw [HJNn.out]; exact Nat.le_refl _)] at h; exact h.symm
          go_wp2_with fail
          go_ret
          exact ⟨by rw [HQ0.out]; rfl, HB01.out.trans (HB.out.mono HB01.out.size)⟩
end Fb
end Go.Proofs.YtgcfpbjifjklbaaDoor
namespace Go.Proofs.YtgcfpbjifjklbaaDoor
open Go.RowKit
mutual
def Tree.size : Tree → Nat
  | .node _ _ ks => sizeL ks + 1
def sizeL : List Tree → Nat
  | [] => 0
  | k :: ks => Tree.size k + sizeL ks
end
theorem elTree : ElemT Tryd.prog 30 32 3 40 := ElemT.mk' (z := .agg #[.int .i64 0, .int .i64 0, .slice none 0 0]) Tryd.underlying30 (by kernel_rfl) rfl (by decide)
structure RowRel (T : Nat → Prop) (B b : Nat) (r tm : Int) (ts : List Tree) (vr : Value) (wr : World) : Prop where
  out : wr.heap[b]? = some (.cells #[.int .i64 r, .int .i64 tm, vr] 32 (0, 0))
  own : ∃ xs, wr.ownsRow B 32 3 vr ts.length xs ∧ RdAll (fun k => T k ∧ vr.ownBlock ≠ some k) wr (ts.map Tree.d) xs
  lt : b < B
  nt : ¬ T b
  le : B ≤ wr.heap.size
theorem RowRel.len {T : Nat → Prop} {B b : Nat} {r tm : Int} {ts : List Tree} {vr : Value} {wr : World} (h : RowRel T B b r tm ts vr wr) : ∃ a cap, vr = .slice a ts.length cap ∧ ts.length ≤ cap ∧ cap ≤ maxLen := by
  obtain ⟨xs, h1, _⟩ := h.own; exact own_len h1
theorem RowRel.keep {T : Nat → Prop} {B b : Nat} {r tm : Int} {ts : List Tree} {vr : Value} {wr w' : World} (h : RowRel T B b r tm ts vr wr) (hb : Below wr.heap.size wr w') : RowRel T B b r tm ts vr w' := by
  obtain ⟨xs, h1, h2⟩ := h.own
  exact ⟨bx_keep h.out hb, ⟨xs, own_keep h1 hb, h2.below hb⟩, h.lt, h.nt, Nat.le_trans h.le hb.size⟩
theorem RowRel.step {T : Nat → Prop} {B b g cap n : Nat} {r tm : Int} {ts : List Tree} {t : Tree} {vr v : Value} {w2 w3 : World} {xs : List Value} (h : RowRel T B b r tm ts vr w2) (hn : ts.length = n) (ho : w2.ownsRow B 32 3 vr n xs) (hd : RdAll (fun k => T k ∧ vr.ownBlock ≠ some k) w2 (ts.map Tree.d) xs)
    (hr : Rd (fun k => T k ∧ vr.ownBlock ≠ some k) w2 (.sl (t.kids.map Tree.d)) [v])
    (ho3 : w3.ownsRow B 32 3 (.slice (some ⟨g, 0, none⟩) (n + 1) cap) (n + 1) (xs ++ [.int .i64 t.rule, .int .i64 t.term, v])) (hg : w2.grownBy w3 vr.ownBlock) (hat : vr.ownBlock = some g ∨ w2.heap.size ≤ g) :
    w3.heap[b]? = some (.cells #[.int .i64 r, .int .i64 tm, vr] 32 (0, 0)) ∧ RowRel T B b r tm (ts ++ [t]) (.slice (some ⟨g, 0, none⟩) (n + 1) cap) (w3.setCell ⟨b, 2, none⟩ (.slice (some ⟨g, 0, none⟩) (n + 1) cap)) := by
  have hlt := (Array.getElem?_eq_some_iff.1 h.out).1
  have hb3 : w3.heap[b]? = some (.cells #[.int .i64 r, .int .i64 tm, vr] 32 (0, 0)) := by
    rw [hg.block b hlt (fun e => by have := (ho.lt b e.symm).1; have := h.lt; omega)]; exact h.out
  have hne : b ≠ g := by
    have h1 := (ho3.lt g rfl).1
    have := h.lt; omega
  refine ⟨hb3, ?_, ⟨xs ++ [.int .i64 t.rule, .int .i64 t.term, v], ?_, ?_⟩, h.lt, h.nt, by simp [World.setCell]; exact Nat.le_trans h.le hg.size⟩
  · rw [bx_set hb3]; rfl
  · rw [List.length_append, hn]
    exact ho3.kept (grown_cell w3 ⟨b, 2, none⟩ _) (.inr (by simpa [Value.ownBlock] using fun e => hne e.symm))
  · have h1 := own_step (S := T) (v' := .slice (some ⟨g, 0, none⟩) (n + 1) cap) hd (RdAll.one (rd_tree hr)) hg (by
      rcases hat with e | e
      · exact .inl e.symm
      · exact .inr ⟨g, rfl, e⟩)
    rw [List.map_append]
    refine RdAll.keep (fun k hk _ => ⟨hk, Below.heap_setCell _ _ _ _ ?_⟩) _ _ h1
    intro e
    simp at e
    subst e
    exact h.nt hk.1
structure CopyRel (t : Tree) (w : World) (i : Nat) (vr : Value) (wr : World) : Prop where
  row : RowRel (fun k => w.heap.size + 1 + 1 + 1 ≤ k) (w.heap.size + 1 + 1 + 1) (w.heap.size + 1 + 1) t.rule t.term (t.kids.take i) vr wr
  res : wr.heap[w.heap.size + 1]? = some (.cells #[.int .i64 0, .int .i64 0, .slice none 0 0] 32 (0, 0))
  bel : Below w.heap.size w wr
theorem below_box3 {B b : Nat} {w w' : World} (h : Below B w w') (hb : B ≤ b) (x y z : Value) : Below B w (((w'.setCell ⟨b, 0, none⟩ x).setCell ⟨b, 1, none⟩ y).setCell ⟨b, 2, none⟩ z) :=
  ((h.setCell (p := ⟨b, 0, none⟩) hb x).setCell (p := ⟨b, 1, none⟩) hb y).setCell (p := ⟨b, 2, none⟩) hb z
end Go.Proofs.YtgcfpbjifjklbaaDoor
namespace Go.Proofs.YtgcfpbjifjklbaaDoor
open Go.RowKit
def kidAt (t : Tree) (i : Int) : Option Tree := if t.rule = -1 ∨ i < 0 then none else t.kids[i.toNat]?
def belowT : Tree → List Int → Option Tree
  | t, [] => some t
  | t, i :: p => (kidAt t i).bind fun k => belowT k p
theorem belowT_drop {t : Tree} {p : List Int} {i : Nat} (h : i < p.length) : belowT t (p.drop i) = (kidAt t p[i]).bind fun k => belowT k (p.drop (i + 1)) := by
  rw [List.drop_eq_getElem_cons h, belowT]
theorem kidAt_in {t : Tree} {i : Nat} (hr : t.rule ≠ -1) (h : i < t.kids.length) : kidAt t (i : Int) = some t.kids[i] := by
  simp [kidAt, hr, h]
def noTree : Tree := .node 0 0 []
theorem bx_set3 {w : World} {b : Nat} {x0 x1 x2 : Value} {T : TypeId} (h : w.heap[b]? = some (.cells #[x0, x1, x2] T (0, 0))) (y0 y1 y2 : Value) : (((w.setCell ⟨b, 0, none⟩ y0).setCell ⟨b, 1, none⟩ y1).setCell ⟨b, 2, none⟩ y2).heap[b]? = some (.cells #[y0, y1, y2] T (0, 0)) := by
  rw [bx_set (bx_set (bx_set h 0 y0) 1 y1) 2 y2]; rfl
theorem bx_other3 {w : World} {b c : Nat} {o : Obj} (h : w.heap[b]? = some o) (hne : b ≠ c) (y0 y1 y2 : Value) : (((w.setCell ⟨c, 0, none⟩ y0).setCell ⟨c, 1, none⟩ y1).setCell ⟨c, 2, none⟩ y2).heap[b]? = some o :=
  bx_other (bx_other (bx_other h hne _ _) hne _ _) hne _ _
structure DescRel (t : Tree) (p : List Int) (w : World) (i : Nat) (cur : Tree) (v : Value) (wr : World) : Prop where
  box : wr.heap[w.heap.size]? = some (.cells #[.int .i64 cur.rule, .int .i64 cur.term, v] 32 (0, 0))
  kid : Rd AnyB w (.sl (cur.kids.map Tree.d)) [v]
  res : wr.heap[w.heap.size + 1]? = some (.cells #[.int .i64 0, .int .i64 0, .slice none 0 0] 32 (0, 0))
  eq : belowT cur (p.drop i) = belowT t p
  bel : Below w.heap.size w wr
theorem DescRel.step {t cur k : Tree} {p : List Int} {w wr : World} {i : Nat} {v u : Value} (h : DescRel t p w i cur v wr) (hi : i < p.length) (hk : kidAt cur p[i] = some k) (hu : Rd AnyB w (.sl (k.kids.map Tree.d)) [u]) :
    DescRel t p w (i + 1) k u (((wr.setCell ⟨w.heap.size, 0, none⟩ (.int .i64 k.rule)).setCell ⟨w.heap.size, 1, none⟩ (.int .i64 k.term)).setCell ⟨w.heap.size, 2, none⟩ u) :=
  ⟨bx_set3 h.box _ _ _, hu, bx_other3 h.res (by omega) _ _ _, by rw [← h.eq, belowT_drop hi, hk]; rfl, below_box3 h.bel (Nat.le_refl _) _ _ _⟩
def DescPost (x : Option Tree) (c : Option Tree → Value) (w : World) (e : Ending) (w' : World) : Prop :=
  ∃ v, e = .returned (.tuple #[.agg #[.int .i64 (x.getD noTree).rule, .int .i64 (x.getD noTree).term, v], c x]) ∧ Rd AnyB w' (.sl ((x.getD noTree).kids.map Tree.d)) [v] ∧ Below w.heap.size w w'
def foundB (x : Option Tree) : Value := .bool x.isSome
theorem desc0 {t : Tree} {p : List Int} {a : Option Addr} {n cap : Nat} {w : World} (hv : Rd AnyB w (.sl (t.kids.map Tree.d)) [.slice a n cap]) :
    DescRel t p w 0 t (.slice a n cap) ((w.alloc (.cells #[.int .i64 t.rule, .int .i64 t.term, .slice a n cap] 32)).alloc (.cells #[.int .i64 0, .int .i64 0, .slice none 0 0] 32)) :=
  ⟨bx_keep (bx_new _ _ _ rfl) ((Below.refl _ _).alloc (Nat.le_refl _) _), hv, bx_new _ _ _ (by simp), rfl, ((Below.refl _ _).alloc (Nat.le_refl _) _).alloc (by simp) _⟩
set_option maxHeartbeats 2000000 in
set_option maxRecDepth 100000 in
theorem belowE (t : Tree) (v : Value) (ap : Option Addr) (cp : Nat) (p : List Int) (w : World) (hv : Rd AnyB w (.sl (t.kids.map Tree.d)) [v]) (hp : Sl w (.slice ap p.length cp) (ints p)) :
    Calls Tryd.prog 45 #[.agg #[.int .i64 t.rule, .int .i64 t.term, v], .slice ap p.length cp] w (DescPost (belowT t p) foundB w) := by
  obtain ⟨a, cap, rfl, -, -⟩ := hv.form
  obtain ⟨n, HN⟩ := nameIt (t.kids.map Tree.d).length
  rw [HN.out] at hv
  rw [HN.out]
  have hpl := hp.len
  unfold maxLen at hpl
  obtain ⟨-, hp1, hp2⟩ := hpl
  have HP := Lib.hid hp
  have HR0 := Lib.hid (desc0 (p := p) hv)
  obtain ⟨w0, HW0⟩ := nameIt ((w.alloc (.cells #[.int .i64 t.rule, .int .i64 t.term, .slice a n cap] 32)).alloc (.cells #[.int .i64 0, .int .i64 0, .slice none 0 0] 32))
  rw [HW0.out] at HR0
  clear hv hp
  go_enter Tryd.func45, Tryd.ntmps45
  go_wp2_with fail
  rw [HW0.out]
  go_loopg [10] p.length (fun gg v10 wr => ∃ (i : Nat) (cur : Tree) (v : Value), i ≤ p.length ∧ p.length - i ≤ gg ∧ v10 = .int .i64 i ∧ Hid (DescRel t p w i cur v wr))
  case atStart => exact ⟨0, t, _, by omega, by omega, rfl, HR0⟩
  case round =>
    clear HR0 HW0 HN
    obtain ⟨i, cur, v, hi, hg, rfl, HR⟩ := hrel
    obtain ⟨av, cv, rfl, hcv1, hcv2⟩ := HR.out.kid.form
    obtain ⟨nv, HNV⟩ := nameIt (cur.kids.map Tree.d).length
    rw [HNV.out] at HR hcv1
    have HNK : Hid (cur.kids.length = nv) := by rw [← HNV.out]; show _ = _; simp
    unfold maxLen at hcv2
    have hbox := HR.out.box
    have hlt1 := (Array.getElem?_eq_some_iff.1 HR.out.res).1
    obtain ⟨y0, y1, y2⟩ := bx_cells3 HR.out.res
    obtain ⟨f0, f1, f2⟩ := bx_free3 HR.out.res
    obtain ⟨g0, g1, g2⟩ := bx_free3 hbox
    obtain ⟨r, HXr⟩ := nameIt cur.rule
    obtain ⟨tm, HXt⟩ := nameIt cur.term
    rw [HXr.out, HXt.out] at hbox
    obtain ⟨x0, x1, x2⟩ := bx_cells3 hbox
    have hne1 : ¬ w.heap.size = w.heap.size + 1 := by omega
    have hne2 : ¬ w.heap.size + 1 = w.heap.size := by omega
    clear hbox
    by_cases hlt : i < p.length
    · have hlt' : (i : Int) < (p.length : Int) := by omega
      obtain ⟨ba, oa, hae, hca⟩ := (HP.out.keep HR.out.bel).at hlt
      have c1 := hca i (by rw [ints_len]; exact hlt)
      rw [ints_get] at c1
      obtain ⟨x, HX⟩ := nameIt (p[i]'hlt)
      rw [HX.out] at c1
      subst hae
      clear hca
      cases hk : kidAt cur x with
      | none =>
        have HE : Hid (belowT t p = none) := by show _ = _; rw [← HR.out.eq, belowT_drop hlt, HX.out, hk]; rfl
        have hcase : r = -1 ∨ (r ≠ -1 ∧ x < 0) ∨ (r ≠ -1 ∧ ∃ j : Nat, x = (j : Int) ∧ nv ≤ j) := by
          by_cases e1 : r = -1
          · exact .inl e1
          · by_cases e2 : x < 0
            · exact .inr (.inl ⟨e1, e2⟩)
            · refine .inr (.inr ⟨e1, x.toNat, by omega, ?_⟩)
              have h1 := HXr.out
              have h2 := HNK.out
              simp [kidAt, h1, e1, e2] at hk
              omega
        have HF : Hid (∀ w', Below w.heap.size w w' → DescPost (belowT t p) foundB w (.returned (.tuple #[.agg #[.int .i64 0, .int .i64 0, .slice none 0 0], .bool false])) w') := by
          intro w' hb
          rw [HE.out]
          exact ⟨_, rfl, rd_nil _ _, hb⟩
        clear hk HE
        rcases hcase with hr | ⟨hr, hx⟩ | ⟨hr, j, rfl, hj⟩
        · have hrb : (r == -1) = true := by simpa using hr
          clear hr
          go_wp2_with fail
          exact bodyPost_ret (v := .tuple #[.agg #[.int .i64 0, .int .i64 0, .slice none 0 0], .bool false]) (by simp [results, Tryd.results45, go_sem, y0, y1, y2]) rfl (HF.out _ (below_box3 HR.out.bel (by omega) _ _ _))
        · have hrb : (r == -1) = false := by simpa using hr
          have hxb : decide (x < 0) = true := by simpa using hx
          clear hr
          go_wp2_with fail
          exact bodyPost_ret (v := .tuple #[.agg #[.int .i64 0, .int .i64 0, .slice none 0 0], .bool false]) (by simp [results, Tryd.results45, go_sem, y0, y1, y2]) rfl (HF.out _ (below_box3 HR.out.bel (by omega) _ _ _))
        · have hrb : (r == -1) = false := by simpa using hr
          have hxb : decide ((j : Int) < 0) = false := by simp
          have hj' : (nv : Int) ≤ (j : Int) := by omega
          clear hr
          go_wp2_with fail
          exact bodyPost_ret (v := .tuple #[.agg #[.int .i64 0, .int .i64 0, .slice none 0 0], .bool false]) (by simp [results, Tryd.results45, go_sem, y0, y1, y2]) rfl (HF.out _ (below_box3 HR.out.bel (by omega) _ _ _))
      | some k =>
        have hcase : r ≠ -1 ∧ ∃ j : Nat, x = (j : Int) ∧ ∃ h : j < cur.kids.length, cur.kids[j] = k := by
          have h1 := HXr.out
          unfold kidAt at hk
          rw [h1] at hk
          by_cases e1 : r = -1
          · simp [e1] at hk
          · by_cases e2 : x < 0
            · simp [e2] at hk
            · simp [e1, e2] at hk
              obtain ⟨h3, h4⟩ := List.getElem?_eq_some_iff.1 hk
              exact ⟨e1, x.toNat, by omega, h3, h4⟩
        obtain ⟨hr, j, rfl, hj, hjk⟩ := hcase
        obtain ⟨b, off, u, hae, -, hbl, e0, e1, e2, hkid⟩ := HR.out.kid.kid hj
        rw [hjk] at e0 e1 hkid
        obtain ⟨au, cu, rfl, -, -⟩ := hkid.form
        obtain ⟨nu, HNU⟩ := nameIt (k.kids.map Tree.d).length
        rw [HNU.out] at e2 hkid
        have hbel := HR.out.bel
        have d0 := (hbel.cell (p := ⟨b, off + j * 3, none⟩) hbl).trans e0
        have d1 := (hbel.cell (p := ⟨b, off + j * 3 + 1, none⟩) hbl).trans e1
        have d2 := (hbel.cell (p := ⟨b, off + j * 3 + 2, none⟩) hbl).trans e2
        have HST := Lib.hid (HR.out.step hlt (by rw [HX.out]; exact hk) hkid)
        obtain ⟨q0, HQ0⟩ := nameIt k.rule
        obtain ⟨q1, HQ1⟩ := nameIt k.term
        rw [HQ0.out] at d0 HST
        rw [HQ1.out] at d1 HST
        have hrb : (r == -1) = false := by simpa using hr
        have hxb : decide ((j : Int) < 0) = false := by simp
        have hjn : j < nv := by rw [← HNK.out]; exact hj
        have hj' : (j : Int) < (nv : Int) := by omega
        have hbne : ¬ w.heap.size = b := by omega
        subst hae
        clear hkid hbel e0 e1 e2 hk hjk hj hr
        go_wp2_with fail
        go_roundg (p.length - (i + 1))
        case measure => omega
        case rel => exact ⟨i + 1, k, _, by omega, by omega, by go_num, HST⟩
    · have hlt' : ¬ (i : Int) < (p.length : Int) := by omega
      have HE : Hid (belowT t p = some cur) := by show _ = _; rw [← HR.out.eq, List.drop_of_length_le (by omega)]; rfl
      go_wp2_with fail
      refine bodyPost_ret (v := .tuple #[.agg #[.int .i64 r, .int .i64 tm, .slice av nv cv], .bool true]) (by simp [results, Tryd.results45, go_sem, y0, y1, y2]) rfl ?_
      rw [HE.out]
      refine ⟨_, by rw [← HXr.out, ← HXt.out]; rfl, ?_, below_box3 HR.out.bel (by omega) _ _ _⟩
      exact HR.out.kid.below (below_box3 HR.out.bel (by omega) _ _ _)
end Go.Proofs.YtgcfpbjifjklbaaDoor
namespace Go.Proofs.YtgcfpbjifjklbaaDoor
open Go.RowKit
def leavesOf (l : List Tree) : List Int := l.filterMap fun t => if t.rule = -1 then some t.term else none
theorem leavesOf_le (l : List Tree) : (leavesOf l).length ≤ l.length := List.length_filterMap_le _ _
def GatherI (f : List Tree → List Int) (w0 : World) (nb : Nat) (s : List Tree) (S : Nat → Prop) (W : World) : Prop :=
  Below w0.heap.size w0 W ∧ w0.heap.size ≤ nb ∧ ∃ v, W.heap[nb]? = some (.cells #[v] 37 (0, 0)) ∧ W.ownsRow w0.heap.size 3 1 v (f s).length (ints (f s)) ∧ v.ownBlock ≠ some nb ∧ ∀ k, S k ↔ (k = nb ∨ v.ownBlock = some k)
theorem gather_own {f : List Tree → List Int} {w0 : World} {nb : Nat} {s : List Tree} {S : Nat → Prop} {W : World} (h : GatherI f w0 nb s S W) : ∀ k, S k → w0.heap.size ≤ k ∧ k < W.heap.size := by
  intro k hk
  obtain ⟨h1, h2, v, h3, h4, h5, h6⟩ := h
  rw [h6] at hk
  rcases hk with rfl | hk
  · exact ⟨h2, (Array.getElem?_eq_some_iff.1 h3).1⟩
  · exact h4.lt k hk
theorem gather_keep {f : List Tree → List Int} {w0 : World} {nb : Nat} {s : List Tree} {S : Nat → Prop} {W W' : World} (h : GatherI f w0 nb s S W) (hb : Below W.heap.size W W') : GatherI f w0 nb s S W' := by
  obtain ⟨h1, h2, v, h3, h4, h5, h6⟩ := h
  exact ⟨h1.trans (hb.mono h1.size), h2, v, bx_keep h3 hb, own_keep h4 hb, h5, h6⟩
theorem gather_step {f : List Tree → List Int} {w0 : World} {nb : Nat} {s s' : List Tree} {S : Nat → Prop} {W W0 W1 : World} {v v' : Value} {x : Int} (hf : f s' = f s ++ [x])
    (h1 : Below w0.heap.size w0 W) (h2 : w0.heap.size ≤ nb) (h3 : W.heap[nb]? = some (.cells #[v] 37 (0, 0))) (h4 : W.ownsRow w0.heap.size 3 1 v (f s).length (ints (f s))) (h5 : v.ownBlock ≠ some nb) (h6 : ∀ k, S k ↔ (k = nb ∨ v.ownBlock = some k))
    (hb : Below W.heap.size W W0) (ho : W1.ownsRow w0.heap.size 3 1 v' ((f s).length + 1) (ints (f s) ++ [.int .i64 x])) (hg : W0.grownBy W1 v.ownBlock) (hat : v'.ownBlock = v.ownBlock ∨ ∃ k, v'.ownBlock = some k ∧ W0.heap.size ≤ k) :
    ∃ S', GatherI f w0 nb s' S' (W1.setCell ⟨nb, 0, none⟩ v') ∧ Keeps S W (W1.setCell ⟨nb, 0, none⟩ v') ∧ ∀ k, S' k → S k ∨ W.heap.size ≤ k := by
  have hnb := (Array.getElem?_eq_some_iff.1 h3).1
  have h3' := bx_keep h3 hb
  have hnb' := (Array.getElem?_eq_some_iff.1 h3').1
  have hne' : v'.ownBlock ≠ some nb := by
    rcases hat with e | ⟨k, e, hk⟩
    · rw [e]; exact h5
    · rw [e]; intro e; cases e; omega
  have h3'' : W1.heap[nb]? = some (.cells #[v] 37 (0, 0)) := by rw [hg.block nb hnb' (fun e => h5 e.symm)]; exact h3'
  have hbel : Below w0.heap.size w0 W1 := (h1.trans (hb.mono h1.size)).grown hg (Nat.le_trans h1.size hb.size) (fun k e => (h4.lt k e).1)
  refine ⟨fun k => k = nb ∨ v'.ownBlock = some k, ⟨hbel.setCell h2 _, h2, v', ?_, ?_, hne', fun _ => Iff.rfl⟩, ?_, ?_⟩
  · rw [bx_set h3'']; rfl
  · rw [hf]
    have e : ints (f s ++ [x]) = ints (f s) ++ [.int .i64 x] := by simp [ints]
    rw [e, List.length_append]
    exact ho.kept (grown_cell W1 ⟨nb, 0, none⟩ v') (.inr (by exact hne'))
  · refine ⟨hg.os.trans hb.os, hg.tape.trans hb.tape, hg.output.trans hb.output, by simp [World.setCell]; exact Nat.le_trans hb.size hg.size, fun k hk hn => ?_⟩
    rw [h6] at hn
    have k1 : k ≠ nb := fun e => hn (.inl e)
    have k2 : v.ownBlock ≠ some k := fun e => hn (.inr e)
    rw [Below.heap_setCell _ _ _ _ k1, hg.block k (Nat.lt_of_lt_of_le hk hb.size) (fun e => k2 e.symm), hb.block k hk]
  · rintro k (rfl | hk)
    · exact .inl ((h6 k).2 (.inl rfl))
    · rcases hat with e | ⟨j, e, hj⟩
      · exact .inl ((h6 k).2 (.inr (by rw [← e]; exact hk)))
      · rw [e] at hk; cases hk; exact .inr (by have := hb.size; omega)
set_option maxHeartbeats 400000 in
theorem wordF (w0 : World) (nb N : Nat) (hN : N * 8 ≤ 140737488355328) : NodeFn 59 #[.pointer (some ⟨nb, 0, none⟩)] w0 (fun _ => true) N (GatherI leavesOf w0 nb) where
  below := fun h => h.1
  own := gather_own
  keep := gather_keep
  call := by
    intro s S W t v h hv hs
    obtain ⟨a, n, cap, rfl⟩ := treeBox hv
    have HI := Lib.hid h
    obtain ⟨h1, h2, u, h3, h4, h5, h6⟩ := h
    have H1 := Lib.hid h1
    have H3 := Lib.hid h3
    have H4 := Lib.hid h4
    have H5 := Lib.hid h5
    have H6 := Lib.hid h6
    have c0 := bx_cells1 h3
    have f0 := bx_free1 h3
    have hlt := (Array.getElem?_eq_some_iff.1 h3).1
    have hlen := leavesOf_le s
    obtain ⟨au, cu, rfl, hu1, hu2⟩ := own_len h4
    unfold maxLen at hu2
    clear h1 h3 h4 h5 h6 hv
    have hb := (Below.refl W.heap.size W).alloc (Nat.le_refl _) (.cells #[.int .i64 t.rule, .int .i64 t.term, .slice a n cap] 32)
    have HB := Lib.hid hb
    clear hb
    obtain ⟨r, HR⟩ := nameIt t.rule
    obtain ⟨tm, HT⟩ := nameIt t.term
    rw [HR.out, HT.out] at HB
    rw [HR.out, HT.out]
    by_cases hr : r = -1
    · subst hr
      have HE : Hid (leavesOf (s ++ [t]) = leavesOf s ++ [tm]) := by show _ = _; simp [leavesOf, HR.out, HT.out]
      go_enter Tryd.func59, Tryd.ntmps59
      go_wp2_with (at_builtin; refine wp_app1at elInt rfl _ _ rfl (own_keep H4.out HB.out) rfl rfl (by simp) rfl rfl (by omega) (by unfold maxLen; omega) (by have := H1.out.size; simp; omega) ?_)
      intro v' w' ho hg hat
      obtain ⟨a', c', rfl, -, -⟩ := own_len ho
      have HST := Lib.hid (gather_step HE.out H1.out h2 H3.out H4.out H5.out H6.out HB.out ho hg (by simpa using hat))
      have hnb' : nb < w'.heap.size := by have := hg.size; simp at this; omega
      have h3 : w'.heap[nb]? = some (.cells #[.slice au (leavesOf s).length cu] 37 (0, 0)) := by
        rw [hg.block nb (by simp; omega) (fun e => H5.out e.symm)]; exact bx_keep H3.out HB.out
      have f1 := bx_free1 h3
      have f2 := bx_cells1 h3
      clear ho hg hat h3
      go_wp2
      go_ret
      obtain ⟨S', i1, i2, i3⟩ := HST.out
      exact ⟨S', rfl, i1, i2, i3⟩
    · have hr' : (r == -1) = false := by simpa using hr
      have HE : Hid (leavesOf (s ++ [t]) = leavesOf s) := by show _ = _; simp [leavesOf, HR.out, hr]
      clear hr
      go_enter Tryd.func59, Tryd.ntmps59
      go_wp2
      go_ret
      refine ⟨S, rfl, ?_, Below.keeps HB.out, fun k h => .inl h⟩
      have := gather_keep HI.out HB.out
      unfold GatherI at this ⊢
      rw [HE.out]; exact this
def IntsPost (l : List Int) (w : World) (e : Ending) (w' : World) : Prop := ∃ v, e = .returned v ∧ Sl w' v (ints l) ∧ Below w.heap.size w w'
set_option maxHeartbeats 400000 in
theorem wordT (t : Tree) (v : Value) (w : World) (hv : Rd AnyB w (.sl (t.kids.map Tree.d)) [v]) (hN : (nodes t).length * 8 ≤ 140737488355328) :
    Calls Tryd.prog 38 #[.agg #[.int .i64 t.rule, .int .i64 t.term, v]] w (IntsPost (leavesOf (nodes t)) w) := by
  obtain ⟨a, n, cap, rfl⟩ := treeBox hv
  have hI : GatherI leavesOf w (w.heap.size + 1) [] (fun k => k = w.heap.size + 1 ∨ (Value.slice none 0 0).ownBlock = some k) ((w.alloc (.cells #[.int .i64 t.rule, .int .i64 t.term, .slice a n cap] 32)).alloc (.cells #[.slice none 0 0] 37)) :=
    ⟨((Below.refl _ _).alloc (Nat.le_refl _) _).alloc (by simp) _, by omega, _, bx_new _ _ _ (by simp), World.ownsRow_nil _ _ _ _, by simp [Value.ownBlock], fun _ => Iff.rfl⟩
  have hw := walkE 59 #[.pointer (some ⟨w.heap.size + 1, 0, none⟩)] w (fun _ => true) (nodes t).length _ (fun _ _ => by kernel_rfl) (wordF w (w.heap.size + 1) (nodes t).length hN) (nodes t).length t _ [] _ _ (Nat.le_refl _) hI hv (by simp)
  have HW := Lib.hid hw
  clear hw hI hv hN
  go_enter Tryd.func38, Tryd.ntmps38
  go_wp2_with fail
  refine HW.out.mono ?_
  rintro e w1 ⟨S', rfl, ⟨h1, h2, u, h3, h4, h7, h8⟩, h5, h6⟩
  rw [upTo_all (by simp)] at h4
  simp only [List.nil_append] at h4
  have c0 := bx_cells1 h3
  have HB := Lib.hid h1
  have HS := Lib.hid (sl_of_own h4)
  obtain ⟨a', c', rfl, -, -⟩ := own_len h4
  clear h1 h2 h3 h4 h5 h6 h7 h8
  go_wp2
  go_ret
  exact ⟨_, rfl, HS.out, HB.out⟩
end Go.Proofs.YtgcfpbjifjklbaaDoor
namespace Go.Proofs.YtgcfpbjifjklbaaDoor
open Go.RowKit
def lv (t : Tree) : Nat := (leavesOf (nodes t)).length
def lvs : List Tree → Nat
  | [] => 0
  | k :: ks => lv k + lvs ks
theorem leavesOf_append (a b : List Tree) : leavesOf (a ++ b) = leavesOf a ++ leavesOf b := by simp [leavesOf]
theorem lvs_nodesL : ∀ ks : List Tree, (leavesOf (nodesL ks)).length = lvs ks
  | [] => by simp [nodesL, leavesOf, lvs]
  | k :: ks => by rw [nodesL, leavesOf_append, List.length_append, lvs, lvs_nodesL ks]; rfl
theorem lv_leaf {t : Tree} (h : t.rule = -1) : lv t = 1 := by
  unfold lv
  rw [nodes_eq]
  simp [kidsOf, h, nodesL, leavesOf]
theorem lv_inner {t : Tree} (h : t.rule ≠ -1) : lv t = lvs t.kids := by
  unfold lv
  rw [nodes_eq, ← lvs_nodesL]
  simp [kidsOf, h, leavesOf]
theorem lvs_append : ∀ (a b : List Tree), lvs (a ++ b) = lvs a + lvs b
  | [], b => by simp [lvs]
  | x :: a, b => by rw [List.cons_append, lvs, lvs, lvs_append a b]; omega
theorem lvs_take_succ {ks : List Tree} {i : Nat} (h : i < ks.length) : lvs (ks.take (i + 1)) = lvs (ks.take i) + lv ks[i] := by
  induction ks generalizing i with
  | nil => simp at h
  | cons k ks ih =>
    cases i with
    | zero => simp [lvs]
    | succ i => simp only [List.take_succ_cons, lvs, List.getElem_cons_succ]; rw [ih (by simpa using h)]; omega
mutual
def pl : Tree → Nat → List (Nat × Nat)
  | .node r t ks, n => (n, n + lv (.node r t ks)) :: (if r = -1 then [] else plL ks n)
def plL : List Tree → Nat → List (Nat × Nat)
  | [], _ => []
  | k :: ks, n => pl k n ++ plL ks (n + lv k)
end
mutual
def paths : Tree → List (List Int)
  | .node r _ ks => [] :: (if r = -1 then [] else pathsL 0 ks)
def pathsL : Nat → List Tree → List (List Int)
  | _, [] => []
  | i, k :: ks => (paths k).map (fun p => (i : Int) :: p) ++ pathsL (i + 1) ks
end
def rangeT : Tree → List Int → Nat × Nat
  | t, [] => (0, lv t)
  | t, i :: p => match t.kids[i.toNat]? with
    | some k => (lvs (t.kids.take i.toNat) + (rangeT k p).1, lvs (t.kids.take i.toNat) + (rangeT k p).2)
    | none => (0, 0)
def shift (n : Nat) (x : Nat × Nat) : Nat × Nat := (n + x.1, n + x.2)
theorem shift_shift (a b : Nat) (x : Nat × Nat) : shift a (shift b x) = shift (a + b) x := by simp [shift, Nat.add_assoc]
theorem rangeT_cons {t k : Tree} {i : Nat} {p : List Int} (h : t.kids[i]? = some k) : rangeT t ((i : Int) :: p) = shift (lvs (t.kids.take i)) (rangeT k p) := by
  rw [rangeT]
  simp [h, shift]
mutual
theorem pl_paths : ∀ (t : Tree) (n : Nat), pl t n = (paths t).map fun p => shift n (rangeT t p)
  | .node r tm ks, n => by
    rw [pl, paths]
    by_cases h : r = -1
    · simp [h, shift, rangeT]
    · rw [if_neg h, if_neg h, List.map_cons]
      congr 1
      have := plL_paths ks (.node r tm ks) [] ks n (by simp [Tree.kids]) rfl
      simpa [lvs] using this
theorem plL_paths : ∀ (ks : List Tree) (t : Tree) (pre all : List Tree) (n : Nat), t.kids = pre ++ ks → all = ks → plL ks (n + lvs pre) = (pathsL pre.length ks).map fun p => shift n (rangeT t p)
  | [], t, pre, all, n, h, _ => by simp [plL, pathsL]
  | k :: ks, t, pre, all, n, h, _ => by
    rw [plL, pathsL, List.map_append, List.map_map]
    congr 1
    · rw [pl_paths k]
      refine List.map_congr_left fun p _ => ?_
      have hk : t.kids[pre.length]? = some k := by rw [h]; simp
      simp only [Function.comp]
      rw [rangeT_cons hk, shift_shift, h]
      simp
    · have := plL_paths ks t (pre ++ [k]) ks n (by rw [h]; simp) rfl
      have e : lvs (pre ++ [k]) = lvs pre + lv k := by rw [lvs_append]; simp [lvs]
      rw [e, List.length_append] at this
      rw [Nat.add_assoc]
      exact this
end
end Go.Proofs.YtgcfpbjifjklbaaDoor
namespace Go.Proofs.YtgcfpbjifjklbaaDoor
open Go.RowKit
theorem own_form {w : World} {B : Nat} {e : TypeId} {s : Nat} {v : Value} {n : Nat} {xs : List Value} (h : w.ownsRow B e s v n xs) (hn : 0 < n) : ∃ g cap, v = .slice (some ⟨g, 0, none⟩) n cap := by
  rcases h.2 with ⟨_, rfl⟩ | ⟨g, cap, cur, rfl, _⟩
  · omega
  · exact ⟨g, cap, rfl⟩
mutual
theorem pl_len : ∀ (t : Tree) (n : Nat), (pl t n).length = (nodes t).length
  | .node r tm ks, n => by
    rw [pl, nodes]
    by_cases h : r = -1
    · simp [h]
    · simp [h, plL_len ks n]
theorem plL_len : ∀ (ks : List Tree) (n : Nat), (plL ks n).length = (nodesL ks).length
  | [], n => by simp [plL, nodesL]
  | k :: ks, n => by simp [plL, nodesL, pl_len k n, plL_len ks]
end
theorem lv_le (t : Tree) : lv t ≤ (nodes t).length := leavesOf_le _
end Go.Proofs.YtgcfpbjifjklbaaDoor
