/- census.Counter.Of. A table in memory: rows of one-cell values, made from the first to the last. The closing of a table of edges in place; the answers written down. Plain: the passes over the table of lengths end; the counter's table written to. Plain: how many trees of at most so many levels there are. The lengths of words: two ways to reckon them, in plain Lean. Maps that are sets: only 'true' is stored. Keys of rules, as RuleFault makes them: plain law. -/
import Derived.Test.YtbnpemgmdnghgaaJCensusTellsRow4
import Derived.Test.YtbnpemgmdnghgaaJCensusTellsRow2
import Derived.Test.YtbnpemgmdnghgaaJCensusTellsRow1
import Derived.Maps.OwnSet
import Derived.Maps.Views
namespace Go.Proofs.Ytbnpemgmdnghgaa
open Go.RowKit
namespace Cs

theorem still_quiet {P : Program} {ops : Array Oper} {w : World} {Q : Act → Prop} : ∀ (l : List Oper) (a : Act), wpQuiet P ops (fun W => W = w) Q l a → wpStill P ops w Q l a
  | [], _, h => h
  | o :: rest, a, h => by
    rw [wpQuiet] at h
    rw [wpStill]
    by_cases hw : Region.wanted o (yielded ops a.tmps) = true
    · rw [if_pos hw] at h ⊢
      obtain ⟨v, h1, h2⟩ := h
      have h3 := h1 w rfl
      have ih := still_quiet rest _ h2
      unfold Oper.quietAt at h3
      unfold Oper.still
      generalize (execOp a.eval o).run P w = res at h3 ⊢
      unfold Oper.quietUpon at h3
      unfold Oper.stillUpon
      split at h3
      · obtain ⟨rfl, rfl⟩ := h3; exact ⟨rfl, ih⟩
      · obtain ⟨rfl, rfl⟩ := h3; exact ⟨rfl, ih⟩
      · obtain ⟨rfl, h4⟩ := h3; exact ⟨rfl, v, h4, ih⟩
      · exact h3.elim
    · rw [if_neg hw] at h ⊢
      exact still_quiet rest _ h

/-- a valid grammar's rules -/
def okR (N : Nat) (g : Gram) : Prop := ∀ r ∈ g.rules, (∀ s ∈ r.right, okS N s)
set_option maxHeartbeats 8000000 in
set_option maxRecDepth 100000 in
theorem ofE {g : Gram} {ra : Option Addr} {rcap : Nat} {N n : Nat} {d : Cid} {S M T : Nat → Nat → Bool} {size : Nat} {w0 : World} (hn : n ≤ 1000) (hN : N ≤ 1000) (hg : okR N g) (hE : EndsK g.rules S M T N n size) (hR : Rd AnyB w0 (.sl (g.rules.map Rule.d)) [.slice ra g.rules.length rcap]) :
    ∀ f, OfP g (.slice ra g.rules.length rcap) N n d S M T size (valK g.rules S M MaxC (-1) size) w0 f := by
  intro f
  induction f with
  | zero =>
    intro s k C W hs hk ho h
    obtain ⟨w1, HW1⟩ := nameIt (W.alloc (.cells #[.bool s.term, .int .i64 s.n] 65))
    have hb1 : Below W.heap.size W w1 := by rw [← HW1.out]; exact (Below.refl _ _).alloc (Nat.le_refl _) _
    have X0 : Hid (w1.heap[W.heap.size]? = some (.cells #[.bool s.term, .int .i64 s.n] 65 (0, 0))) := by rw [← HW1.out]; exact bx_new _ _ _ rfl
    have HC1 := Lib.hid (h.keep hb1)
    have HFR1 : Hid (Fr N d W w1) := Fr.of hb1
    have HNB : Hid (∀ a, a < N → d.rc a ≠ W.heap.size) := h.big (Nat.le_refl _)
    have HHA := Lib.hid (hasE s hs k hk w1 HC1.out.ci)
    have HV : Hid (symV S (valK g.rules S M MaxC (-1) size) s k = if hasK S s k = false then 0 else if s.term then 1 else valK g.rules S M MaxC (-1) size s.n.toNat k) := rfl
    have HEQ : Hid (∀ A, A < N → valK g.rules S M MaxC (-1) size A k = if S A k = false then 0 else if M A k then (-1) else g.rules.foldl (fun sum r => if r.left = (A : Int) then min (IntKind.i64.wrap (sum + listV S MaxC (symV S (valK g.rules S M MaxC (-1) size)) r.right k)) MaxC else sum) 0) := fun A hA => valK_eq hE hA hk
    have HFINE : Hid (∀ A, A < N → M A k = false → ∀ r ∈ g.rules, r.left = (A : Int) → Fine S (fun B j => okK T M n size (reachN T size (A * (n + 1) + k)) B j) r.right k) := by
      intro A hA hM r hr hl p s' i a h1 h2 h3 h4 h5 h6
      exact (hE A k r hA hk hM hr hl p s' i a h1 h2 h3 h4 h5 h6).2.2
    obtain ⟨V, HVN⟩ := nameIt (valK g.rules S M MaxC (-1) size)
    rw [HVN.out] at HV HC1 h 
    simp only [HVN.out] at HEQ
    have HBX : Hid (hasK S s k = if s.term then decide (k = 1) else S s.n.toNat k) := rfl
    obtain ⟨hv, HHV⟩ := nameIt (hasK S s k)
    rw [HHV.out] at HHA HV HBX
    obtain ⟨R, HR⟩ := nameIt (symV S V s k)
    rw [HR.out] at HV
    rw [HVN.out, HR.out]
    obtain ⟨PST, HP⟩ := nameIt (OfPost g (.slice ra g.rules.length rcap) N n d S M V w0 R W)
    have HFN : Hid (∀ C' W', Fr N d W W' → CS g (.slice ra g.rules.length rcap) N n d S M V w0 C' W' → PST (.returned (.int .i64 R)) W') := by
      intro C' W' h1 h2; rw [← HP.out]; exact ⟨rfl, h1, C', h2⟩
    rw [HP.out]
    obtain ⟨x0, x1⟩ := bx_cells2 X0.out
    have HSO := Lib.hid hs
    have HOK := Lib.hid ho
    obtain ⟨⟨st, sn⟩, rfl⟩ : ∃ x : Sym, x = s := ⟨s, rfl⟩
    simp only at x0 x1 HW1 HV HHA HSO HOK HBX X0
    obtain ⟨rl, HRL⟩ := nameIt g.rules.length
    clear hb1 h hs ho
    cases hv with
    | false =>
      have HE0 : Hid (R = 0) := HV.out
      go_enter Try.func29, Try.ntmps29
      go_upto_region 1 with fail
      rw [HW1.out]
      go_wp2_with fail
      with_reducible refine HHA.out.mono ?_
      rintro e w2 ⟨rfl, hb2⟩
      have hfn := HFN.out C w2 (HFR1.out.trans (Fr.of hb2)) (HC1.out.keep hb2)
      rw [HE0.out] at hfn
      have HF := Lib.hid hfn
      clear hb2 hfn
      go_wp2_with fail
      first | exact HF.out | (go_ret; exact HF.out)
    | true =>
      cases st with
      | true =>
        have HE0 : Hid (R = 1) := HV.out
        go_enter Try.func29, Try.ntmps29
        go_upto_region 1 with fail
        rw [HW1.out]
        go_wp2_with fail
        with_reducible refine HHA.out.mono ?_
        rintro e w2 ⟨rfl, hb2⟩
        have hfn := HFN.out C w2 (HFR1.out.trans (Fr.of hb2)) (HC1.out.keep hb2)
        rw [HE0.out] at hfn
        have HF := Lib.hid hfn
        clear x0 x1
        obtain ⟨x0, x1⟩ := bx_cells2 (bx_keep X0.out hb2)
        clear hb2 hfn
        go_wp2_with fail
        first | exact HF.out | (go_ret; exact HF.out)
      | false =>
        obtain ⟨hs1, hs2⟩ := HSO.out rfl
        simp only at hs1 hs2
        obtain ⟨A, rfl⟩ : ∃ A : Nat, sn = (A : Int) := ⟨sn.toNat, by omega⟩
        rw [Int.toNat_natCast] at hs2
        have HVA : Hid (R = V A k) := HV.out
        have hok := HOK.out rfl
        simp only [Int.toNat_natCast] at hok
        have hS : S A k = true := by have := HBX.out; simpa using this.symm
        have heq := HEQ.out A hs2
        rw [hS] at heq
        simp only [Bool.true_eq_false, if_false] at heq
        have HVEQ := Lib.hid heq
        have ha1 : (A : Int) < (N : Int) := by omega
        have ha0 : (0 : Int) ≤ (A : Int) := by omega
        have hk0 : (0 : Int) ≤ (k : Int) := by omega
        have hk1 : (k : Int) < ((n + 1 : Nat) : Int) := by omega
        obtain ⟨m, HM⟩ := nameIt (n + 1)
        rw [HM.out] at hk1
        have HKM : Hid (k < n + 1) := by show k < n + 1; omega
        go_enter Try.func29, Try.ntmps29
        go_upto_region 1 with fail
        rw [HW1.out]
        go_wp2_with fail
        with_reducible refine HHA.out.mono ?_
        rintro e w2 ⟨rfl, hb2⟩
        have HC2 := Lib.hid (HC1.out.keep hb2)
        have HFR2 : Hid (Fr N d W w2) := HFR1.out.trans (Fr.of hb2)
        have X2 := Lib.hid (bx_keep X0.out hb2)
        clear hb2 x0 x1
        obtain ⟨x0, x1⟩ := bx_cells2 X2.out
        obtain ⟨TT, hbx⟩ := HC2.out.ci.box
        obtain ⟨c0, c1, c2, c3, c4, c5, c6, c7⟩ := bx_cells8c hbx
        have q0 := HC2.out.ci.many.head hs2
        have q1 := HC2.out.ci.many.cell hs2 HKM.out
        rw [HM.out] at q0
        obtain ⟨mv, HMV⟩ := nameIt (M A k)
        rw [HMV.out] at q1
        cases mv with
        | true =>
          have hE1 : R = -1 := by rw [HVA.out, HVEQ.out, HMV.out]; rfl
          have HE1 := Lib.hid hE1
          clear hE1 heq hok
          go_wp2_with fail
          go_quiet (fail)
          have hfn := HFN.out C (w2.drewN nq) (HFR2.out.trans (Fr.of (below_drewN _ _))) (HC2.out.keep (below_drewN _ _))
          rw [HE1.out] at hfn
          have HF := Lib.hid hfn
          clear hfn x0 x1 c0 c1 c2 c3 c4 c5 c6 c7 q0 q1 hbx
          go_wp2_with fail
          first | exact HF.out | (go_ret; exact HF.out)
        | false =>
          have hre : reachN T size (A * (n + 1) + k) < 0 := hok.resolve_left (by rw [HMV.out]; simp)
          have HVQ : Hid (R = g.rules.foldl (fun sum r => if r.left = (A : Int) then min (IntKind.i64.wrap (sum + listV S MaxC (symV S V) r.right k)) MaxC else sum) 0) := by show _ = _; rw [HVA.out, HVEQ.out, HMV.out]; rfl
          exact absurd hre (Nat.not_lt_zero _)
  | succ f ih =>
    intro s k C W hs hk ho h
    obtain ⟨w1, HW1⟩ := nameIt (W.alloc (.cells #[.bool s.term, .int .i64 s.n] 65))
    have hb1 : Below W.heap.size W w1 := by rw [← HW1.out]; exact (Below.refl _ _).alloc (Nat.le_refl _) _
    have X0 : Hid (w1.heap[W.heap.size]? = some (.cells #[.bool s.term, .int .i64 s.n] 65 (0, 0))) := by rw [← HW1.out]; exact bx_new _ _ _ rfl
    have HC1 := Lib.hid (h.keep hb1)
    have HFR1 : Hid (Fr N d W w1) := Fr.of hb1
    have HNB : Hid (∀ a, a < N → d.rc a ≠ W.heap.size) := h.big (Nat.le_refl _)
    have HHA := Lib.hid (hasE s hs k hk w1 HC1.out.ci)
    have HV : Hid (symV S (valK g.rules S M MaxC (-1) size) s k = if hasK S s k = false then 0 else if s.term then 1 else valK g.rules S M MaxC (-1) size s.n.toNat k) := rfl
    have HEQ : Hid (∀ A, A < N → valK g.rules S M MaxC (-1) size A k = if S A k = false then 0 else if M A k then (-1) else g.rules.foldl (fun sum r => if r.left = (A : Int) then min (IntKind.i64.wrap (sum + listV S MaxC (symV S (valK g.rules S M MaxC (-1) size)) r.right k)) MaxC else sum) 0) := fun A hA => valK_eq hE hA hk
    have HFINE : Hid (∀ A, A < N → M A k = false → ∀ r ∈ g.rules, r.left = (A : Int) → Fine S (fun B j => okK T M n size (reachN T size (A * (n + 1) + k)) B j) r.right k) := by
      intro A hA hM r hr hl p s' i a h1 h2 h3 h4 h5 h6
      exact (hE A k r hA hk hM hr hl p s' i a h1 h2 h3 h4 h5 h6).2.2
    obtain ⟨V, HVN⟩ := nameIt (valK g.rules S M MaxC (-1) size)
    rw [HVN.out] at HV HC1 h ih
    simp only [HVN.out] at HEQ
    have HBX : Hid (hasK S s k = if s.term then decide (k = 1) else S s.n.toNat k) := rfl
    obtain ⟨hv, HHV⟩ := nameIt (hasK S s k)
    rw [HHV.out] at HHA HV HBX
    obtain ⟨R, HR⟩ := nameIt (symV S V s k)
    rw [HR.out] at HV
    rw [HVN.out, HR.out]
    obtain ⟨PST, HP⟩ := nameIt (OfPost g (.slice ra g.rules.length rcap) N n d S M V w0 R W)
    have HFN : Hid (∀ C' W', Fr N d W W' → CS g (.slice ra g.rules.length rcap) N n d S M V w0 C' W' → PST (.returned (.int .i64 R)) W') := by
      intro C' W' h1 h2; rw [← HP.out]; exact ⟨rfl, h1, C', h2⟩
    rw [HP.out]
    obtain ⟨x0, x1⟩ := bx_cells2 X0.out
    have HSO := Lib.hid hs
    have HOK := Lib.hid ho
    obtain ⟨⟨st, sn⟩, rfl⟩ : ∃ x : Sym, x = s := ⟨s, rfl⟩
    simp only at x0 x1 HW1 HV HHA HSO HOK HBX X0
    obtain ⟨rl, HRL⟩ := nameIt g.rules.length
    clear hb1 h hs ho
    cases hv with
    | false =>
      have HE0 : Hid (R = 0) := HV.out
      go_enter Try.func29, Try.ntmps29
      go_upto_region 1 with fail
      rw [HW1.out]
      go_wp2_with fail
      with_reducible refine HHA.out.mono ?_
      rintro e w2 ⟨rfl, hb2⟩
      have hfn := HFN.out C w2 (HFR1.out.trans (Fr.of hb2)) (HC1.out.keep hb2)
      rw [HE0.out] at hfn
      have HF := Lib.hid hfn
      clear hb2 hfn
      go_wp2_with fail
      first | exact HF.out | (go_ret; exact HF.out)
    | true =>
      cases st with
      | true =>
        have HE0 : Hid (R = 1) := HV.out
        go_enter Try.func29, Try.ntmps29
        go_upto_region 1 with fail
        rw [HW1.out]
        go_wp2_with fail
        with_reducible refine HHA.out.mono ?_
        rintro e w2 ⟨rfl, hb2⟩
        have hfn := HFN.out C w2 (HFR1.out.trans (Fr.of hb2)) (HC1.out.keep hb2)
        rw [HE0.out] at hfn
        have HF := Lib.hid hfn
        clear x0 x1
        obtain ⟨x0, x1⟩ := bx_cells2 (bx_keep X0.out hb2)
        clear hb2 hfn
        go_wp2_with fail
        first | exact HF.out | (go_ret; exact HF.out)
      | false =>
        obtain ⟨hs1, hs2⟩ := HSO.out rfl
        simp only at hs1 hs2
        obtain ⟨A, rfl⟩ : ∃ A : Nat, sn = (A : Int) := ⟨sn.toNat, by omega⟩
        rw [Int.toNat_natCast] at hs2
        have HVA : Hid (R = V A k) := HV.out
        have hok := HOK.out rfl
        simp only [Int.toNat_natCast] at hok
        have hS : S A k = true := by have := HBX.out; simpa using this.symm
        have heq := HEQ.out A hs2
        rw [hS] at heq
        simp only [Bool.true_eq_false, if_false] at heq
        have HVEQ := Lib.hid heq
        have ha1 : (A : Int) < (N : Int) := by omega
        have ha0 : (0 : Int) ≤ (A : Int) := by omega
        have hk0 : (0 : Int) ≤ (k : Int) := by omega
        have hk1 : (k : Int) < ((n + 1 : Nat) : Int) := by omega
        obtain ⟨m, HM⟩ := nameIt (n + 1)
        rw [HM.out] at hk1
        have HKM : Hid (k < n + 1) := by show k < n + 1; omega
        go_enter Try.func29, Try.ntmps29
        go_upto_region 1 with fail
        rw [HW1.out]
        go_wp2_with fail
        with_reducible refine HHA.out.mono ?_
        rintro e w2 ⟨rfl, hb2⟩
        have HC2 := Lib.hid (HC1.out.keep hb2)
        have HFR2 : Hid (Fr N d W w2) := HFR1.out.trans (Fr.of hb2)
        have X2 := Lib.hid (bx_keep X0.out hb2)
        clear hb2 x0 x1
        obtain ⟨x0, x1⟩ := bx_cells2 X2.out
        obtain ⟨TT, hbx⟩ := HC2.out.ci.box
        obtain ⟨c0, c1, c2, c3, c4, c5, c6, c7⟩ := bx_cells8c hbx
        have q0 := HC2.out.ci.many.head hs2
        have q1 := HC2.out.ci.many.cell hs2 HKM.out
        rw [HM.out] at q0
        obtain ⟨mv, HMV⟩ := nameIt (M A k)
        rw [HMV.out] at q1
        cases mv with
        | true =>
          have hE1 : R = -1 := by rw [HVA.out, HVEQ.out, HMV.out]; rfl
          have HE1 := Lib.hid hE1
          clear hE1 heq hok
          go_wp2_with fail
          go_quiet (fail)
          have hfn := HFN.out C (w2.drewN nq) (HFR2.out.trans (Fr.of (below_drewN _ _))) (HC2.out.keep (below_drewN _ _))
          rw [HE1.out] at hfn
          have HF := Lib.hid hfn
          clear hfn x0 x1 c0 c1 c2 c3 c4 c5 c6 c7 q0 q1 hbx
          go_wp2_with fail
          first | exact HF.out | (go_ret; exact HF.out)
        | false =>
          have hre : reachN T size (A * (n + 1) + k) < f + 1 := hok.resolve_left (by rw [HMV.out]; simp)
          have HVQ : Hid (R = g.rules.foldl (fun sum r => if r.left = (A : Int) then min (IntKind.i64.wrap (sum + listV S MaxC (symV S V) r.right k)) MaxC else sum) 0) := by show _ = _; rw [HVA.out, HVEQ.out, HMV.out]; rfl
          clear heq hok
          go_wp2_with fail
          go_quiet (fail)
          obtain ⟨w3, HW3⟩ := nameIt (w2.drewN nq)
          have HC3 : Hid (CS g (.slice ra g.rules.length rcap) N n d S M V w0 C w3) := by rw [← HW3.out]; exact HC2.out.keep (below_drewN _ _)
          have HFR3 : Hid (Fr N d W w3) := by rw [← HW3.out]; exact HFR2.out.trans (Fr.of (below_drewN _ _))
          have X3 : Hid (w3.heap[W.heap.size]? = some (.cells #[.bool false, .int .i64 (A : Int)] 65 (0, 0))) := by rw [← HW3.out]; exact bx_keep X2.out (below_drewN _ _)
          rw [HW3.out]
          clear x0 x1 c0 c1 c2 c3 c4 c5 c6 c7 q0 q1 hbx HW3
          obtain ⟨x0, x1⟩ := bx_cells2 X3.out
          obtain ⟨TT, hbx⟩ := HC3.out.ci.box
          obtain ⟨c0, c1, c2, c3, c4, c5, c6, c7⟩ := bx_cells8c hbx
          have q0 := HC3.out.ci.cnt.head hs2
          have q1 := HC3.out.ci.cnt.cell hs2 HKM.out
          rw [HM.out] at q0
          have HCVV := Lib.hid (HC3.out.cv A k hs2 hk)
          obtain ⟨cv, HCVN⟩ := nameIt (C A k)
          rw [HCVN.out] at q1 HCVV
          by_cases hcv : 0 ≤ cv
          · have hE1 : R = cv := by
              rcases HCVV.out with h | h
              · omega
              · rw [HVA.out, h]
            have HE1 := Lib.hid hE1
            clear hE1
            go_wp2_with fail
            go_quiet (fail)
            obtain ⟨w4, HW4⟩ := nameIt (w3.drewN nq)
            have HC4 : Hid (CS g (.slice ra g.rules.length rcap) N n d S M V w0 C w4) := by rw [← HW4.out]; exact HC3.out.keep (below_drewN _ _)
            have HFR4 : Hid (Fr N d W w4) := by rw [← HW4.out]; exact HFR3.out.trans (Fr.of (below_drewN _ _))
            have X4 : Hid (w4.heap[W.heap.size]? = some (.cells #[.bool false, .int .i64 (A : Int)] 65 (0, 0))) := by rw [← HW4.out]; exact bx_keep X3.out (below_drewN _ _)
            rw [HW4.out]
            clear x0 x1 c0 c1 c2 c3 c4 c5 c6 c7 q0 q1 hbx HW4
            obtain ⟨x0, x1⟩ := bx_cells2 X4.out
            obtain ⟨TT, hbx⟩ := HC4.out.ci.box
            obtain ⟨c0, c1, c2, c3, c4, c5, c6, c7⟩ := bx_cells8c hbx
            have q0 := HC4.out.ci.cnt.head hs2
            have q1 := HC4.out.ci.cnt.cell hs2 HKM.out
            rw [HM.out] at q0
            rw [HCVN.out] at q1
            go_wp2_with fail
            go_quiet (fail)
            have hfn := HFN.out C (w4.drewN nq) (HFR4.out.trans (Fr.of (below_drewN _ _))) (HC4.out.keep (below_drewN _ _))
            rw [HE1.out] at hfn
            have HF := Lib.hid hfn
            clear hfn x0 x1 c0 c1 c2 c3 c4 c5 c6 c7 q0 q1 hbx
            go_wp2_with fail
            first | exact HF.out | (go_ret; exact HF.out)
          · go_wp2_with fail
            go_quiet (fail)
            obtain ⟨w4, HW4⟩ := nameIt (w3.drewN nq)
            have HC4 : Hid (CS g (.slice ra g.rules.length rcap) N n d S M V w0 C w4) := by rw [← HW4.out]; exact HC3.out.keep (below_drewN _ _)
            have HFR4 : Hid (Fr N d W w4) := by rw [← HW4.out]; exact HFR3.out.trans (Fr.of (below_drewN _ _))
            have X4 : Hid (w4.heap[W.heap.size]? = some (.cells #[.bool false, .int .i64 (A : Int)] 65 (0, 0))) := by rw [← HW4.out]; exact bx_keep X3.out (below_drewN _ _)
            rw [HW4.out]
            clear x0 x1 c0 c1 c2 c3 c4 c5 c6 c7 q0 q1 hbx HW4
            obtain ⟨TT, hbx⟩ := HC4.out.ci.box
            obtain ⟨c0, c1, c2, c3, c4, c5, c6, c7⟩ := bx_cells8c hbx
            obtain ⟨SUM, HSUM⟩ := nameIt (fun i : Nat => (g.rules.take i).foldl (fun sum r => if r.left = (A : Int) then min (IntKind.i64.wrap (sum + listV S MaxC (symV S V) r.right k)) MaxC else sum) 0)
            have HS0 : Hid (SUM 0 = 0) := by show _ = _; rw [← HSUM.out]; rfl
            have HSS : Hid (∀ i (hi : i < g.rules.length), SUM (i + 1) = if g.rules[i].left = (A : Int) then min (IntKind.i64.wrap (SUM i + listV S MaxC (symV S V) g.rules[i].right k)) MaxC else SUM i) := by
              intro i hi; rw [← HSUM.out]
              show (g.rules.take (i + 1)).foldl _ _ = _
              rw [List.take_succ_eq_append_getElem hi, List.foldl_append]; rfl
            have HSE : Hid (R = SUM g.rules.length) := by show _ = _; rw [← HSUM.out]; show _ = (g.rules.take g.rules.length).foldl _ _; rw [List.take_length, HVQ.out]
            have HMX : Hid (MaxC = 1000000000) := rfl
            have HRD := Lib.hid hR
            have HGG := Lib.hid hg
            have hrc : rcap ≤ maxLen ∧ g.rules.length ≤ rcap := by obtain ⟨a', cap', L, e, h1, h2, _⟩ := hR; simp at e h1; omega
            unfold maxLen at hrc
            have HLI := Lib.hid (fun (i : Nat) (hi : i < g.rules.length) (hl : g.rules[i].left = (A : Int)) (a' : Option Addr) (cap' : Nat) (C' : Nat → Nat → Int) (W' : World) (h' : CS g (.slice ra g.rules.length rcap) N n d S M V w0 C' W') (hr' : Rd AnyB w0 (.sl (g.rules[i].right.map Sym.d)) [.slice a' g.rules[i].right.length cap']) =>
              listE hn ih g.rules[i].right (hg _ (List.getElem_mem hi)) k hk (fun p s' i' a'' h1 h2 h3 h4 h5 h6 => (HFINE.out A hs2 HMV.out _ (List.getElem_mem hi) hl p s' i' a'' h1 h2 h3 h4 h5 h6).mono (by omega)) a' cap' C' W' h' hr')
            rw [HRL.out] at c3 HSE hrc
            clear hre
            go_wp2_with fail
            clear c0 c1 c2 c3 c4 c5 c6 c7 hbx
            go_loopg [7, 61] rl (fun gg v7 v61 wr => ∃ (i : Nat) (C' : Nat → Nat → Int), i ≤ rl ∧ rl - i ≤ gg ∧ v7 = .int .i64 (SUM i) ∧ v61 = .int .i64 i ∧ Hid (Fr N d W wr) ∧ Hid (CS g (.slice ra g.rules.length rcap) N n d S M V w0 C' wr) ∧ Hid (wr.heap[W.heap.size]? = some (.cells #[.bool false, .int .i64 (A : Int)] 65 (0, 0))))
            case atStart => exact ⟨0, C, by omega, by omega, by rw [HS0.out], rfl, HFR4, HC4, X4⟩
            case round =>
              obtain ⟨i, C', hi, hg', rfl, rfl, HFR5, HC5, X5⟩ := hrel
              obtain ⟨w5, rfl⟩ : ∃ ww : World, ww = wr := ⟨_, rfl⟩
              by_cases hlt : i < rl
              · have hlt' : (i : Int) < (rl : Int) := by omega
                have hi0 : (0 : Int) ≤ (i : Int) := by omega
                have hix : i < g.rules.length := by rw [HRL.out]; exact hlt
                obtain ⟨rb, ro, rv, hae, -, hrb, r0, r1, hrr⟩ := HRD.out.rule_at hix
                obtain ⟨ar, cr, rfl, -, -⟩ := hrr.form
                rw [List.length_map] at r1 hrr
                have HRR := Lib.hid hrr
                have t0 := (HC5.out.bel.cell (lt_of_cell r0)).trans r0
                have t1 := (HC5.out.bel.cell (lt_of_cell r1)).trans r1
                have HSI := Lib.hid (HSS.out i hix)
                have HLI1 := Lib.hid (HLI.out i hix)
                obtain ⟨r, HRN⟩ := nameIt (g.rules[i]'hix)
                rw [HRN.out] at t0 t1 HSI HLI1 HRR
                obtain ⟨lf, HLF⟩ := nameIt r.left
                obtain ⟨rn, HRNL⟩ := nameIt r.right.length
                obtain ⟨lv, HLV⟩ := nameIt (listV S MaxC (symV S V) r.right k)
                rw [HLF.out] at t0 HSI HLI1
                rw [HRNL.out] at t1 HLI1 HRR
                rw [HLV.out] at HSI HLI1
                rw [HMX.out] at HSI
                obtain ⟨s0, HSU⟩ := nameIt (SUM i)
                obtain ⟨s1, HSU1⟩ := nameIt (SUM (i + 1))
                rw [HSU.out, HSU1.out] at HSI
                rw [HSU.out]
                obtain ⟨w6, HW6⟩ := nameIt (w5.alloc (.cells #[.int .i64 lf, .slice ar rn cr] 48))
                have HC6 : Hid (CS g (.slice ra g.rules.length rcap) N n d S M V w0 C' w6) := by rw [← HW6.out]; exact HC5.out.keep ((Below.refl _ _).alloc (Nat.le_refl _) _)
                have HFR6 : Hid (Fr N d W w6) := by rw [← HW6.out]; exact HFR5.out.trans (Fr.of ((Below.refl _ _).alloc (Nat.le_refl _) _))
                have X6 : Hid (w6.heap[W.heap.size]? = some (.cells #[.bool false, .int .i64 (A : Int)] 65 (0, 0))) := by rw [← HW6.out]; exact bx_keep X5.out ((Below.refl _ _).alloc (Nat.le_refl _) _)
                have Y6 : Hid (w6.heap[w5.heap.size]? = some (.cells #[.int .i64 lf, .slice ar rn cr] 48 (0, 0))) := by rw [← HW6.out]; exact bx_new _ _ _ rfl
                subst hae
                clear hrr r0 r1
                go_upto_region 13 with fail
                rw [HW6.out]
                clear t0 t1
                obtain ⟨x0, x1⟩ := bx_cells2 X6.out
                obtain ⟨y0, y1⟩ := bx_cells2 Y6.out
                by_cases hl : lf = (A : Int)
                · have hlb : (lf == (A : Int)) = true := by simpa using hl
                  have HS9 : Hid (s1 = min (IntKind.i64.wrap (s0 + lv)) 1000000000) := by have := HSI.out; rw [if_pos hl] at this; exact this
                  have HLI2 := Lib.hid (HLI1.out hl ar cr C' w6 HC6.out HRR.out)
                  have hmin : min (IntKind.i64.wrap (s0 + lv)) 1000000000 = s1 := HS9.out.symm
                  clear hl
                  go_wp2_with fail
                  with_reducible refine HLI2.out.mono ?_
                  rintro e w7 ⟨rfl, hf7, C7, hc7⟩
                  have HC7 := Lib.hid hc7
                  have HFR7 : Hid (Fr N d W w7) := HFR6.out.trans hf7
                  have X7 := Lib.hid (hf7.bx X6.out HNB.out)
                  clear hf7 hc7 x0 x1 y0 y1
                  go_wp2_with fail
                  go_roundg (rl - (i + 1))
                  case measure => omega
                  case rel => exact ⟨i + 1, C7, by omega, by omega, by rw [HSU1.out, HS9.out, IntKind.wrap_i64]; first | rfl | simp [wrap64], by go_num, HFR7, HC7, X7⟩
                · have hlb : (lf == (A : Int)) = false := by simpa using hl
                  have HS9 : Hid (s1 = s0) := by have := HSI.out; rw [if_neg hl] at this; exact this
                  clear hl
                  go_wp2_with fail
                  go_roundg (rl - (i + 1))
                  case measure => omega
                  case rel => exact ⟨i + 1, C', by omega, by omega, by rw [HSU1.out, HS9.out], by go_num, HFR6, HC6, X6⟩
              · have hlt' : ¬ (i : Int) < (rl : Int) := by omega
                have hir : i = rl := by omega
                have HRE : Hid (SUM i = R) := by show _ = _; rw [hir, HSE.out]
                rw [HRE.out]
                obtain ⟨x0, x1⟩ := bx_cells2 X5.out
                obtain ⟨TT, hbx⟩ := HC5.out.ci.box
                obtain ⟨c0, c1, c2, c3, c4, c5, c6, c7⟩ := bx_cells8c hbx
                have q0 := HC5.out.ci.cnt.head hs2
                have q1 := HC5.out.ci.cnt.cell hs2 HKM.out
                have f1 := HC5.out.ci.cnt.free hs2 k
                rw [HM.out] at q0
                obtain ⟨cv2, HCV2⟩ := nameIt (C' A k)
                rw [HCV2.out] at q1
                obtain ⟨C9, hc9⟩ := (HC5.out.keep (Below.refl _ _).drew).store hs2 hk
                rw [← HVA.out] at hc9
                have hfn := HFN.out C9 _ ((HFR5.out.trans (Fr.of (Below.refl _ _).drew)).trans (Fr.set _ hs2 (.int .i64 R))) hc9
                have HF := Lib.hid hfn
                clear hfn hc9 hir hbx
                go_upto_region 16 with fail
                refine wp_region_still_tail 11 (by kernel_rfl) (by kernel_rfl) ?_
                simp only [List.take_succ_cons, List.take_zero, List.drop_succ_cons, List.drop_zero]
                change wpStill _ _ (World.drew _) _ _ _
                refine still_quiet _ _ ?_
                repeat (go_big_quiet_step (fail))
                refine wpQuiet_nil ?_
                change wpList _ _ _ _ _ (World.drew _)
                go_wp2_with fail
                first | exact HF.out | (go_ret; exact HF.out)
end Cs
end Go.Proofs.Ytbnpemgmdnghgaa
namespace Go.Proofs.Ytbnpemgmdnghgaa
open Go.RowKit

/-- the table in block bt is to have n rows; rows 0 .. hi - 1 are there: row k in block rb k, of m cells -/
structure Grd (tr te : TypeId) (B bt n m hi : Nat) (rb : Nat → Nat) (val : Nat → Nat → Value) (wr : World) : Prop where
  tb : ∃ cs, wr.heap[bt]? = some (.cells cs tr (0, 0)) ∧ cs.size = n ∧ ∀ k, k < hi → k < n → cs[k]? = some (.slice (some ⟨rb k, 0, none⟩) m m)
  row : ∀ k, k < hi → k < n → ∃ cs, wr.heap[rb k]? = some (.cells cs te (0, 0)) ∧ cs.size = m ∧ ∀ j, j < m → cs[j]? = some (val k j)
  inj : ∀ k k', k < hi → k' < hi → k < n → k' < n → rb k = rb k' → k = k'
  ne : ∀ k, k < hi → k < n → rb k ≠ bt ∧ B ≤ rb k
  bB : B ≤ bt
section
variable {tr te : TypeId} {B bt n m hi : Nat} {rb : Nat → Nat} {val : Nat → Nat → Value} {wr w' : World}
theorem Grd.lt (h : Grd tr te B bt n m hi rb val wr) : bt < wr.heap.size := by
  obtain ⟨cs, h1, _⟩ := h.tb
  exact (Array.getElem?_eq_some_iff.1 h1).1
theorem Grd.rlt (h : Grd tr te B bt n m hi rb val wr) {k : Nat} (hk : k < hi) (hn : k < n) : rb k < wr.heap.size := by
  obtain ⟨cs, h1, _⟩ := h.row k hk hn
  exact (Array.getElem?_eq_some_iff.1 h1).1
theorem Grd.grown {row : Option Nat} (h : Grd tr te B bt n m hi rb val wr) (hg : wr.grownBy w' row) (hr : ∀ k, row = some k → k ≠ bt ∧ ∀ i, i < hi → i < n → rb i ≠ k) : Grd tr te B bt n m hi rb val w' := by
  obtain ⟨⟨cs, h1, h2, h3⟩, h4, h5, h6, h7⟩ := h
  refine ⟨⟨cs, ?_, h2, h3⟩, fun k hk hn => ?_, h5, h6, h7⟩
  · rw [hg.block bt (Array.getElem?_eq_some_iff.1 h1).1 (fun e => (hr bt e.symm).1 rfl)]; exact h1
  · obtain ⟨rs, r1, r2⟩ := h4 k hk hn
    refine ⟨rs, ?_, r2⟩
    rw [hg.block (rb k) (Array.getElem?_eq_some_iff.1 r1).1 (fun e => (hr _ e.symm).2 k hk hn rfl)]; exact r1
theorem Grd.keep (h : Grd tr te B bt n m hi rb val wr) (hb : Below wr.heap.size wr w') : Grd tr te B bt n m hi rb val w' := h.grown (grown_below hb none) (fun k e => by cases e)
theorem Grd.hdr (h : Grd tr te B bt n m hi rb val wr) {k : Nat} (hk : k < hi) (hn : k < n) : wr.cell? ⟨bt, k, none⟩ = some (.slice (some ⟨rb k, 0, none⟩) m m) := by
  obtain ⟨cs, h1, h2, h3⟩ := h.tb
  simp [World.cell?, h1, h3 k hk hn]
theorem Grd.cell (h : Grd tr te B bt n m hi rb val wr) {k j : Nat} (hk : k < hi) (hn : k < n) (hj : j < m) : wr.cell? ⟨rb k, j, none⟩ = some (val k j) := by
  obtain ⟨cs, h1, h2, h3⟩ := h.row k hk hn
  simp [World.cell?, h1, h3 j hj]
theorem Grd.free (h : Grd tr te B bt n m hi rb val wr) {k : Nat} (hk : k < hi) (hn : k < n) (j : Nat) : wr.frozen? ⟨rb k, j, none⟩ = false := by
  obtain ⟨cs, h1, h2, h3⟩ := h.row k hk hn
  simp [World.frozen?, h1]
theorem Grd.hcell (h : Grd tr te B bt n m hi rb val wr) {k : Nat} (hn : k < n) : (∃ v, wr.cell? ⟨bt, k, none⟩ = some v) ∧ wr.frozen? ⟨bt, k, none⟩ = false := by
  obtain ⟨cs, h1, h2, h3⟩ := h.tb
  exact ⟨⟨cs[k]'(by omega), by simp [World.cell?, h1]⟩, by simp [World.frozen?, h1]⟩
/-- a value stored -/
theorem Grd.set (h : Grd tr te B bt n m hi rb val wr) {i j : Nat} (hi' : i < hi) (hin : i < n) (hj : j < m) (x : Value) : Grd tr te B bt n m hi rb (fun k l => if k = i ∧ l = j then x else val k l) (wr.setCell ⟨rb i, j, none⟩ x) := by
  obtain ⟨⟨cs, h1, h2, h3⟩, h4, h5, h6, h7⟩ := h
  refine ⟨⟨cs, bx_other h1 (fun e => (h6 i hi' hin).1 e.symm) _ _, h2, h3⟩, fun k hk hn => ?_, h5, h6, h7⟩
  obtain ⟨rs, r1, r2, r3⟩ := h4 k hk hn
  by_cases e : k = i
  · subst e
    refine ⟨rs.setIfInBounds j x, bx_set r1 _ _, by simpa using r2, fun l hl => ?_⟩
    rw [Array.getElem?_setIfInBounds]
    by_cases e2 : j = l
    · subst e2
      rw [if_pos rfl, if_pos (by omega)]; simp
    · rw [if_neg e2, r3 l hl]
      simp [show ¬ l = j from fun h => e2 h.symm]
  · refine ⟨rs, bx_other r1 (fun e2 => e (h5 k i hk hi' hn hin e2)) _ _, r2, fun l hl => ?_⟩
    rw [r3 l hl]; simp [e]
/-- a new row: laid, and its header stored -/
theorem Grd.add {z : Value} (h : Grd tr te B bt n m hi rb (fun _ _ => z) wr) (hi' : hi < n) (hB : B ≤ wr.heap.size) :
    Grd tr te B bt n m (hi + 1) (fun k => if k = hi then wr.heap.size else rb k) (fun _ _ => z) ((wr.alloc (.cells (madeCells #[z] m) te)).setCell ⟨bt, hi, none⟩ (.slice (some ⟨wr.heap.size, 0, none⟩) m m)) := by
  have hbt := h.lt
  have hrl := fun k hk hn => h.rlt (k := k) hk hn
  obtain ⟨⟨cs, h1, h2, h3⟩, h4, h5, h6, h7⟩ := h
  have hba : Below wr.heap.size wr (wr.alloc (.cells (madeCells #[z] m) te)) := (Below.refl _ _).alloc (Nat.le_refl _) _
  refine ⟨⟨cs.setIfInBounds hi (.slice (some ⟨wr.heap.size, 0, none⟩) m m), bx_set (bx_keep h1 hba) _ _, by simpa using h2, fun k hk hn => ?_⟩, fun k hk hn => ?_, fun k k' hk hk' hn hn' e => ?_, fun k hk hn => ?_, h7⟩
  · rw [Array.getElem?_setIfInBounds]
    by_cases e : hi = k
    · subst e
      rw [if_pos rfl, if_pos (by omega)]; simp
    · rw [if_neg e, h3 k (by omega) hn]
      simp [show ¬ k = hi from fun h => e h.symm]
  · by_cases e : k = hi
    · subst e
      refine ⟨madeCells #[z] m, ?_, size_madeCells _ _, fun j hj => made_at _ _ _ hj⟩
      simp only [if_true]
      exact bx_other (bx_new _ _ _ rfl) (by omega) _ _
    · obtain ⟨rs, r1, r2, r3⟩ := h4 k (by omega) hn
      refine ⟨rs, ?_, r2, r3⟩
      simp only [e, if_false]
      exact bx_other (bx_keep r1 hba) (h6 k (by omega) hn).1 _ _
  · by_cases e1 : k = hi <;> by_cases e2 : k' = hi <;> simp only [e1, e2, if_true, if_false] at e ⊢
    · have := hrl k' (by omega) hn'; omega
    · have := hrl k (by omega) hn; omega
    · exact h5 k k' (by omega) (by omega) hn hn' e
  · by_cases e : k = hi
    · subst e; simp only [if_true]; omega
    · simp only [e, if_false]; exact h6 k (by omega) hn
theorem Grd.eq {val' : Nat → Nat → Value} (h : Grd tr te B bt n m hi rb val wr) (he : ∀ k j, k < hi → k < n → j < m → val k j = val' k j) : Grd tr te B bt n m hi rb val' wr := by
  obtain ⟨h1, h4, h5, h6, h7⟩ := h
  refine ⟨h1, fun k hk hn => ?_, h5, h6, h7⟩
  obtain ⟨rs, r1, r2, r3⟩ := h4 k hk hn
  exact ⟨rs, r1, r2, fun j hj => by rw [r3 j hj, he k j hk hn hj]⟩
end
theorem Grd.start (tr te : TypeId) {B n m : Nat} {rb : Nat → Nat} {val : Nat → Nat → Value} {z : Value} (w : World) {bt : Nat} (hb : bt = w.heap.size) (hB : B ≤ w.heap.size) : Grd tr te B bt n m 0 rb val (w.alloc (.cells (madeCells #[z] n) tr)) := by
  subst hb
  exact ⟨⟨_, bx_new _ _ _ rfl, size_madeCells _ _, fun k hk => by omega⟩, fun k hk => by omega, fun k k' hk => by omega, fun k hk => by omega, hB⟩
end Go.Proofs.Ytbnpemgmdnghgaa
namespace Go.Proofs.Ytbnpemgmdnghgaa
open Go.RowKit
theorem Grd.other {tr te : TypeId} {B bt n m hi : Nat} {rb : Nat → Nat} {val : Nat → Nat → Value} {wr w' : World} (h : Grd tr te B bt n m hi rb val wr) (hs : ∀ k, B ≤ k → w'.heap[k]? = wr.heap[k]?) : Grd tr te B bt n m hi rb val w' := by
  obtain ⟨⟨cs, h1, h2, h3⟩, h4, h5, h6, h7⟩ := h
  refine ⟨⟨cs, by rw [hs _ h7]; exact h1, h2, h3⟩, fun k hk hn => ?_, h5, h6, h7⟩
  obtain ⟨rs, r1, r2⟩ := h4 k hk hn
  exact ⟨rs, by rw [hs _ (h6 k hk hn).2]; exact r1, r2⟩
namespace Cs

def wv (E : List (Nat × Nat)) (k i j : Nat) : Nat → Nat → Bool := fun a b => if a < i ∨ (a = i ∧ b < j) then fw E (k + 1) a b else fw E k a b
section
variable {E : List (Nat × Nat)} {sz k i j a b : Nat}
theorem wv_start {F : Nat → Nat → Bool} (ha : a < sz) (hb : b < sz) : F a b = wv (edg sz F) 0 0 0 a b := by
  unfold wv
  rw [if_neg (by omega), fw, Bool.eq_iff_iff, decide_eq_true_iff, edg_mem]
  exact ⟨fun h => ⟨ha, hb, h⟩, fun h => h.2.2⟩
theorem wv_col : wv E k i j a k = fw E k a k := by unfold wv; split; exact fw_row _ _; rfl
theorem wv_row : wv E k i j k b = fw E k k b := by unfold wv; split; exact fw_col _ _; rfl
theorem wv_self : wv E k i j i j = fw E k i j := by unfold wv; rw [if_neg (by omega)]
theorem wv_skip (h : fw E k i k = false) : wv E k i 0 a b = wv E k (i + 1) 0 a b := by
  unfold wv
  by_cases e : a = i
  · subst e
    rw [if_neg (by omega), if_pos (by omega), fw, h]
    simp
  · by_cases e2 : a < i
    · rw [if_pos (by omega), if_pos (by omega)]
    · rw [if_neg (by omega), if_neg (by omega)]
theorem wv_line (hb : b < sz) : wv E k i sz a b = wv E k (i + 1) 0 a b := by
  unfold wv
  by_cases e : a < i ∨ a = i
  · rw [if_pos (by omega), if_pos (by omega)]
  · rw [if_neg (by omega), if_neg (by omega)]
theorem wv_end (ha : a < sz) : wv E k sz 0 a b = wv E (k + 1) 0 0 a b := by
  unfold wv
  rw [if_pos (.inl ha), if_neg (by omega)]
theorem wv_next {v : Bool} (hv : v = (fw E k i j || (fw E k i k && fw E k k j))) : (if a = i ∧ b = j then v else wv E k i j a b) = wv E k i (j + 1) a b := by
  by_cases e : a = i ∧ b = j
  · rw [if_pos e, hv]
    obtain ⟨rfl, rfl⟩ := e
    unfold wv
    rw [if_pos (by omega), fw]
  · rw [if_neg e]
    unfold wv
    by_cases e2 : a < i ∨ (a = i ∧ b < j)
    · rw [if_pos e2, if_pos (by omega)]
    · rw [if_neg e2, if_neg (by omega)]
end
def mv (T : Nat → Nat → Bool) (sz m i j : Nat) : Nat → Nat → Bool := fun A k => manyK T (if A * m + k < i then sz else if A * m + k = i then j else 0) (A * m + k)
def mc (T : Nat → Nat → Bool) (i j : Nat) : Bool := (i == j || T i j) && T j j
theorem manyK_succ (T : Nat → Nat → Bool) (j u : Nat) : manyK T (j + 1) u = (manyK T j u || mc T u j) := by
  unfold manyK mc
  rw [List.range_succ, List.any_append]
  simp
section
variable {T : Nat → Nat → Bool} {sz m i j A k N : Nat}
theorem mv_zero : mv T sz m 0 0 A k = false := by
  unfold mv
  rw [if_neg (by omega)]
  split <;> rfl
theorem mv_line : mv T sz m i sz A k = mv T sz m (i + 1) 0 A k := by
  unfold mv
  by_cases e : A * m + k < i ∨ A * m + k = i
  · rw [if_pos (show A * m + k < i + 1 by omega)]
    split
    · rfl
    · rw [if_pos (by omega)]
  · rw [if_neg (show ¬ A * m + k < i by omega), if_neg (show ¬ A * m + k = i by omega), if_neg (show ¬ A * m + k < i + 1 by omega)]
    split <;> rfl
theorem mv_end {rules : List Rule} {S : Nat → Nat → Bool} {n : Nat} (hA : A < N) (hk : k < n + 1) : mv (clK rules S N n) (sizeK N n) (n + 1) (sizeK N n) 0 A k = MK rules S N n A k := by
  unfold mv MK
  rw [if_pos (node_lt hA (by omega))]
theorem node_at (hk : k < m) : A * m + k = i ↔ A = i / m ∧ k = i % m := by
  constructor
  · rintro rfl
    rw [Nat.mul_comm, Nat.mul_add_div (by omega), Nat.div_eq_of_lt hk, Nat.mul_add_mod, Nat.mod_eq_of_lt hk]
    exact ⟨rfl, rfl⟩
  · rintro ⟨rfl, rfl⟩
    rw [Nat.mul_comm]; exact Nat.div_add_mod i m
theorem mv_next (hk : k < m) : (if mc T i j = true then updB (mv T sz m i j) (i / m) (i % m) A k else mv T sz m i j A k) = mv T sz m i (j + 1) A k := by
  by_cases e : A * m + k = i
  · have e1 := (node_at hk).1 e
    have h1 : mv T sz m i j A k = manyK T j i := by unfold mv; rw [e, if_neg (by omega), if_pos rfl]
    have h2 : mv T sz m i (j + 1) A k = manyK T (j + 1) i := by unfold mv; rw [e, if_neg (by omega), if_pos rfl]
    rw [h2, manyK_succ]
    cases hc : mc T i j with
    | true =>
      rw [if_pos rfl]
      unfold updB
      rw [if_pos e1]; simp
    | false => rw [if_neg (by simp), h1]; simp
  · have e1 : ¬ (A = i / m ∧ k = i % m) := fun h => e ((node_at hk).2 h)
    have h2 : mv T sz m i (j + 1) A k = mv T sz m i j A k := by
      unfold mv
      by_cases e2 : A * m + k < i
      · rw [if_pos e2, if_pos e2]
      · rw [if_neg e2, if_neg e2, if_neg e, if_neg e]
    rw [h2]
    split
    · unfold updB; rw [if_neg e1]
    · rfl
end
section
variable {g : Gram} {vr : Value} {N n : Nat} {d : Cid} {S M M' : Nat → Nat → Bool} {C : Nat → Nat → Int} {W W' : World}
theorem CI.b2 (h : CI g vr N n d S M C W) : d.b2 ≤ W.heap.size := by
  have := h.lt
  have := h.many.pl
  have := h.cnt.pl
  have := h.le
  omega
theorem CI.eqM (h : CI g vr N n d S M C W) (he : ∀ a k, a < N → k < n + 1 → M a k = M' a k) : CI g vr N n d S M' C W :=
  ⟨h.box, h.some', h.many.eq fun a k ha hk => by rw [he a k ha hk], h.cnt, h.le⟩
theorem CI.setM (h : CI g vr N n d S M C W) {a k : Nat} (ha : a < N) (hk : k < n + 1) : CI g vr N n d S (updB M a k) C (W.setCell ⟨d.rm a, k, none⟩ (.bool true)) := by
  obtain ⟨⟨T, h1⟩, h2, h3, h4, h5⟩ := h
  have hne := h3.ne a ha
  have p2 := h2.pl
  have p3 := h3.pl
  have p4 := h4.pl
  refine ⟨⟨T, bx_other h1 (by omega) _ _⟩, h2.other fun j j1 j2 => Below.heap_setCell _ _ _ _ (by show j ≠ d.rm a; omega), ?_, h4.other fun j j1 j2 => Below.heap_setCell _ _ _ _ (by show j ≠ d.rm a; omega), h5⟩
  refine (h3.set ha hk (.bool true)).eq fun b l _ _ => ?_
  unfold updB
  show (if b = a ∧ l = k then _ else _) = _
  split <;> rfl
end
/-- the table of edges closed, the answers being written -/
structure LM (g : Gram) (vr : Value) (N n : Nat) (d : Cid) (S : Nat → Nat → Bool) (C : Nat → Nat → Int) (wB : World) (bt sz : Nat) (rb : Nat → Nat) (F M : Nat → Nat → Bool) (wr : World) : Prop where
  ci : CI g vr N n d S M C wr
  tab : Grd 51 4 wB.heap.size bt sz sz sz rb (fun a b => .bool (F a b)) wr
  bel : Below d.b2 wB wr
  lt : d.cb < wB.heap.size
section
variable {g : Gram} {vr : Value} {N n : Nat} {d : Cid} {S M M' : Nat → Nat → Bool} {C : Nat → Nat → Int} {W wB wr : World} {bt sz : Nat} {rb : Nat → Nat} {F : Nat → Nat → Bool}
theorem LM.b2 (h : LM g vr N n d S C wB bt sz rb F M wr) : d.b2 ≤ wr.heap.size := h.ci.b2
theorem LM.keep (h : LM g vr N n d S C wB bt sz rb F M wr) (hb : Below wr.heap.size wr W) : LM g vr N n d S C wB bt sz rb F M W := ⟨h.ci.keep hb, h.tab.keep hb, h.bel.trans (hb.mono h.b2), h.lt⟩
theorem LM.eqM (h : LM g vr N n d S C wB bt sz rb F M wr) (he : ∀ a k, a < N → k < n + 1 → M a k = M' a k) : LM g vr N n d S C wB bt sz rb F M' wr := ⟨h.ci.eqM he, h.tab, h.bel, h.lt⟩
theorem LM.set (h : LM g vr N n d S C wB bt sz rb F M wr) {a k : Nat} (ha : a < N) (hk : k < n + 1) : LM g vr N n d S C wB bt sz rb F (updB M a k) (wr.setCell ⟨d.rm a, k, none⟩ (.bool true)) := by
  have hne := h.ci.many.ne a ha
  have p4 := h.ci.cnt.pl
  have h5 := h.ci.le
  have h6 := h.lt
  exact ⟨h.ci.setM ha hk, h.tab.other fun j hj => Below.heap_setCell _ _ _ _ (by show j ≠ d.rm a; omega), h.bel.setCell (p := ⟨d.rm a, k, none⟩) hne.2.1 _, h.lt⟩
end
end Cs
end Go.Proofs.Ytbnpemgmdnghgaa
namespace Go.Proofs.Ytbnpemgmdnghgaa
open Go.RowKit
namespace Cs

def sumN (f : Nat → Nat) : Nat → Nat
  | 0 => 0
  | n + 1 => sumN f n + f n
theorem sumN_le {f g : Nat → Nat} : ∀ (n : Nat), (∀ i, i < n → f i ≤ g i) → sumN f n ≤ sumN g n
  | 0, _ => Nat.le_refl _
  | n + 1, h => Nat.add_le_add (sumN_le n fun i hi => h i (by omega)) (h n (by omega))
theorem sumN_lt {f g : Nat → Nat} : ∀ (n : Nat), (∀ i, i < n → f i ≤ g i) → (∃ i, i < n ∧ f i < g i) → sumN f n < sumN g n
  | 0, _, ⟨i, hi, _⟩ => absurd hi (Nat.not_lt_zero _)
  | n + 1, h, ⟨i, hi, hlt⟩ => by
    have h1 := sumN_le n fun i hi => h i (Nat.lt_succ_of_lt hi)
    have h2 := h n (Nat.lt_succ_self n)
    by_cases e : i = n
    · subst e
      show sumN f i + f i < sumN g i + g i
      omega
    · have h3 := sumN_lt n (fun i hi => h i (Nat.lt_succ_of_lt hi)) ⟨i, by omega, hlt⟩
      show sumN f n + f n < sumN g n + g n
      omega
/-- how many cells are not set -/
def cf (N m : Nat) (S : Nat → Nat → Bool) : Nat := sumN (fun a => sumN (fun k => if S a k = true then 0 else 1) m) N
theorem cf_upd {N m a b : Nat} {S : Nat → Nat → Bool} (ha : a < N) (hb : b < m) (h : S a b = false) : cf N m (updB S a b) < cf N m S := by
  have hle : ∀ i j, (if updB S a b i j = true then 0 else 1) ≤ (if S i j = true then 0 else 1) := by
    intro i j
    unfold updB
    by_cases e : i = a ∧ j = b
    · rw [if_pos e]; simp
    · rw [if_neg e]; exact Nat.le_refl _
  refine sumN_lt N (fun i _ => sumN_le m fun j _ => hle i j) ⟨a, ha, sumN_lt m (fun j _ => hle a j) ⟨b, hb, ?_⟩⟩
  simp only [updB_at, h]
  decide
/-- while a pass goes on -/
def PP (N m : Nat) (S0 : Nat → Nat → Bool) (st : (Nat → Nat → Bool) × Bool) : Prop := (st.2 = false → st.1 = S0) ∧ cf N m st.1 ≤ cf N m S0 ∧ (st.2 = true → cf N m st.1 < cf N m S0)
theorem fold_inv {α β : Type} {P : β → Prop} {f : β → α → β} : ∀ (l : List α) (b : β), (∀ a, a ∈ l → ∀ b, P b → P (f b a)) → P b → P (l.foldl f b)
  | [], _, _, h => h
  | a :: l, b, h, hb => fold_inv l (f b a) (fun x hx => h x (List.mem_cons_of_mem _ hx)) (h a List.mem_cons_self b hb)
theorem p1_inv {N m k : Nat} {S0 : Nat → Nat → Bool} {r : Rule} (hr : r.left.toNat < N) (hk : k < m) (st : (Nat → Nat → Bool) × Bool) (h : PP N m S0 st) : PP N m S0 (p1 r st k) := by
  unfold p1
  split
  · rename_i hc
    rw [Bool.and_eq_true] at hc
    have hf : st.1 r.left.toNat k = false := by simpa using hc.1
    have := cf_upd hr hk hf
    have := h.2.1
    exact ⟨(fun e => by cases e), by show cf N m (updB _ _ _) ≤ _; omega, fun _ => by show cf N m (updB _ _ _) < _; omega⟩
  · exact h
theorem p3_inv {N n : Nat} {S0 : Nat → Nat → Bool} {l : List Rule} (hl : ∀ r ∈ l, r.left.toNat < N) : PP N (n + 1) S0 (p3 n l S0) := by
  unfold p3
  refine fold_inv l _ (fun r hr st h => ?_) ⟨fun _ => rfl, Nat.le_refl _, fun e => by cases e⟩
  unfold p2
  exact fold_inv _ _ (fun k hk st h => p1_inv (hl r hr) (List.mem_range.1 hk) st h) h
theorem itP_snoc {n : Nat} {l : List Rule} : ∀ (q : Nat) (S : Nat → Nat → Bool), itP n l (q + 1) S = (p3 n l (itP n l q S)).1
  | 0, _ => rfl
  | q + 1, S => by rw [itP]; exact itP_snoc q _
theorem p2_next {n : Nat} {l : List Rule} {i : Nat} (hi : i < l.length) (st : (Nat → Nat → Bool) × Bool) : (l.take (i + 1)).foldl (p2 n) st = p2 n ((l.take i).foldl (p2 n) st) l[i] := by
  rw [List.take_succ_eq_append_getElem hi, List.foldl_append]; rfl
theorem CI.setS {g : Gram} {vr : Value} {N n : Nat} {d : Cid} {S M : Nat → Nat → Bool} {C : Nat → Nat → Int} {W : World} (h : CI g vr N n d S M C W) {a k : Nat} (ha : a < N) (hk : k < n + 1) : CI g vr N n d (updB S a k) M C (W.setCell ⟨d.rs a, k, none⟩ (.bool true)) := by
  obtain ⟨⟨T, h1⟩, h2, h3, h4, h5⟩ := h
  have hne := h2.ne a ha
  have p2 := h2.pl
  have p3 := h3.pl
  have p4 := h4.pl
  refine ⟨⟨T, bx_other h1 (by omega) _ _⟩, ?_, h3.other fun j j1 j2 => Below.heap_setCell _ _ _ _ (by show j ≠ d.rs a; omega), h4.other fun j j1 j2 => Below.heap_setCell _ _ _ _ (by show j ≠ d.rs a; omega), h5⟩
  refine (h2.set ha hk (.bool true)).eq fun b l _ _ => ?_
  unfold updB
  show (if b = a ∧ l = k then _ else _) = _
  split <;> rfl
/-- the table where the passes end is one and the same -/
theorem itP_add {n : Nat} {l : List Rule} : ∀ (q p : Nat) (S : Nat → Nat → Bool), itP n l (q + p) S = itP n l p (itP n l q S)
  | 0, p, S => by rw [Nat.zero_add]; rfl
  | q + 1, p, S => by rw [Nat.succ_add]; exact itP_add q p _
theorem itP_still {n : Nat} {l : List Rule} {N : Nat} (hl : ∀ r ∈ l, r.left.toNat < N) {S : Nat → Nat → Bool} (h : (p3 n l S).2 = false) : ∀ q, itP n l q S = S
  | 0 => rfl
  | q + 1 => by rw [itP_snoc, itP_still hl h q]; exact (p3_inv (N := N) hl).1 h
theorem done_eq {n : Nat} {l : List Rule} {N : Nat} (hl : ∀ r ∈ l, r.left.toNat < N) {S S0 : Nat → Nat → Bool} {q p : Nat} (hq : S = itP n l q S0) (h1 : (p3 n l S).2 = false) (h2 : (p3 n l (itP n l p S0)).2 = false) : S = itP n l p S0 := by
  rcases Nat.le_total q p with h | h
  · obtain ⟨x, rfl⟩ := Nat.exists_eq_add_of_le h
    rw [itP_add, ← hq, itP_still hl h1]
  · obtain ⟨x, rfl⟩ := Nat.exists_eq_add_of_le h
    rw [hq, itP_add, itP_still hl h2]
end Cs
end Go.Proofs.Ytbnpemgmdnghgaa
namespace Go.Proofs.Ytbnpemgmdnghgaa
open Go.RowKit
namespace Cs

theorem sumN_same {f g : Nat → Nat} : ∀ (n : Nat), (∀ i, i < n → f i = g i) → sumN f n = sumN g n
  | 0, _ => rfl
  | n + 1, h => by
    show sumN f n + f n = sumN g n + g n
    rw [sumN_same n fun i hi => h i (by omega), h n (by omega)]
theorem sumN_mul (f : Nat → Nat) (c : Nat) : ∀ n, sumN (fun i => c * f i) n = c * sumN f n
  | 0 => by simp [sumN]
  | n + 1 => by
    show sumN (fun i => c * f i) n + c * f n = c * (sumN f n + f n)
    rw [sumN_mul f c n, Nat.mul_add]
theorem sumN_mul' (f : Nat → Nat) (c : Nat) : ∀ n, sumN (fun i => f i * c) n = sumN f n * c
  | 0 => by simp [sumN]
  | n + 1 => by
    show sumN (fun i => f i * c) n + f n * c = (sumN f n + f n) * c
    rw [sumN_mul' f c n, Nat.add_mul]
theorem sumN_add (f g : Nat → Nat) : ∀ n, sumN (fun i => f i + g i) n = sumN f n + sumN g n
  | 0 => rfl
  | n + 1 => by
    show sumN (fun i => f i + g i) n + (f n + g n) = (sumN f n + f n) + (sumN g n + g n)
    rw [sumN_add f g n]; omega
theorem sumN_lt_iff {f g : Nat → Nat} {n : Nat} (h : ∀ i, i < n → f i ≤ g i) : sumN f n < sumN g n ↔ ∃ i, i < n ∧ f i < g i := by
  constructor
  · intro hl
    induction n with
    | zero => exact absurd hl (Nat.lt_irrefl _)
    | succ n ih =>
      by_cases e : f n < g n
      · exact ⟨n, by omega, e⟩
      · have hl' : sumN f n + f n < sumN g n + g n := hl
        have := h n (by omega)
        obtain ⟨i, hi, hlt⟩ := ih (fun i hi => h i (by omega)) (by omega)
        exact ⟨i, by omega, hlt⟩
  · exact sumN_lt n h
theorem sumN_pos_iff {g : Nat → Nat} {n : Nat} : 0 < sumN g n ↔ ∃ i, i < n ∧ 0 < g i := by
  have h0 : ∀ n, sumN (fun _ => 0) n = 0 := by intro n; induction n with
    | zero => rfl
    | succ n ih => show sumN (fun _ => 0) n + 0 = 0; rw [ih]
  have := sumN_lt_iff (f := fun _ => 0) (g := g) (n := n) (fun i _ => Nat.zero_le _)
  rw [h0] at this
  exact this
/-- sums over a triangle -/
theorem tri (f : Nat → Nat → Nat) : ∀ k, sumN (fun i => sumN (fun j => f i j) (k - i + 1)) (k + 1) = sumN (fun m => sumN (fun i => f i (m - i)) (m + 1)) (k + 1)
  | 0 => rfl
  | k + 1 => by
    have ih := tri f k
    show sumN (fun i => sumN (fun j => f i j) (k + 1 - i + 1)) (k + 1) + sumN (fun j => f (k + 1) j) (k + 1 - (k + 1) + 1) = sumN (fun m => sumN (fun i => f i (m - i)) (m + 1)) (k + 1) + (sumN (fun i => f i (k + 1 - i)) (k + 1) + f (k + 1) (k + 1 - (k + 1)))
    rw [← ih]
    have h1 : sumN (fun i => sumN (fun j => f i j) (k + 1 - i + 1)) (k + 1) = sumN (fun i => sumN (fun j => f i j) (k - i + 1) + f i (k + 1 - i)) (k + 1) := by
      refine sumN_same _ fun i hi => ?_
      have e : k + 1 - i + 1 = (k - i + 1) + 1 := by omega
      rw [e]
      show sumN _ (k - i + 1) + f i (k - i + 1) = _
      rw [show k - i + 1 = k + 1 - i by omega]
    rw [h1, sumN_add, Nat.sub_self]
    have h2 : sumN (fun j => f (k + 1) j) (0 + 1) = f (k + 1) 0 := by show 0 + f (k + 1) 0 = _; omega
    rw [h2]; omega

def cN (o : Sym → Nat → Nat) : List Sym → Nat → Nat
  | [], k => if k = 0 then 1 else 0
  | s :: l, k => sumN (fun i => o s i * cN o l (k - i)) (k + 1)
def oN (c : Nat → Nat → Nat) (s : Sym) (i : Nat) : Nat := if s.term then (if i = 1 then 1 else 0) else c s.n.toNat i
def cR (o : Sym → Nat → Nat) (A : Int) (k : Nat) : List Rule → Nat
  | [] => 0
  | r :: rs => (if r.left = A then cN o r.right k else 0) + cR o A k rs
/-- how many trees of at most so many levels a nonterminal has -/
def cnt (rules : List Rule) : Nat → Nat → Nat → Nat
  | 0, _, _ => 0
  | h + 1, A, k => cR (oN (cnt rules h)) (A : Int) k rules
theorem cN_snoc {o : Sym → Nat → Nat} {s : Sym} : ∀ (l : List Sym) (k : Nat), cN o (l ++ [s]) k = sumN (fun x => cN o l x * o s (k - x)) (k + 1)
  | [], k => by
    rw [List.nil_append, cN]
    have h1 : ∀ n, n ≤ k → sumN (fun i => o s i * cN o [] (k - i)) n = 0 := by
      intro n
      induction n with
      | zero => intro _; rfl
      | succ n ih =>
        intro hn
        show sumN _ n + o s n * cN o [] (k - n) = 0
        rw [ih (by omega), show cN o [] (k - n) = 0 from if_neg (by omega)]; simp
    have h2 : ∀ n, sumN (fun x => cN o [] x * o s (k - x)) (n + 1) = o s k := by
      intro n
      induction n with
      | zero => show 0 + cN o [] 0 * o s (k - 0) = _; unfold cN; simp
      | succ n ih =>
        show sumN _ (n + 1) + cN o [] (n + 1) * o s (k - (n + 1)) = _
        rw [ih, show cN o [] (n + 1) = 0 from if_neg (by omega)]; simp
    rw [h2 k]
    show sumN _ k + o s k * cN o [] (k - k) = _
    rw [h1 k (Nat.le_refl _), Nat.sub_self, show cN o [] 0 = 1 from rfl]; simp
  | a :: l, k => by
    rw [List.cons_append, cN]
    have h1 : sumN (fun i => o a i * cN o (l ++ [s]) (k - i)) (k + 1) = sumN (fun i => sumN (fun x => o a i * (cN o l x * o s (k - i - x))) (k - i + 1)) (k + 1) := by
      refine sumN_same _ fun i _ => ?_
      rw [cN_snoc l (k - i), sumN_mul]
    rw [h1, tri (fun i x => o a i * (cN o l x * o s (k - i - x))) k]
    refine sumN_same _ fun m hm => ?_
    rw [cN, ← sumN_mul']
    refine sumN_same _ fun i hi => ?_
    rw [show k - i - (m - i) = k - m by omega, Nat.mul_assoc]
theorem cN_mono {o o' : Sym → Nat → Nat} (h : ∀ s i, o' s i ≤ o s i) : ∀ (l : List Sym) (k : Nat), cN o' l k ≤ cN o l k
  | [], _ => Nat.le_refl _
  | s :: l, k => by
    rw [cN, cN]
    exact sumN_le _ fun i _ => Nat.mul_le_mul (h s i) (cN_mono h l (k - i))
theorem cR_mono {o o' : Sym → Nat → Nat} (h : ∀ s i, o' s i ≤ o s i) {A : Int} {k : Nat} : ∀ rs, cR o' A k rs ≤ cR o A k rs
  | [] => Nat.le_refl _
  | r :: rs => by
    rw [cR, cR]
    have := cR_mono h (A := A) (k := k) rs
    by_cases e : r.left = A
    · rw [if_pos e, if_pos e]; have := cN_mono h r.right k; omega
    · rw [if_neg e, if_neg e]; omega
theorem oN_mono {c c' : Nat → Nat → Nat} (h : ∀ A i, c' A i ≤ c A i) (s : Sym) (i : Nat) : oN c' s i ≤ oN c s i := by
  unfold oN
  split
  · exact Nat.le_refl _
  · exact h _ _
theorem cnt_mono1 {rules : List Rule} : ∀ (h A k : Nat), cnt rules h A k ≤ cnt rules (h + 1) A k
  | 0, A, k => Nat.zero_le _
  | h + 1, A, k => by
    rw [cnt, cnt]
    exact cR_mono (oN_mono fun A i => cnt_mono1 h A i) _
theorem cnt_mono {rules : List Rule} {h h' : Nat} (hh : h ≤ h') (A k : Nat) : cnt rules h A k ≤ cnt rules h' A k := by
  induction h' with
  | zero => obtain rfl : h = 0 := by omega
            exact Nat.le_refl _
  | succ h' ih =>
    by_cases e : h = h' + 1
    · subst e; exact Nat.le_refl _
    · exact Nat.le_trans (ih (by omega)) (cnt_mono1 _ _ _)
theorem mul_lt_iff {x x' y y' : Nat} (hx : x' ≤ x) (hy : y' ≤ y) : x' * y' < x * y ↔ (x' < x ∧ 0 < y) ∨ (0 < x ∧ y' < y) := by
  constructor
  · intro h
    rcases Nat.lt_or_ge x' x with h1 | h1
    · rcases Nat.eq_zero_or_pos y with h2 | h2
      · subst h2; simp at h
      · exact .inl ⟨h1, h2⟩
    · obtain rfl : x' = x := by omega
      rcases Nat.lt_or_ge y' y with h2 | h2
      · rcases Nat.eq_zero_or_pos x' with h3 | h3
        · subst h3; simp at h
        · exact .inr ⟨h3, h2⟩
      · obtain rfl : y' = y := by omega
        exact absurd h (Nat.lt_irrefl _)
  · rintro (⟨h1, h2⟩ | ⟨h1, h2⟩)
    · exact Nat.lt_of_le_of_lt (Nat.mul_le_mul_left _ hy) (Nat.mul_lt_mul_of_pos_right h1 h2)
    · exact Nat.lt_of_le_of_lt (Nat.mul_le_mul_right _ hx) (Nat.mul_lt_mul_of_pos_left h2 h1)
/-- more lists: more trees at some place, and some at the others -/
theorem cN_lt_iff {o o' : Sym → Nat → Nat} (h : ∀ s i, o' s i ≤ o s i) : ∀ (l : List Sym) (k : Nat), cN o' l k < cN o l k ↔ ∃ (p : Nat) (s : Sym) (i a : Nat), l[p]? = some s ∧ a + i ≤ k ∧ 0 < cN o (l.take p) a ∧ o' s i < o s i ∧ 0 < cN o (l.drop (p + 1)) (k - a - i)
  | [], k => by
    constructor
    · intro h; exact absurd h (Nat.lt_irrefl _)
    · rintro ⟨p, s, i, a, hp, _⟩; simp at hp
  | s :: l, k => by
    rw [cN, cN, sumN_lt_iff (fun i _ => Nat.mul_le_mul (h s i) (cN_mono h l (k - i)))]
    constructor
    · rintro ⟨i, hi, hlt⟩
      rcases (mul_lt_iff (h s i) (cN_mono h l (k - i))).1 hlt with ⟨h1, h2⟩ | ⟨h1, h2⟩
      · exact ⟨0, s, i, 0, rfl, by omega, by simp [cN], h1, by simpa using h2⟩
      · obtain ⟨p, s', j, a, hp, ha, h3, h4, h5⟩ := (cN_lt_iff h l (k - i)).1 h2
        refine ⟨p + 1, s', j, i + a, hp, by omega, ?_, h4, ?_⟩
        · rw [List.take_succ_cons, cN, sumN_pos_iff]
          exact ⟨i, by omega, Nat.mul_pos h1 (by rw [Nat.add_sub_cancel_left]; exact h3)⟩
        · rw [List.drop_succ_cons, show k - (i + a) - j = k - i - a - j by omega]; exact h5
    · rintro ⟨p, s', j, a, hp, ha, h3, h4, h5⟩
      cases p with
      | zero =>
        simp at hp
        subst hp
        have ha0 : a = 0 := by
          rw [List.take_zero] at h3
          unfold cN at h3
          by_cases e : a = 0
          · exact e
          · rw [if_neg e] at h3; exact absurd h3 (Nat.lt_irrefl _)
        subst ha0
        exact ⟨j, by omega, (mul_lt_iff (h s j) (cN_mono h l (k - j))).2 (.inl ⟨h4, by simpa using h5⟩)⟩
      | succ p =>
        rw [List.take_succ_cons, cN, sumN_pos_iff] at h3
        obtain ⟨i, hi, h3⟩ := h3
        have h6 : 0 < o s i := Nat.pos_of_mul_pos_right h3
        have h7 : 0 < cN o (l.take p) (a - i) := Nat.pos_of_mul_pos_left h3
        refine ⟨i, by omega, (mul_lt_iff (h s i) (cN_mono h l (k - i))).2 (.inr ⟨h6, ?_⟩)⟩
        rw [List.drop_succ_cons] at h5
        exact (cN_lt_iff h l (k - i)).2 ⟨p, s', j, a - i, by simpa using hp, by omega, h7, h4, by rw [show k - i - (a - i) - j = k - a - j by omega]; exact h5⟩
theorem cN_pos {o : Sym → Nat → Nat} {S : Nat → Nat → Bool} {n : Nat} (h : ∀ s i, i ≤ n → 0 < o s i → hasK S s i = true) : ∀ (l : List Sym) (k : Nat), k ≤ n → 0 < cN o l k → canK S l k = true
  | [], k, _, hp => by
    unfold cN at hp
    by_cases e : k = 0
    · subst e; rfl
    · rw [if_neg e] at hp; exact absurd hp (Nat.lt_irrefl _)
  | s :: l, k, hk, hp => by
    rw [cN, sumN_pos_iff] at hp
    obtain ⟨i, hi, hp⟩ := hp
    exact canK_cons.2 ⟨i, by omega, h s i (by omega) (Nat.pos_of_mul_pos_right hp), cN_pos h l (k - i) (by omega) (Nat.pos_of_mul_pos_left hp)⟩
theorem canK_cN {o : Sym → Nat → Nat} {S : Nat → Nat → Bool} {n : Nat} : ∀ (l : List Sym), (∀ s ∈ l, ∀ i, i ≤ n → hasK S s i = true → 0 < o s i) → ∀ (k : Nat), k ≤ n → canK S l k = true → 0 < cN o l k
  | [], _, k, _, hp => by
    have : k = 0 := by simpa [canK] using hp
    subst this
    simp [cN]
  | s :: l, h, k, hk, hp => by
    obtain ⟨i, hi, h1, h2⟩ := canK_cons.1 hp
    rw [cN, sumN_pos_iff]
    exact ⟨i, by omega, Nat.mul_pos (h s List.mem_cons_self i (by omega) h1) (canK_cN l (fun s' hs' => h s' (List.mem_cons_of_mem _ hs')) (k - i) (by omega) h2)⟩
theorem enL_cN {S : Nat → Nat → Bool} {e : Sym → Nat → List Tree} {o : Sym → Nat → Nat} {n : Nat} (h1 : ∀ s i, i ≤ n → (e s i).length = o s i) (h2 : ∀ s i, i ≤ n → 0 < o s i → hasK S s i = true) : ∀ (l : List Sym) (k : Nat), k ≤ n → (enL S e l k).length = cN o l k
  | [], k, _ => by unfold enL cN; split <;> rfl
  | s :: l, k, hk => by
    rw [enL_pre, cN]
    have key : ∀ m, m ≤ k + 1 → (pre S e s l k m).length = sumN (fun i => o s i * cN o l (k - i)) m := by
      intro m
      induction m with
      | zero => intro _; rfl
      | succ m ih =>
        intro hm
        rw [pre_len, ih (by omega)]
        show _ = sumN _ m + _
        congr 1
        unfold blk
        by_cases c : (hasK S s m && canK S l (k - m)) = true
        · rw [if_pos c, prodL_len, h1 s m (by omega), enL_cN h1 h2 l (k - m) (by omega)]
        · rw [if_neg c, List.length_nil]
          rcases Nat.eq_zero_or_pos (o s m * cN o l (k - m)) with h | h
          · exact h.symm
          · have e1 := h2 s m (by omega) (Nat.pos_of_mul_pos_right h)
            have e2 := cN_pos h2 l (k - m) (by omega) (Nat.pos_of_mul_pos_left h)
            rw [e1, e2] at c
            exact absurd rfl c
    exact key _ (Nat.le_refl _)
theorem enR_cR {S : Nat → Nat → Bool} {e : Sym → Nat → List Tree} {o : Sym → Nat → Nat} {n : Nat} (h1 : ∀ s i, i ≤ n → (e s i).length = o s i) (h2 : ∀ s i, i ≤ n → 0 < o s i → hasK S s i = true) {A : Int} {k : Nat} (hk : k ≤ n) : ∀ (rs : List Rule) (j : Nat), (enR S e A k rs j).length = cR o A k rs
  | [], _ => rfl
  | r :: rs, j => by
    rw [enR, cR, List.length_append, enR_cR h1 h2 hk rs (j + 1)]
    congr 1
    by_cases c : r.left = A
    · rw [if_pos c, if_pos c, List.length_map, enL_cN h1 h2 _ _ hk]
    · rw [if_neg c, if_neg c]; rfl
theorem cR_pos {o : Sym → Nat → Nat} {A : Int} {k : Nat} : ∀ (rs : List Rule), 0 < cR o A k rs → ∃ r ∈ rs, r.left = A ∧ 0 < cN o r.right k
  | [], h => absurd h (Nat.lt_irrefl _)
  | r :: rs, h => by
    rw [cR] at h
    by_cases c : r.left = A ∧ 0 < cN o r.right k
    · exact ⟨r, List.mem_cons_self, c⟩
    · have : 0 < cR o A k rs := by
        by_cases e : r.left = A
        · rw [if_pos e] at h
          have : cN o r.right k = 0 := by
            rcases Nat.eq_zero_or_pos (cN o r.right k) with h | h
            · exact h
            · exact absurd ⟨e, h⟩ c
          omega
        · rw [if_neg e] at h; omega
      obtain ⟨r', h1, h2⟩ := cR_pos rs this
      exact ⟨r', List.mem_cons_of_mem _ h1, h2⟩
/-- the trees that are listed are the trees that are counted -/
theorem enF_cnt {rules : List Rule} {S : Nat → Nat → Bool} {n : Nat} (hc : ∀ r ∈ rules, ∀ k, k ≤ n → canK S r.right k = true → S r.left.toNat k = true) : ∀ (f A k : Nat), k ≤ n → (enF rules S f A k).length = cnt rules f A k ∧ (0 < cnt rules f A k → S A k = true) := by
  intro f
  induction f with
  | zero => intro A k _; exact ⟨rfl, fun h => absurd h (Nat.lt_irrefl _)⟩
  | succ f ih =>
    intro A k hk
    have h2 : ∀ s i, i ≤ n → 0 < oN (cnt rules f) s i → hasK S s i = true := by
      intro s i hi hp
      unfold oN at hp
      unfold hasK
      cases ht : s.term with
      | true =>
        rw [ht] at hp
        simp only [if_true] at hp ⊢
        by_cases e : i = 1
        · simp [e]
        · rw [if_neg e] at hp; exact absurd hp (Nat.lt_irrefl _)
      | false =>
        rw [ht] at hp
        simp only [Bool.false_eq_true, if_false] at hp ⊢
        exact (ih _ i hi).2 hp
    have h1 : ∀ s i, i ≤ n → (symE S (enF rules S f) s i).length = oN (cnt rules f) s i := by
      intro s i hi
      unfold symE oN
      cases ht : s.term with
      | true =>
        unfold hasK
        rw [ht]
        simp only [if_true]
        by_cases e : i = 1
        · rw [if_neg (by simp [e]), if_pos e]; rfl
        · rw [if_pos (by simp [e]), if_neg e]; rfl
      | false =>
        simp only [Bool.false_eq_true, if_false]
        cases hh : hasK S s i with
        | true => simp only [Bool.true_eq_false, if_false]; exact (ih _ i hi).1
        | false =>
          simp only [if_true, List.length_nil]
          rcases Nat.eq_zero_or_pos (cnt rules f s.n.toNat i) with h | h
          · exact h.symm
          · have := (ih _ i hi).2 h
            unfold hasK at hh
            rw [ht] at hh
            simp only [Bool.false_eq_true, if_false] at hh
            rw [this] at hh; cases hh
    have hpos : 0 < cnt rules (f + 1) A k → S A k = true := by
      intro hp
      rw [cnt] at hp
      obtain ⟨r, hr, hl, hp⟩ := cR_pos _ hp
      have := hc r hr k hk (cN_pos h2 _ _ hk hp)
      rw [hl, Int.toNat_natCast] at this
      exact this
    refine ⟨?_, hpos⟩
    rw [enF]
    by_cases hS : S A k = false
    · rw [if_pos hS]
      rcases Nat.eq_zero_or_pos (cnt rules (f + 1) A k) with h | h
      · exact h.symm
      · rw [hpos h] at hS; cases hS
    · rw [if_neg hS, cnt]
      exact enR_cR h1 h2 hk _ _
end Cs
end Go.Proofs.Ytbnpemgmdnghgaa
namespace Go.Proofs.Ytbnpemgmdnghgaa
open Go.RowKit
namespace Ln

def rt (K : List Rule) (i : Nat) : List Sym := (K[i]?.map Rule.right).getD []
def lft (K : List Rule) (i : Nat) : Int := (K[i]?.map Rule.left).getD 0
theorem rt_eq {K : List Rule} {i : Nat} (h : i < K.length) : rt K i = K[i].right := by simp [rt, h]
theorem lft_eq {K : List Rule} {i : Nat} (h : i < K.length) : lft K i = K[i].left := by simp [lft, h]
/-- the first d symbols of rule i have a word of length l -/
inductive It (K : List Rule) : Nat → Nat → Nat → Prop
  | start {i : Nat} : i < K.length → It K i 0 0
  | term {i d l : Nat} {s : Sym} : It K i d l → (rt K i)[d]? = some s → s.term = true → It K i (d + 1) (l + 1)
  | non {i d l j k : Nat} {s : Sym} : It K i d l → (rt K i)[d]? = some s → s.term = false → It K j (rt K j).length k → lft K j = s.n → It K i (d + 1) (l + k)
theorem It.lt {K : List Rule} {i d l : Nat} (h : It K i d l) : i < K.length := by
  induction h with
  | start h => exact h
  | term _ _ _ ih => exact ih
  | non _ _ _ _ _ ih _ => exact ih
theorem It.dot {K : List Rule} {i d l : Nat} (h : It K i d l) : d ≤ (rt K i).length := by
  induction h with
  | start h => omega
  | term _ hs _ _ => have := (List.getElem?_eq_some_iff.1 hs).1; omega
  | non _ hs _ _ _ _ _ => have := (List.getElem?_eq_some_iff.1 hs).1; omega
/-- nonterminal a has a word of length k -/
def Has (K : List Rule) (a : Int) (k : Nat) : Prop := ∃ j, It K j (rt K j).length k ∧ lft K j = a

/-- the way of lens.Set: one symbol more -/
def stB (H : Nat → Nat → Bool) (s : Sym) (j : Nat) : Bool := if s.term then j == 1 else H s.n.toNat j
def nxt (H : Nat → Nat → Bool) (n : Nat) (s : Sym) (A : Nat → Bool) (m : Nat) : Bool := decide (m ≤ n) && (List.range (m + 1)).any fun i => A i && stB H s (m - i)
def atR (H : Nat → Nat → Bool) (n : Nat) (R : List Sym) : Nat → Bool := R.foldl (fun A s => nxt H n s A) (fun m => m == 0)
theorem atR_snoc (H : Nat → Nat → Bool) (n : Nat) (R : List Sym) (s : Sym) : atR H n (R ++ [s]) = nxt H n s (atR H n R) := by simp [atR]
theorem nxt_iff {H : Nat → Nat → Bool} {n : Nat} {s : Sym} {A : Nat → Bool} {m : Nat} : nxt H n s A m = true ↔ m ≤ n ∧ ∃ i j, i + j = m ∧ A i = true ∧ stB H s j = true := by
  unfold nxt
  simp only [Bool.and_eq_true, decide_eq_true_eq, List.any_eq_true, List.mem_range]
  constructor
  · rintro ⟨h1, i, hi, h2, h3⟩
    exact ⟨h1, i, m - i, by omega, h2, h3⟩
  · rintro ⟨h1, i, j, h2, h3, h4⟩
    exact ⟨h1, i, by omega, h3, by rw [show m - i = j by omega]; exact h4⟩
theorem nxt_le {H : Nat → Nat → Bool} {n : Nat} {s : Sym} {A : Nat → Bool} {m : Nat} (h : nxt H n s A m = true) : m ≤ n := (nxt_iff.1 h).1
/-- H tells true lengths alone -/
def Sound (K : List Rule) (H : Nat → Nat → Bool) : Prop := ∀ a k, H a k = true → Has K (a : Int) k
/-- what the rules give is there -/
def Closed (K : List Rule) (n : Nat) (H : Nat → Nat → Bool) (i : Nat) : Prop := ∀ m, m ≤ n → atR H n (rt K i) m = true → H (lft K i).toNat m = true
variable {K : List Rule} {n : Nat} {H : Nat → Nat → Bool}
theorem at_sound (hs : Sound K H) (hp : ∀ i, i < K.length → ∀ s ∈ rt K i, s.term = false → 0 ≤ s.n) {i : Nat} (hi : i < K.length) : ∀ d m, d ≤ (rt K i).length → atR H n ((rt K i).take d) m = true → It K i d m
  | 0, m, _, h => by
    simp [atR] at h
    subst h
    exact .start hi
  | d + 1, m, hd, h => by
    rw [List.take_succ_eq_append_getElem (by omega), atR_snoc, nxt_iff] at h
    obtain ⟨_, a, b, rfl, h1, h2⟩ := h
    have ih := at_sound hs hp hi d a (by omega) h1
    have hg : (rt K i)[d]? = some ((rt K i)[d]'(by omega)) := List.getElem?_eq_getElem (by omega)
    unfold stB at h2
    cases ht : ((rt K i)[d]'(by omega)).term with
    | true =>
      rw [ht] at h2
      simp at h2
      subst h2
      exact .term ih hg ht
    | false =>
      rw [ht] at h2
      simp only [Bool.false_eq_true, if_false] at h2
      obtain ⟨j, h3, h4⟩ := hs _ _ h2
      have h0 := hp i hi _ (List.getElem_mem (by omega)) ht
      exact .non ih hg ht h3 (by rw [h4]; omega)
theorem at_complete (hc : ∀ i, i < K.length → Closed K n H i) {i d l : Nat} (h : It K i d l) : l ≤ n → atR H n ((rt K i).take d) l = true := by
  induction h with
  | start h => intro _; simp [atR]
  | @term i d l s h1 hs ht ih =>
    intro hl
    obtain ⟨hd, he⟩ := List.getElem?_eq_some_iff.1 hs
    rw [List.take_succ_eq_append_getElem hd, atR_snoc, nxt_iff, he]
    exact ⟨hl, l, 1, rfl, ih (by omega), by simp [stB, ht]⟩
  | @non i d l j k s h1 hs ht h2 he2 ih1 ih2 =>
    intro hl
    obtain ⟨hd, he⟩ := List.getElem?_eq_some_iff.1 hs
    rw [List.take_succ_eq_append_getElem hd, atR_snoc, nxt_iff, he]
    refine ⟨hl, l, k, rfl, ih1 (by omega), ?_⟩
    have h3 := ih2 (by omega)
    rw [List.take_length] at h3
    have h4 := hc j h2.lt k (by omega) h3
    rw [he2] at h4
    simp [stB, ht, h4]
/-- where nothing more is to be added, H is right -/
theorem set_right (hs : Sound K H) (hc : ∀ i, i < K.length → Closed K n H i) (hp : ∀ i, i < K.length → 0 ≤ lft K i) {a : Nat} {k : Nat} (hk : k ≤ n) : H a k = true ↔ Has K (a : Int) k := by
  refine ⟨hs a k, ?_⟩
  rintro ⟨j, h1, h2⟩
  have h3 := at_complete hc h1 hk
  rw [List.take_length] at h3
  have h4 := hc j h1.lt k hk h3
  rw [h2] at h4
  simpa using h4
/-- the way of lengthsOf: the items that are known, of which the first p are done; C: the lengths that they tell -/
structure Items (K : List Rule) (n : Nat) (L : List (Nat × Nat × Nat)) (p : Nat) (C : Nat → Nat → Bool) : Prop where
  sound : ∀ x ∈ L, It K x.1 x.2.1 x.2.2 ∧ x.2.2 ≤ n
  nodup : L.Nodup
  start : ∀ i, i < K.length → (i, 0, 0) ∈ L
  csound : ∀ a k, C a k = true → ∃ x ∈ L.take p, x.2.1 = (rt K x.1).length ∧ lft K x.1 = (a : Int) ∧ x.2.2 = k
  full : ∀ x ∈ L.take p, x.2.1 = (rt K x.1).length → C (lft K x.1).toNat x.2.2 = true
  term : ∀ x ∈ L.take p, ∀ s, (rt K x.1)[x.2.1]? = some s → s.term = true → x.2.2 + 1 ≤ n → (x.1, x.2.1 + 1, x.2.2 + 1) ∈ L
  non : ∀ x ∈ L.take p, ∀ s, (rt K x.1)[x.2.1]? = some s → s.term = false → ∀ k, C s.n.toNat k = true → x.2.2 + k ≤ n → (x.1, x.2.1 + 1, x.2.2 + k) ∈ L
theorem items_all {L : List (Nat × Nat × Nat)} {p : Nat} {C : Nat → Nat → Bool} (h : Items K n L p C) (hp : L.length ≤ p) {i d l : Nat} (hi : It K i d l) : l ≤ n → (i, d, l) ∈ L := by
  have ht : L.take p = L := List.take_of_length_le hp
  have h3 := h.full
  have h4 := h.term
  have h5 := h.non
  rw [ht] at h3 h4 h5
  induction hi with
  | start hi => intro _; exact h.start _ hi
  | term _ hs hb ih => intro hl; exact h4 _ (ih (by omega)) _ hs hb hl
  | @non i d l j k s _ hs hb _ he ih1 ih2 =>
    intro hl
    have h6 := h3 _ (ih2 (by omega)) rfl
    simp only [he] at h6
    exact h5 _ (ih1 (by omega)) _ hs hb k h6 hl
/-- where all items are done, C is right -/
theorem items_right {L : List (Nat × Nat × Nat)} {p : Nat} {C : Nat → Nat → Bool} (h : Items K n L p C) (hp : L.length ≤ p) {a k : Nat} (hk : k ≤ n) : C a k = true ↔ Has K (a : Int) k := by
  have ht : L.take p = L := List.take_of_length_le hp
  constructor
  · intro hc
    obtain ⟨x, hx, h1, h2, h3⟩ := h.csound a k hc
    rw [ht] at hx
    have h4 := (h.sound x hx).1
    rw [h1, h3] at h4
    exact ⟨x.1, h4, h2⟩
  · rintro ⟨j, h1, h2⟩
    have h3 := items_all h hp h1 hk
    have h4 := h.full
    rw [ht] at h4
    have h5 := h4 _ h3 rfl
    simp only [h2] at h5
    simpa using h5
end Ln
end Go.Proofs.Ytbnpemgmdnghgaa
namespace Go.Proofs.Ytbnpemgmdnghgaa
open Go.RowKit

/-- block b is a map that has the keys of which S holds, all of them true -/
def SetM (P : Program) (k e : TypeId) (b c : Nat) (S : Lit → Bool) (w : World) : Prop :=
  ∃ D : DataW Unit, w.ownsMap P k (plainElem P e) b c D ∧ ∀ (key : Value) (l : Lit), keyOf P k key = some l → D.atKey l (.lit (.bool false)) = .lit (.bool (S l))
section
variable {P : Program} {k e t : TypeId} {b c : Nat} {S : Lit → Bool} {w w' : World}
theorem SetM.kept {row : Option Nat} (h : SetM P k e b c S w) (hg : w.grownBy w' row) (hne : some b ≠ row) : SetM P k e b c S w' := by
  obtain ⟨D, h1, h2⟩ := h
  exact ⟨D, h1.kept hg hne, h2⟩
theorem SetM.keep (h : SetM P k e b c S w) (hb : Below w.heap.size w w') : SetM P k e b c S w' := h.kept (grown_below hb none) (by simp)
theorem SetM.lt (h : SetM P k e b c S w) : b < w.heap.size := by obtain ⟨D, h1, h2⟩ := h; exact h1.lt
theorem SetM.start (P : Program) (k e : TypeId) (w : World) {b : Nat} (hb : b = w.heap.size) {S : Lit → Bool} (hS : ∀ l, S l = false) : SetM P k e b 0 S (w.alloc (.map #[] 0)) := by
  subst hb
  exact ⟨.map [], World.ownsMap_made w _ _ _, fun _ l _ => by simp [DataW.atKey, hS l]⟩
theorem plainElem_bool_inv (he : P.underlying e = some .bool) {v : Value} {z : DataW Unit × List MemPlace} (h : plainElem P e v = some z) : ∃ x, v = .bool x ∧ z = (.lit (.bool x), []) := by
  unfold plainElem at h
  rw [he] at h
  split at h
  · rename_i x _
    cases h
    exact ⟨_, rfl, rfl⟩
  · rename_i h1; cases h1
  · rename_i h1; cases h1
  · cases h
/-- m[k] -/
theorem SetM.look (h : SetM P k e b c S w) (hK : Maps.Keyed P k) (ht : P.underlying t = some (.map k e)) (he : P.underlying e = some .bool) (hz : (zeroValue e).run P w = .ok (.bool false) w) {key : Value} {l : Lit} (hkey : keyOf P k key = some l) :
    (Instr.lookup t (.map (some b)) key false).run P w = .ok (.bool (S l)) w := by
  obtain ⟨D, h1, h2⟩ := h
  obtain ⟨v, ps, hrun, hv⟩ := h1.lookup hK ht hz (plainElem_bool he false) hkey
  rw [h2 key l hkey] at hv
  obtain ⟨x, rfl, hx⟩ := plainElem_bool_inv he hv
  simp at hx
  rw [hrun, ← hx.1]
/-- m[k] = true -/
theorem SetM.add (h : SetM P k e b c S w) (hK : Maps.Keyed P k) (ht : P.underlying t = some (.map k e)) (he : P.underlying e = some .bool) (hc : c < maxLen) {key : Value} {l : Lit} (hkey : keyOf P k key = some l) {S' : Lit → Bool} (hS : S' l = true) (hO : ∀ l', l' ≠ l → S' l' = S l') :
    ∃ w', (Instr.mapUpdate t (.map (some b)) key (.bool true)).run P w = .ok () w' ∧ SetM P k e b (c + 1) S' w' ∧ w.grownBy w' (some b) := by
  obtain ⟨D, h1, h2⟩ := h
  obtain ⟨w', hrun, ho, ht'⟩ := h1.store hK ht hc hkey (plainElem_bool he true)
  refine ⟨w', hrun, ⟨_, ho, fun key' l' hk' => ?_⟩, ht'.grown⟩
  by_cases el : l' = l
  · subst el
    rw [Go.Maps.atKey_put_same h1.isMap (hK.key hkey), hS]
  · rw [Go.Maps.atKey_put_other el, h2 key' l' hk', hO l' el]
end
end Go.Proofs.Ytbnpemgmdnghgaa
namespace Go.Proofs.Ytbnpemgmdnghgaa
open Go.RowKit

def symB (s : Sym) : List UInt8 := [if s.term then 116 else 110, UInt8.ofNat s.n.toNat]
def keyB (l : Int) (ss : List Sym) : List UInt8 := UInt8.ofNat l.toNat :: ss.flatMap symB
def small (n : Int) : Prop := 0 ≤ n ∧ n < 10
theorem byte_inj {a b : Int} (ha : small a) (hb : small b) (h : UInt8.ofNat a.toNat = UInt8.ofNat b.toNat) : a = b := by
  have h2 := congrArg UInt8.toNat h
  simp at h2
  obtain ⟨a0, a1⟩ := ha
  obtain ⟨b0, b1⟩ := hb
  rw [Nat.mod_eq_of_lt (by omega), Nat.mod_eq_of_lt (by omega)] at h2
  omega
theorem syms_inj : ∀ {l m : List Sym}, (∀ s ∈ l, small s.n) → (∀ s ∈ m, small s.n) → l.flatMap symB = m.flatMap symB → l = m
  | [], [], _, _, _ => rfl
  | [], y :: m, _, _, h => by simp [symB] at h
  | x :: l, [], _, _, h => by simp [symB] at h
  | x :: l, y :: m, hl, hm, h => by
    simp only [List.flatMap_cons, symB, List.cons_append, List.nil_append, List.cons.injEq] at h
    obtain ⟨h1, h2, h3⟩ := h
    have e1 := syms_inj (fun s hs => hl s (List.mem_cons_of_mem _ hs)) (fun s hs => hm s (List.mem_cons_of_mem _ hs)) h3
    have e2 := byte_inj (hl x List.mem_cons_self) (hm y List.mem_cons_self) h2
    have e3 : x.term = y.term := by
      cases hx : x.term <;> cases hy : y.term <;> simp_all
    obtain ⟨xt, xn⟩ := x
    obtain ⟨yt, yn⟩ := y
    simp at e2 e3
    subst e1 e2 e3
    rfl
def okR (r : Rule) : Prop := small r.left ∧ ∀ s ∈ r.right, small s.n
theorem keyB_inj {r q : Rule} (hr : okR r) (hq : okR q) (h : keyB r.left r.right = keyB q.left q.right) : r = q := by
  simp only [keyB, List.cons.injEq] at h
  have e1 := byte_inj hr.1 hq.1 h.1
  have e2 := syms_inj hr.2 hq.2 h.2
  obtain ⟨_, _⟩ := r
  obtain ⟨_, _⟩ := q
  simp_all
/-- the keys of rules -/
def keysOf (l : List Rule) : Lit → Bool
  | .string b => l.any fun r => keyB r.left r.right == b
  | _ => false
theorem keysOf_same {l : List Rule} {r : Rule} (hl : ∀ x ∈ l, okR x) (hr : okR r) : keysOf l (.string (keyB r.left r.right)) = l.any fun x => cmpR x r == 0 := by
  simp only [keysOf]
  induction l with
  | nil => rfl
  | cons x l ih =>
    simp only [List.any_cons]
    rw [ih fun y hy => hl y (List.mem_cons_of_mem _ hy)]
    have e1 : (keyB x.left x.right == keyB r.left r.right) = (cmpR x r == 0) := by
     by_cases e : x = r
     · subst e
       have : cmpR x x = 0 := cmpR_zero.2 rfl
       simp [this]
     · have h1 : ¬ keyB x.left x.right = keyB r.left r.right := fun h => e (keyB_inj (hl x List.mem_cons_self) hr h)
       have h2 : ¬ cmpR x r = 0 := fun h => e (cmpR_zero.1 h)
       rw [beq_eq_false_iff_ne.2 h1, beq_eq_false_iff_ne.2 h2]
    rw [e1]
theorem keysOf_add {l : List Rule} {r : Rule} : keysOf (l ++ [r]) (.string (keyB r.left r.right)) = true := by simp [keysOf]
theorem keysOf_other {l : List Rule} {r : Rule} {x : Lit} (h : x ≠ .string (keyB r.left r.right)) : keysOf (l ++ [r]) x = keysOf l x := by
  cases x <;> simp [keysOf] at h ⊢
  intro h2
  exact absurd h2.symm h
theorem enc_small {n : Int} (h : small n) : Utf8.encode n = ⟨#[UInt8.ofNat n.toNat]⟩ := by
  obtain ⟨h0, h1⟩ := h
  have hv : Utf8.valid n = true := by simp [Utf8.valid]; omega
  simp only [Utf8.encode, hv, if_true]
  rw [if_pos (by omega)]
/-- a string's bytes -/
def Bts (s : ByteArray) (l : List UInt8) : Prop := s.data.toList = l
theorem Bts.app {s t : ByteArray} {l m : List UInt8} (h : Bts s l) (k : Bts t m) : Bts (s ++ t) (l ++ m) := by
  unfold Bts at *
  rw [ByteArray.data_append, Array.toList_append, h, k]
theorem bts_enc {n : Int} (h : small n) : Bts (Utf8.encode n) [UInt8.ofNat n.toNat] := by rw [enc_small h]; rfl
theorem Bts.size {s : ByteArray} {l : List UInt8} (h : Bts s l) : s.size = l.length := by
  unfold Bts at h
  rw [← h]; rfl
theorem keyB_take {l : Int} {ss : List Sym} {q : Nat} (h : q < ss.length) : keyB l (ss.take (q + 1)) = keyB l (ss.take q) ++ [if ss[q].term then 116 else 110] ++ [UInt8.ofNat ss[q].n.toNat] := by
  unfold keyB
  rw [List.take_succ_eq_append_getElem h, List.flatMap_append]
  simp only [List.flatMap_cons, List.flatMap_nil, symB, List.append_nil, List.cons_append, List.append_assoc, List.nil_append]
theorem keyB_len {l : Int} {ss : List Sym} : (keyB l ss).length = 1 + 2 * ss.length := by
  simp only [keyB, List.length_cons]
  induction ss with
  | nil => rfl
  | cons x ss ih => simp only [List.flatMap_cons, List.length_append, symB, List.length_cons, List.length_nil] at ih ⊢; omega
theorem key_string (s : ByteArray) (l : List UInt8) (h : Bts s l) (hs : s.size ≤ maxLen) : keyOf Try.prog 9 (.string s) = some (.string l) := by
  unfold Bts at h
  subst h
  simp [keyOf, Try.underlying9, mapKey, hs]
end Go.Proofs.Ytbnpemgmdnghgaa
