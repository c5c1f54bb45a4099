/- The contract of attr.valid. -/
import Derived.Test.YtiapfogckbkkpaaAttrDefs
import Derived.Test.YtiapfogckbkkpaaAttrIdx
import Derived.Deep.CutBlock
import Derived.Deep.DeepCutAuto
namespace Go.Proofs.Ytiapfogckbkkpaa
open Go.RowKit
namespace At

def okN (k n : Int) : Bool := if k = 0 then decide (0 ≤ n ∧ n < 1000003) else decide (n = 0)
theorem okNode_eq (al : List Attr) (r : Rule) (x : Expr) : okNode al r x = (okArgs x.kind x.args.length && okN x.kind x.n && (if x.kind = 1 then there al r x.ref else decide (x.ref = ⟨0, 0⟩))) := rfl
theorem all_not_any {α : Type} (p : α → Bool) (l : List α) : l.all p = !(l.any fun x => !p x) := by
  induction l with
  | nil => rfl
  | cons a l ih => simp only [List.all_cons, List.any_cons, ih]; cases p a <;> simp
theorem beq_cast (a b : Nat) : ((a : Int) == (b : Int)) = (a == b) := by
  by_cases h : a = b
  · subst h; simp
  · have h2 : ¬ (a : Int) = b := by omega
    rw [beq_eq_false_iff_ne.2 h2, beq_eq_false_iff_ne.2 h]
/-- what a call of valid's closure finds -/
def ValidB (al : List Attr) (r : Rule) (aa ae ar : Option Addr) (ca ne ce cr b : Nat) (W : World) : Prop :=
  W.heap[b]? = some (.cells #[.slice aa al.length ca, .slice ae ne ce] 28 (0, 0)) ∧ W.heap[b + 1]? = some (.cells #[.int .i64 r.left, .slice ar r.right.length cr] 52 (0, 0))

set_option maxHeartbeats 4000000 in
set_option maxRecDepth 100000 in
theorem validE (al : List Attr) (r : Rule) (aa ae ar : Option Addr) (ca ne ce cr : Nat) : ∀ (m : Nat) (x : Expr) (v : Value) (w : World), x.size ≤ m → Rd AnyB w (.sl (al.map Attr.d)) [.slice aa al.length ca] → Rd AnyB w (.sl (r.right.map Sym.d)) [.slice ar r.right.length cr] → Rd AnyB w (.sl (x.args.map Expr.d)) [v] →
    Calls Try.prog 14 #[.agg #[.slice aa al.length ca, .slice ae ne ce], .agg #[.int .i64 r.left, .slice ar r.right.length cr], .agg #[.int .i64 x.kind, .int .i64 x.n, .int .i64 x.ref.at', .int .i64 x.ref.attr, v]] w (fun e w' => e = .returned (.bool (valid al r x)) ∧ Below w.heap.size w w') := by
  intro m
  induction m with
  | zero => intro x v w hm; have := x.size_pos; omega
  | succ m ih =>
  intro x v w hm hA hR hv
  obtain ⟨a, cap, rfl, hc1, hc2⟩ := hv.form
  have hc3 := hc2
  unfold maxLen at hc3
  rw [List.length_map] at hc1 hv ⊢
  obtain ⟨w0, HW0⟩ := nameIt (((w.alloc (.cells #[.slice aa al.length ca, .slice ae ne ce] 28)).alloc (.cells #[.int .i64 r.left, .slice ar r.right.length cr] 52)).alloc (.cells #[.int .i64 x.kind, .int .i64 x.n, .int .i64 x.ref.at', .int .i64 x.ref.attr, .slice a x.args.length cap] 39))
  have HB0 : Hid (Below w.heap.size w w0) := by rw [← HW0.out]; exact (((Below.refl _ _).alloc (Nat.le_refl _) _).alloc (by simp) _).alloc (by simp; omega) _
  have X1 : Hid (w0.heap[w.heap.size]? = some (.cells #[.slice aa al.length ca, .slice ae ne ce] 28 (0, 0))) := by
    rw [← HW0.out]; exact bx_keep (bx_keep (bx_new _ _ _ rfl) ((Below.refl _ _).alloc (Nat.le_refl _) _)) ((Below.refl _ _).alloc (Nat.le_refl _) _)
  have X2 : Hid (w0.heap[w.heap.size + 1]? = some (.cells #[.int .i64 r.left, .slice ar r.right.length cr] 52 (0, 0))) := by
    rw [← HW0.out]; exact bx_keep (bx_new _ _ _ (by simp)) ((Below.refl _ _).alloc (Nat.le_refl _) _)
  have X3 : Hid (w0.heap[w.heap.size + 1 + 1]? = some (.cells #[.int .i64 x.kind, .int .i64 x.n, .int .i64 x.ref.at', .int .i64 x.ref.attr, .slice a x.args.length cap] 39 (0, 0))) := by
    rw [← HW0.out]; exact bx_new _ _ _ (by simp)
  have HTE := Lib.hid (fun W (hb : Below w0.heap.size w0 W) => thereE al r x.ref aa ae ar ca ne ce cr W ((hA.below HB0.out).below hb) ((hR.below HB0.out).below hb))
  have HPR : Hid (∀ W, Below w0.heap.size w0 W → PredExpr 28 #[.pointer (some ⟨w.heap.size, 0, none⟩), .pointer (some ⟨w.heap.size + 1, 0, none⟩)] x.args (fun y => !valid al r y) W) := by
    intro W hb W1 y vy hy hb1 hry
    have hym : y.size ≤ m := by
      obtain ⟨i, hi, rfl⟩ := List.getElem_of_mem hy
      have := sizeL_kid hi
      rw [Expr.size_eq] at hm
      omega
    have hbb := hb.trans (hb1.mono hb.size)
    obtain ⟨ay, cy, rfl, -, -⟩ := hry.form
    rw [List.length_map] at hry ⊢
    obtain ⟨w2, HW2⟩ := nameIt (W1.alloc (.cells #[.int .i64 y.kind, .int .i64 y.n, .int .i64 y.ref.at', .int .i64 y.ref.attr, .slice ay y.args.length cy] 39))
    have HB2 : Hid (Below W1.heap.size W1 w2) := by rw [← HW2.out]; exact (Below.refl _ _).alloc (Nat.le_refl _) _
    have Y : Hid (w2.heap[W1.heap.size]? = some (.cells #[.int .i64 y.kind, .int .i64 y.n, .int .i64 y.ref.at', .int .i64 y.ref.attr, .slice ay y.args.length cy] 39 (0, 0))) := by rw [← HW2.out]; exact bx_new _ _ _ rfl
    have Y1 := bx_keep (bx_keep X1.out hbb) HB2.out
    have Y2 := bx_keep (bx_keep X2.out hbb) HB2.out
    have hih := ih y _ w2 hym (((hA.below HB0.out).below hbb).below HB2.out) (((hR.below HB0.out).below hbb).below HB2.out) (hry.below HB2.out)
    have HIH := Lib.hid hih
    obtain ⟨y0, y1, y2, y3, y4⟩ := bx_cells5 Y.out
    obtain ⟨s0, s1⟩ := bx_cells2 Y1
    obtain ⟨r0, r1⟩ := bx_cells2 Y2
    obtain ⟨p0, HP0⟩ := nameIt y.kind
    obtain ⟨p1, HP1⟩ := nameIt y.n
    obtain ⟨p2, HP2⟩ := nameIt y.ref.at'
    obtain ⟨p3, HP3⟩ := nameIt y.ref.attr
    obtain ⟨pn, HPN⟩ := nameIt y.args.length
    obtain ⟨rl, HRL⟩ := nameIt r.left
    obtain ⟨rn, HRN⟩ := nameIt r.right.length
    obtain ⟨an, HAN⟩ := nameIt al.length
    obtain ⟨vv, HVV⟩ := nameIt (valid al r y)
    rw [HP0.out, HP1.out, HP2.out, HP3.out, HPN.out] at HW2 HIH
    rw [HRL.out, HRN.out, HAN.out, HVV.out] at HIH
    rw [HP0.out] at y0
    rw [HP1.out] at y1
    rw [HP2.out] at y2
    rw [HP3.out] at y3
    rw [HPN.out] at y4
    rw [HRL.out] at r0
    rw [HRN.out] at r1
    rw [HAN.out] at s0
    rw [HP0.out, HP1.out, HP2.out, HP3.out, HPN.out]
    show Calls Try.prog 28 #[.agg #[.int .i64 p0, .int .i64 p1, .int .i64 p2, .int .i64 p3, .slice ay pn cy], .pointer (some ⟨w.heap.size, 0, none⟩), .pointer (some ⟨w.heap.size + 1, 0, none⟩)] W1 (fun e w' => e = .returned (.bool (!valid al r y)) ∧ Below W1.heap.size W1 w')
    rw [HVV.out]
    clear hih hry hbb hb hb1 hA hR hv Y1 Y2 Y X1 X2 X3
    go_enter Try.func28, Try.ntmps28
    go_upto_region 1 with fail
    rw [HW2.out]
    go_wp2_with fail
    refine HIH.out.mono ?_
    rintro e w3 ⟨rfl, hb3⟩
    have HB3 := Lib.hid hb3
    clear hb3
    go_wp2_with fail
    go_ret
    exact ⟨rfl, HB2.out.trans (HB3.out.mono HB2.out.size)⟩
  have HCF := Lib.hid (fun W (hb : Below w0.heap.size w0 W) => containsFuncExpr 28 #[.pointer (some ⟨w.heap.size, 0, none⟩), .pointer (some ⟨w.heap.size + 1, 0, none⟩)] (fun y => !valid al r y) a cap x.args W (fun _ _ => by kernel_rfl) (HPR.out W hb) ((hv.below HB0.out).below hb))
  obtain ⟨lf, HLF⟩ := nameIt r.left
  obtain ⟨rn, HRN⟩ := nameIt r.right.length
  obtain ⟨an, HAN⟩ := nameIt al.length
  obtain ⟨p0, HP0⟩ := nameIt x.kind
  obtain ⟨p1, HP1⟩ := nameIt x.n
  obtain ⟨p2, HP2⟩ := nameIt x.ref.at'
  obtain ⟨p3, HP3⟩ := nameIt x.ref.attr
  obtain ⟨pn, HPN⟩ := nameIt x.args.length
  obtain ⟨b8, H8⟩ := nameIt (okArgs p0 pn)
  obtain ⟨b9, H9⟩ := nameIt (okN p0 p1)
  obtain ⟨th, HTH⟩ := nameIt (there al r x.ref)
  obtain ⟨al', HALL⟩ := nameIt (x.args.any fun y => !valid al r y)
  have HREF : Hid (decide (x.ref = ⟨0, 0⟩) = (p2 == 0 && p3 == 0)) := by
    show _ = _
    rw [← HP2.out, ← HP3.out]
    cases x.ref with
    | mk u v => rw [Bool.eq_iff_iff]; simp
  have HFIN : Hid (valid al r x = (b8 && b9 && (if p0 = 1 then th else (p2 == 0 && p3 == 0)) && !al')) := by
    show _ = _
    rw [valid_eq, okNode_eq, all_not_any, HALL.out, HTH.out, HP0.out, HP1.out, HPN.out, H8.out, H9.out, HREF.out]
  rw [HLF.out, HRN.out, HAN.out, HP0.out, HP1.out, HP2.out, HP3.out, HPN.out] at HW0
  rw [HAN.out] at X1
  rw [HLF.out, HRN.out] at X2
  rw [HP0.out, HP1.out, HP2.out, HP3.out, HPN.out] at X3
  rw [HLF.out, HRN.out, HAN.out, HP2.out, HP3.out, HTH.out] at HTE
  rw [HPN.out, HALL.out] at HCF
  rw [HLF.out, HRN.out, HAN.out, HP0.out, HP1.out, HP2.out, HP3.out, HPN.out]
  rw [HPN.out] at hc1
  obtain ⟨x0, x1⟩ := bx_cells2 X1.out
  obtain ⟨y0, y1⟩ := bx_cells2 X2.out
  obtain ⟨z0, z1, z2, z3, z4⟩ := bx_cells5 X3.out
  clear hA hR hv ih hm
  go_enter Try.func14, Try.ntmps14
  go_upto_region 1 with fail
  rw [HW0.out]
  go_upto_block 0 with fail
  go_cut [8] (fun t8 wx => t8 = .bool b8 ∧ wx = w0)
  case first =>
    have HB8 := Lib.hid H8.out
    by_cases e0 : p0 = 0
    · subst e0
      obtain rfl : ((pn : Int) == 0) = b8 := by rw [← H8.out]; exact beq_cast pn 0
      go_wp2_with fail
      go_meet
      exact ⟨rfl, rfl⟩
    by_cases e1 : p0 = 1
    · subst e1
      obtain rfl : ((pn : Int) == 0) = b8 := by rw [← H8.out]; exact beq_cast pn 0
      go_wp2_with fail
      go_meet
      exact ⟨rfl, rfl⟩
    by_cases e2 : p0 = 2
    · subst e2
      obtain rfl : true = b8 := by rw [← H8.out]; simp [okArgs]
      go_wp2_with fail
      go_meet
      exact ⟨rfl, rfl⟩
    by_cases e3 : p0 = 3
    · subst e3
      obtain rfl : true = b8 := by rw [← H8.out]; simp [okArgs]
      go_wp2_with fail
      go_meet
      exact ⟨rfl, rfl⟩
    by_cases e4 : p0 = 4
    · subst e4
      obtain rfl : decide ((1 : Int) ≤ (pn : Int)) = b8 := by rw [← H8.out]; exact decide_eq_decide.2 (by omega)
      go_wp2_with fail
      go_meet
      exact ⟨rfl, rfl⟩
    by_cases e5 : p0 = 5
    · subst e5
      obtain rfl : ((pn : Int) == 2) = b8 := by rw [← H8.out]; exact beq_cast pn 2
      go_wp2_with fail
      go_meet
      exact ⟨rfl, rfl⟩
    by_cases e6 : p0 = 6
    · subst e6
      obtain rfl : ((pn : Int) == 3) = b8 := by rw [← H8.out]; exact beq_cast pn 3
      go_wp2_with fail
      go_meet
      exact ⟨rfl, rfl⟩
    · obtain rfl : false = b8 := by rw [← H8.out]; unfold okArgs; rw [if_neg (by omega), if_neg (by omega), if_neg e4, if_neg e5, if_neg e6]
      have f0 : (p0 == 0) = false := by simpa using e0
      have f1 : (p0 == 1) = false := by simpa using e1
      have f2 : (p0 == 2) = false := by simpa using e2
      have f3 : (p0 == 3) = false := by simpa using e3
      have f4 : (p0 == 4) = false := by simpa using e4
      have f5 : (p0 == 5) = false := by simpa using e5
      have f6 : (p0 == 6) = false := by simpa using e6
      clear e0 e1 e2 e3 e4 e5 e6
      go_wp2_with fail
      go_meet
      exact ⟨rfl, rfl⟩
  case rest =>
    obtain ⟨rfl, rfl⟩ := hcut
    obtain ⟨w0, rfl⟩ : ∃ ww : World, ww = wc := ⟨_, rfl⟩
    obtain ⟨b89, HB89⟩ := nameIt (b8 && b9)
    rw [HB89.out] at HFIN
    go_upto_if 36 with fail
    go_cut [8] (fun t8 wx => t8 = .bool b89 ∧ wx = w0)
    case first =>
      by_cases e0 : p0 = 0
      · subst e0
        have h9 : decide (0 ≤ p1 ∧ p1 < 1000003) = b9 := H9.out
        cases b8 with
        | false =>
          obtain rfl : false = b89 := HB89.out
          go_wp2_with fail
          go_meet
          exact ⟨rfl, rfl⟩
        | true =>
          by_cases h1 : 0 ≤ p1
          · have h1' : decide (0 ≤ p1) = true := by simpa using h1
            obtain rfl : decide (p1 < 1000003) = b89 := by rw [← HB89.out, ← h9, Bool.true_and]; exact decide_eq_decide.2 (by omega)
            clear h1 h9
            go_wp2_with fail
            go_meet
            exact ⟨rfl, rfl⟩
          · have h1' : decide (0 ≤ p1) = false := by simpa using h1
            obtain rfl : false = b89 := by rw [← HB89.out, ← h9, Bool.true_and]; exact (decide_eq_false (by omega)).symm
            clear h1 h9
            go_wp2_with fail
            go_meet
            exact ⟨rfl, rfl⟩
      · have f0 : (p0 == 0) = false := by simpa using e0
        have h9 : decide (p1 = 0) = b9 := by have h := H9.out; unfold okN at h; rw [if_neg e0] at h; exact h
        cases b8 with
        | false =>
          obtain rfl : false = b89 := HB89.out
          clear e0 h9
          go_wp2_with fail
          go_meet
          exact ⟨rfl, rfl⟩
        | true =>
          obtain rfl : (p1 == 0) = b89 := by rw [← HB89.out, ← h9, Bool.true_and]; rfl
          clear e0 h9
          go_wp2_with fail
          go_meet
          exact ⟨rfl, rfl⟩
    case rest =>
      obtain ⟨rfl, rfl⟩ := hcut
      obtain ⟨w0, rfl⟩ : ∃ ww : World, ww = wc := ⟨_, rfl⟩
      obtain ⟨bb, HBB⟩ := nameIt (b89 && (if p0 = 1 then th else (p2 == 0 && p3 == 0)))
      rw [HBB.out] at HFIN
      go_upto_if 56 with fail
      go_cut [8] (fun t8 wx => t8 = .bool bb ∧ Hid (Below w0.heap.size w0 wx))
      case first =>
        by_cases e1 : p0 = 1
        · subst e1
          have hbb : (b89 && th) = bb := HBB.out
          cases b89 with
          | false =>
            obtain rfl : false = bb := hbb
            go_wp2_with fail
            go_meet
            exact ⟨rfl, Below.refl _ _⟩
          | true =>
            obtain rfl : th = bb := by simpa using hbb
            clear hbb
            go_wp2_with fail
            refine (HTE.out _ (Below.refl _ _)).mono ?_
            rintro e w7 ⟨rfl, hb7⟩
            have HB7 := Lib.hid hb7
            clear hb7
            go_wp2_with fail
            go_meet
            exact ⟨rfl, HB7⟩
        · have f1 : (p0 == 1) = false := by simpa using e1
          have hbb : (b89 && (p2 == 0 && p3 == 0)) = bb := by have h := HBB.out; rw [if_neg e1] at h; exact h
          cases b89 with
          | false =>
            obtain rfl : false = bb := hbb
            clear e1
            go_wp2_with fail
            go_meet
            exact ⟨rfl, Below.refl _ _⟩
          | true =>
            by_cases g2 : p2 = 0
            · subst g2
              by_cases g3 : p3 = 0
              · subst g3
                obtain rfl : true = bb := hbb
                clear e1
                go_wp2_with fail
                go_meet
                exact ⟨rfl, Below.refl _ _⟩
              · have g3' : (p3 == 0) = false := by simpa using g3
                obtain rfl : false = bb := by rw [← hbb, g3']; rfl
                clear e1 hbb
                go_wp2_with fail
                go_meet
                exact ⟨rfl, Below.refl _ _⟩
            · have g2' : (p2 == 0) = false := by simpa using g2
              obtain rfl : false = bb := by rw [← hbb, g2']; rfl
              clear e1 hbb
              go_wp2_with fail
              go_meet
              exact ⟨rfl, Below.refl _ _⟩
      case rest =>
        obtain ⟨rfl, HB7⟩ := hcut
        obtain ⟨w7, rfl⟩ : ∃ ww : World, ww = wc := ⟨_, rfl⟩
        have hb7 : Below w0.heap.size w0 w7 := HB7.out
        obtain ⟨k0, k1, k2, k3, k4⟩ := bx_cells5 (bx_keep X3.out hb7)
        clear x0 x1 y0 y1 z0 z1 z2 z3 z4 hb7
        cases bb with
        | false =>
          have HE : Hid (valid al r x = false) := by show _ = _; rw [HFIN.out]; rfl
          go_wp2_with fail
          go_ret
          exact ⟨by rw [HE.out]; rfl, HB0.out.trans (HB7.out.mono HB0.out.size)⟩
        | true =>
          have HE : Hid (valid al r x = !al') := by show _ = _; rw [HFIN.out]; rfl
          go_wp2_with fail
          refine (HCF.out _ HB7.out).mono ?_
          rintro e w8 ⟨rfl, hb8⟩
          have HB8 := Lib.hid hb8
          clear hb8
          go_wp2_with fail
          go_ret
          exact ⟨by rw [HE.out]; rfl, HB0.out.trans ((HB7.out.trans (HB8.out.mono HB7.out.size)).mono HB0.out.size)⟩
end At
end Go.Proofs.Ytiapfogckbkkpaa
