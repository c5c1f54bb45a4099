/- The walk of the law TreeOrder. -/
import Derived.Test.YtfbacnifankfkaaTwo
import Derived.Test.YtfbacnifankfkaaYield
import Derived.Test.YtfbacnifankfkaaCmp
namespace Go.Proofs.Ytfbacnifankfkaa
open Go.RowKit
namespace TreeOrder

def treeCmp (a b : Tree) : Int := orL [cmp3 (rulesOf (nodes a)).length (rulesOf (nodes b)).length, cmpL (rulesOf (nodes a)) (rulesOf (nodes b)), cmpL (leavesOf (nodes a)) (leavesOf (nodes b))]

set_option maxHeartbeats 400000 in
theorem signE (x : Int) (w : World) : Calls Try.prog 94 #[.int .i64 x] w fun e w' => e = .returned (.int .i64 (cmp3 x 0)) ∧ w = w' := by
  by_cases h : x < 0
  · have HC : Hid (cmp3 x 0 = -1) := by show _ = _; simp [cmp3, h]
    go_enter Try.func94, Try.ntmps94
    go_wp2
    go_ret
    exact ⟨by rw [HC.out]; rfl, rfl⟩
  · by_cases h2 : 0 < x
    · have HC : Hid (cmp3 x 0 = 1) := by show _ = _; simp [cmp3, h, h2]
      go_enter Try.func94, Try.ntmps94
      go_wp2
      go_ret
      exact ⟨by rw [HC.out]; rfl, rfl⟩
    · have HC : Hid (cmp3 x 0 = 0) := by show _ = _; simp [cmp3, h, h2]
      go_enter Try.func94, Try.ntmps94
      go_wp2
      go_ret
      exact ⟨by rw [HC.out]; rfl, rfl⟩

theorem cells6 {W w' : World} (hb : Below W.heap.size W w') {b1 b2 : Nat} {T : TypeId} {a0 a1 a2 c0 c1 c2 : Value} (h1 : W.heap[b1]? = some (.cells #[a0, a1, a2] T (0, 0))) (h2 : W.heap[b2]? = some (.cells #[c0, c1, c2] T (0, 0))) :
    w'.cell? ⟨b1, 0, none⟩ = some a0 ∧ w'.cell? ⟨b1, 0 + 1, none⟩ = some a1 ∧ w'.cell? ⟨b1, 0 + 2, none⟩ = some a2 ∧ w'.cell? ⟨b2, 0, none⟩ = some c0 ∧ w'.cell? ⟨b2, 0 + 1, none⟩ = some c1 ∧ w'.cell? ⟨b2, 0 + 2, none⟩ = some c2 := by
  obtain ⟨x1, x2, x3⟩ := bx_cells3 (bx_keep h1 hb)
  obtain ⟨x4, x5, x6⟩ := bx_cells3 (bx_keep h2 hb)
  exact ⟨x1, x2, x3, x4, x5, x6⟩

def RulesMid (w0 : World) (a b : Tree) (x y : Value) (wx : World) : Prop :=
  Sl wx x (ints (rulesOf (nodes a))) ∧ Sl wx y (ints (rulesOf (nodes b))) ∧ Below w0.heap.size w0 wx

set_option maxHeartbeats 2000000 in
set_option maxRecDepth 100000 in
theorem compareT (t : Tree) (v : Value) (s : Tree) (u : Value) (w : World) (hv : Rd AnyB w (.sl (t.kids.map Tree.d)) [v]) (hu : Rd AnyB w (.sl (s.kids.map Tree.d)) [u]) (hN : (nodes t).length ≤ 1099511627776) (hM : (nodes s).length ≤ 1099511627776) :
    Calls Try.prog 41 #[.agg #[.int .i64 t.rule, .int .i64 t.term, v], .agg #[.int .i64 s.rule, .int .i64 s.term, u]] w fun e w' => e = .returned (.int .i64 (treeCmp t s)) ∧ Below w.heap.size w w' := by
  obtain ⟨a, n, cap, rfl⟩ := treeBox hv
  obtain ⟨au, nu, capu, rfl⟩ := treeBox hu
  obtain ⟨w0, HW0⟩ := nameIt ((w.alloc (.cells #[.int .i64 t.rule, .int .i64 t.term, .slice a n cap] 59)).alloc (.cells #[.int .i64 s.rule, .int .i64 s.term, .slice au nu capu] 59))
  have HB : Hid (Below w.heap.size w w0) := by rw [← HW0.out]; exact ((Below.refl _ _).alloc (Nat.le_refl _) _).alloc (by simp) _
  have X1 : Hid (w0.heap[w.heap.size]? = some (.cells #[.int .i64 t.rule, .int .i64 t.term, .slice a n cap] 59 (0, 0))) := by
    rw [← HW0.out]; exact bx_keep (bx_new _ _ _ rfl) ((Below.refl _ _).alloc (Nat.le_refl _) _)
  have X2 : Hid (w0.heap[w.heap.size + 1]? = some (.cells #[.int .i64 s.rule, .int .i64 s.term, .slice au nu capu] 59 (0, 0))) := by
    rw [← HW0.out]; exact bx_new _ _ _ (by simp)
  have R1 := Lib.hid (fun W (hb : Below w0.heap.size w0 W) => rulesT t _ W ((hv.below HB.out).below hb) (by omega))
  have R2 := Lib.hid (fun W (hb : Below w0.heap.size w0 W) => rulesT s _ W ((hu.below HB.out).below hb) (by omega))
  have T1 := Lib.hid (fun W (hb : Below w0.heap.size w0 W) => wordT t _ W ((hv.below HB.out).below hb) (by omega))
  have T2 := Lib.hid (fun W (hb : Below w0.heap.size w0 W) => wordT s _ W ((hu.below HB.out).below hb) (by omega))
  obtain ⟨x0, x1, x2⟩ := bx_cells3 X1.out
  obtain ⟨y0, y1, y2⟩ := bx_cells3 X2.out
  clear hv hu
  go_enter Try.func41, Try.ntmps41
  go_wp2_with fail
  rw [HW0.out]
  go_upto_region 1 with fail
  go_cut [5, 6] (fun x y wx => Hid (RulesMid w0 t s x y wx))
  case first =>
    go_region_held3 (fun w' => w'.cell? ⟨w.heap.size, 0, none⟩ = some (.int .i64 t.rule) ∧ w'.cell? ⟨w.heap.size, 0 + 1, none⟩ = some (.int .i64 t.term) ∧ w'.cell? ⟨w.heap.size, 0 + 2, none⟩ = some (.slice a n cap) ∧ w'.cell? ⟨w.heap.size + 1, 0, none⟩ = some (.int .i64 s.rule) ∧ w'.cell? ⟨w.heap.size + 1, 0 + 1, none⟩ = some (.int .i64 s.term) ∧ w'.cell? ⟨w.heap.size + 1, 0 + 2, none⟩ = some (.slice au nu capu))
      (first | exact cells6 (Below.refl _ _).drew X1.out X2.out | exact cells6 HB2.out X1.out X2.out | exact cells6 HB1.out X1.out X2.out | fail)
      (first
        | (go_at_call 91; (with_reducible refine (R1.out _ (Below.refl _ _).drew).mono ?_); rintro e w1 ⟨v1, rfl, hr1, hb1⟩; have HR1 := Lib.hid hr1; have HB1 : Hid (Below w0.heap.size w0 w1) := (Below.refl _ _).drew.trans hb1; clear hr1 hb1)
        | (go_at_call 91; (with_reducible refine (R2.out _ HB1.out).mono ?_); rintro e w2 ⟨v2, rfl, hr2, hb2⟩; have HR2 := Lib.hid hr2; have HB2 : Hid (Below w0.heap.size w0 w2) := HB1.out.trans (hb2.mono HB1.out.size); have HR1' := Lib.hid (HR1.out.keep hb2); clear hr2 hb2)
        | fail)
    go_wp2_with fail
    go_meet
    exact ⟨HR1'.out, HR2.out, HB2.out⟩
  case rest =>
    clear x0 x1 x2 y0 y1 y2 R1 R2
    obtain ⟨hr1, hr2, hb2⟩ := hcut.out
    obtain ⟨a1, c1, rfl⟩ := hr1.form
    obtain ⟨a2, c2, rfl⟩ := hr2.form
    rw [ints_len, ints_len]
    rw [ints_len] at hr1 hr2
    obtain ⟨L1, HL1⟩ := nameIt (rulesOf (nodes t))
    obtain ⟨L2, HL2⟩ := nameIt (rulesOf (nodes s))
    obtain ⟨M1, HM1⟩ := nameIt (leavesOf (nodes t))
    obtain ⟨M2, HM2⟩ := nameIt (leavesOf (nodes s))
    rw [HL1.out] at hr1
    rw [HL2.out] at hr2
    rw [HM1.out] at T1
    rw [HM2.out] at T2
    rw [HL1.out, HL2.out]
    have hl1 := hr1.len.2
    have hl2 := hr2.len.2
    have HR1 := Lib.hid hr1
    have HR2 := Lib.hid hr2
    have HB2 := Lib.hid hb2
    obtain ⟨x0, x1, x2⟩ := bx_cells3 (bx_keep X1.out hb2)
    obtain ⟨y0, y1, y2⟩ := bx_cells3 (bx_keep X2.out hb2)
    unfold maxLen at hl1 hl2
    clear hr1 hr2 hb2 hcut
    obtain ⟨q1, HQ1⟩ := nameIt (cmp3 L1.length L2.length)
    obtain ⟨q2, HQ2⟩ := nameIt (cmpL L1 L2)
    obtain ⟨q3, HQ3⟩ := nameIt (cmpL M1 M2)
    have C1 := Lib.hid (fun W => compareInt L1.length L2.length W)
    have C2 := Lib.hid (fun W (hb : Below wc.heap.size wc W) => compareInts _ _ L1 L2 W (HR1.out.keep hb) (HR2.out.keep hb))
    rw [HQ1.out] at C1
    rw [HQ2.out] at C2
    go_upto_region 2 with fail
    go_region_held3 (fun w' => w'.cell? ⟨w.heap.size, 0, none⟩ = some (.int .i64 t.rule) ∧ w'.cell? ⟨w.heap.size, 0 + 1, none⟩ = some (.int .i64 t.term) ∧ w'.cell? ⟨w.heap.size, 0 + 2, none⟩ = some (.slice a n cap) ∧ w'.cell? ⟨w.heap.size + 1, 0, none⟩ = some (.int .i64 s.rule) ∧ w'.cell? ⟨w.heap.size + 1, 0 + 1, none⟩ = some (.int .i64 s.term) ∧ w'.cell? ⟨w.heap.size + 1, 0 + 2, none⟩ = some (.slice au nu capu))
      (first | exact cells6 HB2.out.drew X1.out X2.out | exact cells6 (HB4.out.alloc HB4.out.size _) X1.out X2.out | exact cells6 HB4.out X1.out X2.out | exact cells6 HB3.out X1.out X2.out | fail)
      (first
        | (go_at_call 82; (with_reducible refine (C1.out _).mono ?_); rintro e w' ⟨rfl, rfl⟩)
        | (go_at_call 23; (with_reducible refine (C2.out _ (Below.refl _ _).drew).mono ?_); rintro e w' ⟨rfl, rfl⟩)
        | (go_at_call 32; (with_reducible refine (T1.out _ HB2.out.drew).mono ?_); rintro e w3 ⟨v3, rfl, hs3, hb3⟩; have HB3 : Hid (Below w0.heap.size w0 w3) := HB2.out.drew.trans (hb3.mono HB2.out.size); have HS3 := Lib.hid hs3; clear hs3 hb3)
        | (go_at_call 32; (with_reducible refine (T2.out _ HB3.out).mono ?_); rintro e w4 ⟨v4, rfl, hs4, hb4⟩; have HB4 : Hid (Below w0.heap.size w0 w4) := HB3.out.trans (hb4.mono HB3.out.size); have HS4 := Lib.hid hs4; have HS3' := Lib.hid (HS3.out.keep hb4); clear hs4 hb4)
        | (go_at_call 23; (with_reducible refine (compareInts _ _ M1 M2 _ HS3'.out HS4.out).mono ?_); rintro e w' ⟨rfl, rfl⟩; rw [HQ3.out])
        | (go_at_call 92; (with_reducible refine (orInt _ [q1, q2, q3] _ (sl_lit (v := #[.int .i64 q1, .int .i64 q2, .int .i64 q3]) rfl (of_decide_eq_true rfl))).mono ?_); rintro e w' ⟨rfl, rfl⟩)
        | fail)
    go_wp2_with fail
    go_ret
    have hq : treeCmp t s = orL [q1, q2, q3] := by unfold treeCmp; rw [HL1.out, HL2.out, HM1.out, HM2.out, HQ1.out, HQ2.out, HQ3.out]
    have hB4 := HB.out.trans (HB4.out.mono HB.out.size)
    exact ⟨by rw [hq]; rfl, hB4.alloc hB4.size _⟩

theorem cmp_ne {t s : Tree} (h : (rulesOf (nodes t)).length ≠ (rulesOf (nodes s)).length) : treeCmp t s = cmp3 (((rulesOf (nodes t)).length : Int) - (rulesOf (nodes s)).length) 0 := by
  unfold treeCmp orL cmp3
  split <;> split <;> (try split) <;> (try split) <;> omega
theorem cmp_eq {t s : Tree} (h : (rulesOf (nodes t)).length = (rulesOf (nodes s)).length) : treeCmp t s = if cmpL (rulesOf (nodes t)) (rulesOf (nodes s)) = 0 then cmpL (leavesOf (nodes t)) (leavesOf (nodes s)) else cmpL (rulesOf (nodes t)) (rulesOf (nodes s)) := by
  unfold treeCmp
  rw [h, cmp3_self]
  simp only [orL]
  by_cases h1 : cmpL (rulesOf (nodes t)) (rulesOf (nodes s)) = 0
  · by_cases h2 : cmpL (leavesOf (nodes t)) (leavesOf (nodes s)) = 0 <;> simp [h1, h2]
  · simp [h1]

set_option maxHeartbeats 2000000 in
set_option maxRecDepth 100000 in
theorem orderT (t : Tree) (v : Value) (s : Tree) (u : Value) (w : World) (hv : Rd AnyB w (.sl (t.kids.map Tree.d)) [v]) (hu : Rd AnyB w (.sl (s.kids.map Tree.d)) [u]) (hN : (nodes t).length ≤ 1099511627776) (hM : (nodes s).length ≤ 1099511627776) :
    Calls Try.prog 42 #[.agg #[.int .i64 t.rule, .int .i64 t.term, v], .agg #[.int .i64 s.rule, .int .i64 s.term, u]] w fun e w' => e = .returned (.int .i64 (treeCmp t s)) ∧ Below w.heap.size w w' := by
  obtain ⟨a, n, cap, rfl⟩ := treeBox hv
  obtain ⟨au, nu, capu, rfl⟩ := treeBox hu
  obtain ⟨w0, HW0⟩ := nameIt ((w.alloc (.cells #[.int .i64 t.rule, .int .i64 t.term, .slice a n cap] 59)).alloc (.cells #[.int .i64 s.rule, .int .i64 s.term, .slice au nu capu] 59))
  have HB : Hid (Below w.heap.size w w0) := by rw [← HW0.out]; exact ((Below.refl _ _).alloc (Nat.le_refl _) _).alloc (by simp) _
  have X1 : Hid (w0.heap[w.heap.size]? = some (.cells #[.int .i64 t.rule, .int .i64 t.term, .slice a n cap] 59 (0, 0))) := by
    rw [← HW0.out]; exact bx_keep (bx_new _ _ _ rfl) ((Below.refl _ _).alloc (Nat.le_refl _) _)
  have X2 : Hid (w0.heap[w.heap.size + 1]? = some (.cells #[.int .i64 s.rule, .int .i64 s.term, .slice au nu capu] 59 (0, 0))) := by
    rw [← HW0.out]; exact bx_new _ _ _ (by simp)
  have R1 := Lib.hid (fun W (hb : Below w0.heap.size w0 W) => codesE t _ W ((hv.below HB.out).below hb) hN)
  have R2 := Lib.hid (fun W (hb : Below w0.heap.size w0 W) => codesE s _ W ((hu.below HB.out).below hb) hM)
  have T1 := Lib.hid (fun W (hb : Below w0.heap.size w0 W) => yieldE t _ W ((hv.below HB.out).below hb) hN)
  have T2 := Lib.hid (fun W (hb : Below w0.heap.size w0 W) => yieldE s _ W ((hu.below HB.out).below hb) hM)
  obtain ⟨x0, x1, x2⟩ := bx_cells3 X1.out
  obtain ⟨y0, y1, y2⟩ := bx_cells3 X2.out
  have HLT : Hid ((rulesOf (nodes t)).length ≤ 1099511627776) := by show _ ≤ _; simpa [rulesOf] using hN
  have HLS : Hid ((rulesOf (nodes s)).length ≤ 1099511627776) := by show _ ≤ _; simpa [rulesOf] using hM
  have HNE := Lib.hid (@cmp_ne t s)
  have HEQ := Lib.hid (@cmp_eq t s)
  clear hv hu hN hM
  go_enter Try.func42, Try.ntmps42
  go_wp2_with fail
  rw [HW0.out]
  go_upto_region 1 with fail
  go_cut [5, 6] (fun x y wx => Hid (RulesMid w0 t s x y wx))
  case first =>
    go_region_held3 (fun w' => w'.cell? ⟨w.heap.size, 0, none⟩ = some (.int .i64 t.rule) ∧ w'.cell? ⟨w.heap.size, 0 + 1, none⟩ = some (.int .i64 t.term) ∧ w'.cell? ⟨w.heap.size, 0 + 2, none⟩ = some (.slice a n cap) ∧ w'.cell? ⟨w.heap.size + 1, 0, none⟩ = some (.int .i64 s.rule) ∧ w'.cell? ⟨w.heap.size + 1, 0 + 1, none⟩ = some (.int .i64 s.term) ∧ w'.cell? ⟨w.heap.size + 1, 0 + 2, none⟩ = some (.slice au nu capu))
      (first | exact cells6 (Below.refl _ _).drew X1.out X2.out | exact cells6 HB2.out X1.out X2.out | exact cells6 HB1.out X1.out X2.out | fail)
      (first
        | (go_at_call 93; (with_reducible refine (R1.out _ (Below.refl _ _).drew).mono ?_); rintro e w1 ⟨v1, rfl, hr1, hb1⟩; have HR1 := Lib.hid hr1; have HB1 : Hid (Below w0.heap.size w0 w1) := (Below.refl _ _).drew.trans hb1; clear hr1 hb1)
        | (go_at_call 93; (with_reducible refine (R2.out _ HB1.out).mono ?_); rintro e w2 ⟨v2, rfl, hr2, hb2⟩; have HR2 := Lib.hid hr2; have HB2 : Hid (Below w0.heap.size w0 w2) := HB1.out.trans (hb2.mono HB1.out.size); have HR1' := Lib.hid (HR1.out.keep hb2); clear hr2 hb2)
        | fail)
    go_wp2_with fail
    go_meet
    exact ⟨HR1'.out, HR2.out, HB2.out⟩
  case rest =>
    clear x0 x1 x2 y0 y1 y2 R1 R2
    obtain ⟨hr1, hr2, hb2⟩ := hcut.out
    obtain ⟨a1, c1, rfl⟩ := hr1.form
    obtain ⟨a2, c2, rfl⟩ := hr2.form
    rw [ints_len, ints_len]
    rw [ints_len] at hr1 hr2
    obtain ⟨L1, HL1⟩ := nameIt (rulesOf (nodes t))
    obtain ⟨L2, HL2⟩ := nameIt (rulesOf (nodes s))
    obtain ⟨M1, HM1⟩ := nameIt (leavesOf (nodes t))
    obtain ⟨M2, HM2⟩ := nameIt (leavesOf (nodes s))
    rw [HL1.out] at hr1
    rw [HL2.out] at hr2
    rw [HM1.out] at T1
    rw [HM2.out] at T2
    simp only [HL1.out, HL2.out, HM1.out, HM2.out] at HNE HEQ
    rw [HL1.out] at HLT
    rw [HL2.out] at HLS
    rw [HL1.out, HL2.out]
    have hl1 := HLT.out
    have hl2 := HLS.out
    obtain ⟨tc, HTC⟩ := nameIt (treeCmp t s)
    rw [HTC.out] at HNE HEQ
    have HR1 := Lib.hid hr1
    have HR2 := Lib.hid hr2
    have HB2 := Lib.hid hb2
    obtain ⟨x0, x1, x2⟩ := bx_cells3 (bx_keep X1.out hb2)
    obtain ⟨y0, y1, y2⟩ := bx_cells3 (bx_keep X2.out hb2)
    have HBW := Lib.hid (HB.out.trans (hb2.mono HB.out.size))
    clear hr1 hr2 hb2 hcut
    by_cases hlen : L1.length = L2.length
    · have hlb : ((L1.length : Int) != (L2.length : Int)) = false := by simp [hlen]
      have HE := Lib.hid (HEQ.out hlen)
      clear hlen HNE HEQ
      obtain ⟨q2, HQ2⟩ := nameIt (cmpL L1 L2)
      obtain ⟨q3, HQ3⟩ := nameIt (cmpL M1 M2)
      rw [HQ2.out, HQ3.out] at HE
      have C2 := Lib.hid (compareInts _ _ L1 L2 wc HR1.out HR2.out)
      rw [HQ2.out] at C2
      go_wp2_with fail
      refine C2.out.mono ?_
      rintro e w' ⟨rfl, rfl⟩
      by_cases hq : q2 = 0
      · subst hq
        have hE : tc = q3 := by rw [HE.out, if_pos rfl]
        have HE' := Lib.hid hE
        clear hE
        go_upto_region 7 with fail
        go_region_held3 (fun w' => w'.cell? ⟨w.heap.size, 0, none⟩ = some (.int .i64 t.rule) ∧ w'.cell? ⟨w.heap.size, 0 + 1, none⟩ = some (.int .i64 t.term) ∧ w'.cell? ⟨w.heap.size, 0 + 2, none⟩ = some (.slice a n cap) ∧ w'.cell? ⟨w.heap.size + 1, 0, none⟩ = some (.int .i64 s.rule) ∧ w'.cell? ⟨w.heap.size + 1, 0 + 1, none⟩ = some (.int .i64 s.term) ∧ w'.cell? ⟨w.heap.size + 1, 0 + 2, none⟩ = some (.slice au nu capu))
          (first | exact cells6 HB2.out.drew X1.out X2.out | exact cells6 HB4.out X1.out X2.out | exact cells6 HB3.out X1.out X2.out | fail)
          (first
            | (go_at_call 40; (with_reducible refine (T1.out _ HB2.out.drew).mono ?_); rintro e w3 ⟨v3, rfl, hs3, hb3⟩; have HB3 : Hid (Below w0.heap.size w0 w3) := HB2.out.drew.trans (hb3.mono HB2.out.size); have HS3 := Lib.hid hs3; clear hs3 hb3)
            | (go_at_call 40; (with_reducible refine (T2.out _ HB3.out).mono ?_); rintro e w4 ⟨v4, rfl, hs4, hb4⟩; have HB4 : Hid (Below w0.heap.size w0 w4) := HB3.out.trans (hb4.mono HB3.out.size); have HS4 := Lib.hid hs4; have HS3' := Lib.hid (HS3.out.keep hb4); clear hs4 hb4)
            | (go_at_call 23; (with_reducible refine (compareInts _ _ M1 M2 _ HS3'.out HS4.out).mono ?_); rintro e w' ⟨rfl, rfl⟩; rw [HQ3.out])
            | fail)
        go_wp2_with fail
        go_ret
        exact ⟨by rw [HTC.out, HE'.out]; rfl, HB.out.trans (HB4.out.mono HB.out.size)⟩
      · have hE : tc = q2 := by rw [HE.out, if_neg hq]
        have hqb : (q2 != 0) = true := by simpa using hq
        have HE' := Lib.hid hE
        clear hE hq
        go_wp2_with fail
        go_ret
        exact ⟨by rw [HTC.out, HE'.out]; rfl, HBW.out⟩
    · have hlb : ((L1.length : Int) != (L2.length : Int)) = true := by simp; omega
      have HE := Lib.hid (HNE.out hlen)
      clear hlen HNE HEQ
      go_wp2_with fail
      refine (signE _ _).mono ?_
      rintro e w' ⟨rfl, rfl⟩
      go_wp2_with fail
      go_ret
      exact ⟨by rw [HTC.out, HE.out]; rfl, HBW.out⟩

def leafT : Tree := .node (-1) 0 []
theorem two_leaf : treeCmp twoT leafT = 1 := by decide

set_option maxHeartbeats 2000000 in
set_option maxRecDepth 100000 in
theorem walk (t : Tree) (v : Value) (s : Tree) (u : Value) (w : World) (hv : Rd AnyB w (.sl (t.kids.map Tree.d)) [v]) (hu : Rd AnyB w (.sl (s.kids.map Tree.d)) [u]) (hN : t.size ≤ 1099511627776) (hM : s.size ≤ 1099511627776) :
    Calls Try.prog 9 #[.agg #[.int .i64 t.rule, .int .i64 t.term, v], .agg #[.int .i64 s.rule, .int .i64 s.term, u]] w fun e w' => e = .returned (.bool true) ∧ Below w.heap.size w w' := by
  obtain ⟨a, n, cap, rfl⟩ := treeBox hv
  obtain ⟨au, nu, capu, rfl⟩ := treeBox hu
  obtain ⟨w0, HW0⟩ := nameIt ((w.alloc (.cells #[.int .i64 t.rule, .int .i64 t.term, .slice a n cap] 59)).alloc (.cells #[.int .i64 s.rule, .int .i64 s.term, .slice au nu capu] 59))
  have HB : Hid (Below w.heap.size w w0) := by rw [← HW0.out]; exact ((Below.refl _ _).alloc (Nat.le_refl _) _).alloc (by simp) _
  have X1 : Hid (w0.heap[w.heap.size]? = some (.cells #[.int .i64 t.rule, .int .i64 t.term, .slice a n cap] 59 (0, 0))) := by
    rw [← HW0.out]; exact bx_keep (bx_new _ _ _ rfl) ((Below.refl _ _).alloc (Nat.le_refl _) _)
  have X2 : Hid (w0.heap[w.heap.size + 1]? = some (.cells #[.int .i64 s.rule, .int .i64 s.term, .slice au nu capu] 59 (0, 0))) := by
    rw [← HW0.out]; exact bx_new _ _ _ (by simp)
  have hN' := Nat.le_trans (nodes_size t) hN
  have hM' := Nat.le_trans (nodes_size s) hM
  have C1 := Lib.hid (fun W (hb : Below w0.heap.size w0 W) => compareT t _ s _ W ((hv.below HB.out).below hb) ((hu.below HB.out).below hb) hN' hM')
  have C2 := Lib.hid (fun W (hb : Below w0.heap.size w0 W) => orderT t _ s _ W ((hv.below HB.out).below hb) ((hu.below HB.out).below hb) hN' hM')
  have C0 : Hid (∀ W a c, Rd AnyB W (.sl (twoT.kids.map Tree.d)) [.slice a 2 c] → Calls Try.prog 41 #[.agg #[.int .i64 0, .int .i64 0, .slice a 2 c], .agg #[.int .i64 (-1), .int .i64 0, .slice none 0 0]] W fun e w' => e = .returned (.int .i64 1) ∧ Below W.heap.size W w') := by
    intro W a c hr
    rw [← two_leaf]
    exact compareT twoT _ leafT (.slice none 0 0) W hr (rd_nil _ _) (by decide) (by decide)
  obtain ⟨tc, HTC⟩ := nameIt (treeCmp t s)
  rw [HTC.out] at C1 C2
  have TW : Hid (∀ W, Calls Try.prog 31 #[] W fun e w' => ∃ a c, e = .returned (.agg #[.int .i64 0, .int .i64 0, .slice a 2 c]) ∧ Rd AnyB w' (.sl (twoT.kids.map Tree.d)) [.slice a 2 c] ∧ Below W.heap.size W w') := by
    intro W
    refine (twoE W).mono ?_
    rintro e w' ⟨v, rfl, hr, hb⟩
    obtain ⟨a, c, rfl, -, -⟩ := hr.form
    exact ⟨a, c, rfl, hr, hb⟩
  have htc : (tc == tc) = true := by simp
  obtain ⟨x0, x1, x2⟩ := bx_cells3 X1.out
  obtain ⟨y0, y1, y2⟩ := bx_cells3 X2.out
  clear hv hu hN hM hN' hM'
  go_enter Try.func9, Try.ntmps9
  go_wp2_with fail
  rw [HW0.out]
  go_region_held3 (fun w' => w'.cell? ⟨w.heap.size, 0, none⟩ = some (.int .i64 t.rule) ∧ w'.cell? ⟨w.heap.size, 0 + 1, none⟩ = some (.int .i64 t.term) ∧ w'.cell? ⟨w.heap.size, 0 + 2, none⟩ = some (.slice a n cap) ∧ w'.cell? ⟨w.heap.size + 1, 0, none⟩ = some (.int .i64 s.rule) ∧ w'.cell? ⟨w.heap.size + 1, 0 + 1, none⟩ = some (.int .i64 s.term) ∧ w'.cell? ⟨w.heap.size + 1, 0 + 2, none⟩ = some (.slice au nu capu))
    (first | exact cells6 (Below.refl _ _).drew X1.out X2.out | exact cells6 HB4.out X1.out X2.out | exact cells6 HB3.out X1.out X2.out | exact cells6 HB2.out X1.out X2.out | exact cells6 HB1.out X1.out X2.out | fail)
    (first
      | (go_at_call 31; (with_reducible refine (TW.out _).mono ?_); rintro e w1 ⟨a1, c1, rfl, hr1, hb1⟩; have HB1 : Hid (Below w0.heap.size w0 w1) := (Below.refl _ _).drew.trans hb1; have HR1 := Lib.hid hr1; clear hb1 hr1)
      | (go_at_call 41; (with_reducible refine (C0.out _ _ _ HR1.out).mono ?_); rintro e w2 ⟨rfl, hb2⟩; have HB2 : Hid (Below w0.heap.size w0 w2) := HB1.out.trans (hb2.mono HB1.out.size); clear hb2)
      | (go_at_call 41; (with_reducible refine (C1.out _ HB2.out).mono ?_); rintro e w3 ⟨rfl, hb3⟩; have HB3 : Hid (Below w0.heap.size w0 w3) := HB2.out.trans (hb3.mono HB2.out.size); clear hb3)
      | (go_at_call 42; (with_reducible refine (C2.out _ HB3.out).mono ?_); rintro e w4 ⟨rfl, hb4⟩; have HB4 : Hid (Below w0.heap.size w0 w4) := HB3.out.trans (hb4.mono HB3.out.size); clear hb4)
      | fail)
  go_wp2_with fail
  go_ret
  exact ⟨rfl, HB.out.trans (HB4.out.mono HB.out.size)⟩
end TreeOrder
end Go.Proofs.Ytfbacnifankfkaa
