/- The walk of the law GuessRules. -/
import Derived.Test.YtfbacnifankfkaaGuess
import Derived.Test.YtfbacnifankfkaaCmp
import Derived.Deep.RegionHeld3
import Derived.Deep.DeepCutAuto
import Derived.Deep.QuietTactic
import Derived.BigQuiet
namespace Go.Proofs.Ytfbacnifankfkaa
open Go.RowKit
namespace GuessRules
open Guess

def codeS (t : Int) (s : Sym) : Int := if s.term then s.n else t + s.n
def codeR (t : Int) (r : Rule) : List Int := r.left :: (r.right.length : Int) :: r.right.map (codeS t)

structure CodeRel (t : Int) (w w1 : World) (l : List Int) (v : Value) (wr : World) : Prop where
  own : wr.ownsRow w.heap.size 3 1 v l.length (ints l)
  bel : Below w.heap.size w wr

set_option maxHeartbeats 1000000 in
set_option maxRecDepth 100000 in
theorem codeE (t : Int) (b2 : Nat) (r : Rule) (ar : Option Addr) (cr : Nat) (w : World) (hb2 : w.cell? ⟨b2, 0, none⟩ = some (.int .i64 t)) (ht : 0 ≤ t) (ht2 : t ≤ 2) (hr : Rd AnyB w (.sl (r.right.map Sym.d)) [.slice ar r.right.length cr]) (hl : r.right.length ≤ 2) (hn : ∀ s ∈ r.right, 0 ≤ s.n ∧ s.n ≤ 2) :
    Calls Try.prog 22 #[.agg #[.int .i64 r.left, .slice ar r.right.length cr], .pointer (some ⟨b2, 0, none⟩)] w fun e w' => ∃ v, e = .returned v ∧ Sl w' v (ints (codeR t r)) ∧ Below w.heap.size w w' := by
  have HR := Lib.hid hr
  have HN := Lib.hid hn
  have hbs := hr.bounds
  unfold maxLen at hbs
  obtain ⟨-, hc1, hc2⟩ := hbs
  obtain ⟨K, HK⟩ := nameIt r.right
  rw [HK.out] at HR HN hl hc1
  rw [HK.out]
  obtain ⟨lf, HLF⟩ := nameIt r.left
  rw [HLF.out]
  obtain ⟨w0, HW0⟩ := nameIt ((w.alloc (.cells #[.int .i64 lf, .slice ar K.length cr] 41)).alloc (.cells #[.int .i64 lf, .int .i64 K.length] 3))
  have hb0 : Below w.heap.size w w0 := by rw [← HW0.out]; exact ((Below.refl _ _).alloc (Nat.le_refl _) _).alloc (by simp) _
  have X2 : Hid (w0.heap[w.heap.size]? = some (.cells #[.int .i64 lf, .slice ar K.length cr] 41 (0, 0))) := by
    rw [← HW0.out]; exact bx_keep (bx_new _ _ _ rfl) ((Below.refl _ _).alloc (Nat.le_refl _) _)
  have HR0 : Hid (CodeRel t w w0 (lf :: (K.length : Int) :: (K.take 0).map (codeS t)) (.slice (some ⟨w.heap.size + 1, 0, none⟩) 2 2) w0) := by
    refine ⟨?_, hb0⟩
    rw [← HW0.out]
    exact own_lit (news := #[.int .i64 lf, .int .i64 K.length]) (by simp) (by simp) rfl (by simp [maxLen])
  have HB2 := Lib.hid hb2
  have hblt := lt_of_cell hb2
  obtain ⟨x0, x1⟩ := bx_cells2 X2.out
  clear hr hn hb0
  go_enter Try.func22, Try.ntmps22
  go_upto_region 2 with fail
  rw [HW0.out]
  go_wp2_with fail
  go_loopg [4, 16] K.length (fun gg v4 v16 wr => ∃ i : Nat, i ≤ K.length ∧ K.length - i ≤ gg ∧ v16 = .int .i64 i ∧ Hid (CodeRel t w w0 (lf :: (K.length : Int) :: (K.take i).map (codeS t)) v4 wr))
  case atStart => exact ⟨0, by omega, by omega, rfl, HR0⟩
  case round =>
    clear HR0 x0 x1
    obtain ⟨i, hi, hg, rfl, HC⟩ := hrel
    have hlen : (lf :: (K.length : Int) :: (K.take i).map (codeS t)).length = i + 2 := by simp; omega
    obtain ⟨av, cv, hv, hv1, hv2⟩ := own_len HC.out.own
    rw [hlen] at hv hv1
    subst hv
    unfold maxLen at hv2
    have HLN := Lib.hid hlen
    clear hlen
    by_cases hlt : i < K.length
    · have hlt' : (i : Int) < (K.length : Int) := by omega
      obtain ⟨b, off, hae, -, hbl, e0, e1⟩ := (HR.out.below HC.out.bel).sym_at hlt
      have hns := HN.out K[i] (List.getElem_mem hlt)
      have HTK : Hid (lf :: (K.length : Int) :: (K.take (i + 1)).map (codeS t) = (lf :: (K.length : Int) :: (K.take i).map (codeS t)) ++ [codeS t K[i]]) := by
        show _ = _
        rw [List.take_succ_eq_append_getElem hlt, List.map_append]; rfl
      obtain ⟨s, HS⟩ := nameIt (K[i]'hlt)
      rw [HS.out] at e0 e1 hns HTK
      have d2 := (HC.out.bel.cell (p := ⟨b2, 0, none⟩) hblt).trans HB2.out
      have hblt2 : b2 < wr.heap.size := lt_of_cell d2
      obtain ⟨q0, HQ0⟩ := nameIt s.term
      obtain ⟨q1, HQ1⟩ := nameIt s.n
      rw [HQ0.out] at e0
      rw [HQ1.out] at e1 hns
      obtain ⟨hq1, hq2⟩ := hns
      have HBX := Lib.hid ((Below.refl wr.heap.size wr).alloc (Nat.le_refl _) (.cells #[.bool q0, .int .i64 q1] 43))
      obtain ⟨L, HL⟩ := nameIt (lf :: (K.length : Int) :: (K.take i).map (codeS t))
      rw [HL.out] at HTK HLN
      have HO : Hid ((wr.alloc (.cells #[.bool q0, .int .i64 q1] 43)).ownsRow w.heap.size 3 1 (.slice av (i + 2) cv) (i + 2) (ints L)) := by
        have h := own_keep HC.out.own HBX.out
        rw [HL.out, HLN.out] at h
        exact h
      have hsz := HC.out.bel.size
      subst hae
      clear hbl
      cases q0 with
      | true =>
        have HCD : Hid (codeS t s = q1) := by show _ = _; simp [codeS, HQ0.out, HQ1.out]
        go_wp2_with (at_builtin; refine wp_app1at elInt rfl _ _ rfl HO.out rfl rfl (by simp) rfl rfl (by omega) (by unfold maxLen; omega) (by simp; omega) ?_)
        intro v' w2 ho2 hg2 hat2
        have HC2 : Hid (CodeRel t w w0 (lf :: (K.length : Int) :: (K.take (i + 1)).map (codeS t)) v' w2) := by
          refine ⟨?_, (HC.out.bel.trans (HBX.out.mono HC.out.bel.size)).grown hg2 (by simp; omega) (fun k e => (HO.out.lt k e).1)⟩
          rw [HTK.out, HCD.out, ints_append, List.length_append, HLN.out]
          exact ho2
        obtain ⟨a', c', rfl, -, -⟩ := own_len ho2
        clear ho2 hg2 hat2
        go_wp2_with fail
        go_roundg (K.length - (i + 1))
        case measure => omega
        case rel => exact ⟨i + 1, by omega, by omega, by go_num, HC2⟩
      | false =>
        have HCD : Hid (codeS t s = t + q1) := by show _ = _; simp [codeS, HQ0.out, HQ1.out]
        go_wp2_with (at_builtin; refine wp_app1at elInt rfl _ _ rfl HO.out rfl rfl (by simp) rfl rfl (by omega) (by unfold maxLen; omega) (by simp; omega) ?_)
        intro v' w2 ho2 hg2 hat2
        have HC2 : Hid (CodeRel t w w0 (lf :: (K.length : Int) :: (K.take (i + 1)).map (codeS t)) v' w2) := by
          refine ⟨?_, (HC.out.bel.trans (HBX.out.mono HC.out.bel.size)).grown hg2 (by simp; omega) (fun k e => (HO.out.lt k e).1)⟩
          rw [HTK.out, HCD.out, ints_append, List.length_append, HLN.out]
          exact ho2
        obtain ⟨a', c', rfl, -, -⟩ := own_len ho2
        clear ho2 hg2 hat2
        go_wp2_with fail
        go_roundg (K.length - (i + 1))
        case measure => omega
        case rel => exact ⟨i + 1, by omega, by omega, by go_num, HC2⟩
    · have hlt' : ¬ (i : Int) < (K.length : Int) := by omega
      go_wp2_with fail
      go_ret
      refine ⟨_, rfl, ?_, HC.out.bel⟩
      have h := sl_of_own HC.out.own
      rw [List.take_of_length_le (by omega)] at h
      rw [codeR, HLF.out, HK.out]
      exact h

def okRules (t : Int) (l : List Rule) : Bool := (l.all fun r => decide (r.right.length ≤ 2) && r.right.all fun s => decide (0 ≤ s.n) && decide (s.n ≤ 2)) && (List.range (l.length - 1)).all fun k => match l[k]?, l[k + 1]? with | some a, some b => decide (cmpL (codeR t a) (codeR t b) < 0) | _, _ => false
theorem okRules_at {t : Int} {l : List Rule} (h : okRules t l = true) {i : Nat} (hi : i < l.length) : l[i].right.length ≤ 2 ∧ ∀ s ∈ l[i].right, 0 ≤ s.n ∧ s.n ≤ 2 := by
  unfold okRules at h
  rw [Bool.and_eq_true] at h
  have h1 := List.all_eq_true.1 h.1 l[i] (List.getElem_mem hi)
  simpa using h1
theorem okRules_next {t : Int} {l : List Rule} (h : okRules t l = true) {k : Nat} (hk : k + 1 < l.length) : cmpL (codeR t (l[k]'(by omega))) (codeR t l[k + 1]) < 0 := by
  unfold okRules at h
  rw [Bool.and_eq_true] at h
  have h1 := List.all_eq_true.1 h.2 k (by simp; omega)
  rw [List.getElem?_eq_getElem (show k < l.length by omega), List.getElem?_eq_getElem hk] at h1
  simpa using h1

theorem first (w : World) : Calls Try.prog 21 #[.int .i64 1, .int .i64 1] w fun e w' => ∃ b off cap a1 c1, e = .returned (.tuple #[.slice (some ⟨b, off, none⟩) 7 cap, .int .i64 0]) ∧ w'.cell? ⟨b, off + 1, none⟩ = some (.slice a1 0 c1) ∧ 7 ≤ cap ∧ cap ≤ maxLen ∧ Below w.heap.size w w' := by
  refine (rulesE 1 1 w (by omega) (by omega) (by omega) (by omega)).mono ?_
  rintro e w' ⟨v, rfl, hr, hb⟩
  obtain ⟨a, cap, rfl, h1, h2⟩ := hr.form
  have hl : ((rulesL (symsOf 1 1) 1).map Rule.d).length = 7 := by decide
  rw [hl] at h1
  obtain ⟨b, off, v0, rfl, -, -, e0, e1, hk⟩ := hr.rule_at (i := 0) (by decide)
  have hz : ((rulesL (symsOf 1 1) 1)[0]'(by decide)).right = [] := by decide
  rw [hz] at hk
  obtain ⟨a1, c1, rfl, -, -⟩ := hk.form
  rw [hl]
  exact ⟨b, off, cap, a1, c1, rfl, by simpa using e1, h1, h2, hb⟩

theorem cells2x2 {W w' : World} (hb : Below W.heap.size W w') {b1 b2 o2 : Nat} {T : TypeId} {a0 a1 c0 c1 : Value} (h1 : W.heap[b1]? = some (.cells #[a0, a1] T (0, 0))) (h2 : W.cell? ⟨b2, o2, none⟩ = some c0) (h3 : W.cell? ⟨b2, o2 + 1, none⟩ = some c1) :
    w'.cell? ⟨b1, 0, none⟩ = some a0 ∧ w'.cell? ⟨b1, 0 + 1, none⟩ = some a1 ∧ w'.cell? ⟨b2, o2, none⟩ = some c0 ∧ w'.cell? ⟨b2, o2 + 1, none⟩ = some c1 := by
  obtain ⟨x1, x2⟩ := bx_cells2 (bx_keep h1 hb)
  exact ⟨x1, x2, (hb.cell (p := ⟨b2, o2, none⟩) (lt_of_cell h2)).trans h2, (hb.cell (p := ⟨b2, o2 + 1, none⟩) (lt_of_cell h3)).trans h3⟩

set_option maxHeartbeats 4000000 in
set_option maxRecDepth 100000 in
theorem main11 (w : World) : Calls Try.prog 6 #[.int .i64 1, .int .i64 1] w fun e w' => e = .returned (.bool true) ∧ Below w.heap.size w w' := by
  obtain ⟨l, HL⟩ := nameIt (rulesL (symsOf 1 1) 1)
  have hll : l.length = 7 := by rw [← HL.out]; decide
  have HOK : Hid (okRules 1 l = true) := by rw [← HL.out]; show _ = _; decide +kernel
  have HRU := Lib.hid (fun W => rulesE 1 1 W (by omega) (by omega) (by omega) (by omega))
  rw [HL.out] at HRU
  have HF := Lib.hid first
  have HLL := Lib.hid hll
  clear hll
  obtain ⟨w0, HW0⟩ := nameIt (w.alloc (.cells #[.int .i64 1] 3))
  have X2 : Hid (w0.heap[w.heap.size]? = some (.cells #[.int .i64 1] 3 (0, 0))) := by rw [← HW0.out]; exact bx_new _ _ _ rfl
  have HB0 : Hid (Below w.heap.size w w0) := by rw [← HW0.out]; exact (Below.refl _ _).alloc (Nat.le_refl _) _
  go_enter Try.func6, Try.ntmps6
  go_wp2_with fail
  rw [HW0.out]
  refine (HF.out _).mono ?_
  rintro e w1 ⟨b, off, cap, a1, c1, rfl, e1, hc1, hc2, hb1⟩
  have hc3 : (7 : Int) ≤ (cap : Int) := by omega
  have x0 := bx_cells1 (bx_keep X2.out hb1)
  have HB1 := Lib.hid hb1
  clear hb1
  go_wp2_with fail
  refine (HRU.out _).mono ?_
  rintro e w2 ⟨v2, rfl, hr2, hb2⟩
  have HB2 := Lib.hid (HB1.out.trans (hb2.mono HB1.out.size))
  obtain ⟨a2, c2, rfl, hc4, hc5⟩ := hr2.form
  rw [List.length_map, HLL.out] at hr2 hc4
  rw [List.length_map, HLL.out]
  unfold maxLen at hc5
  have x0' := bx_cells1 (bx_keep X2.out HB2.out)
  have HR2 := Lib.hid hr2
  clear hr2 hb2 x0 e1 HB1
  go_wp2_with fail
  go_loopg [80] 7 (fun gg v80 wr => ∃ i : Nat, i ≤ 7 ∧ 7 - i ≤ gg ∧ v80 = .int .i64 i ∧ Hid (Below w2.heap.size w2 wr))
  case atStart => exact ⟨0, by omega, by omega, rfl, Below.refl _ _⟩
  case round =>
    clear x0'
    obtain ⟨i, hi, hg, rfl, HB⟩ := hrel
    by_cases hlt : i < 7
    · have hlt' : (i : Int) < 7 := by omega
      have hil : i < l.length := by rw [HLL.out]; exact hlt
      obtain ⟨hk1, hk2⟩ := okRules_at HOK.out hil
      obtain ⟨bl, ol, vr, hae, -, -, e0, e1, hkr⟩ := (HR2.out.below HB.out).rule_at hil
      obtain ⟨ar, cr, hvr, -, -⟩ := hkr.form
      rw [List.length_map] at hvr
      subst hvr
      have HNX := Lib.hid (fun k (hk : i = k + 1) => (by subst hk; exact okRules_next HOK.out hil : cmpL (codeR 1 (l[k]'(by omega))) (codeR 1 l[i]) < 0))
      obtain ⟨r, HR⟩ := nameIt (l[i]'hil)
      rw [HR.out] at e0 e1 hkr hk1 hk2 HNX
      obtain ⟨lf, HLF⟩ := nameIt r.left
      obtain ⟨rn, HRN⟩ := nameIt r.right.length
      rw [HLF.out] at e0
      rw [HRN.out] at e1 hk1
      have HKR := Lib.hid hkr
      have HK1 : Hid (r.right.length ≤ 2) := by rw [HRN.out]; exact hk1
      have HK2 := Lib.hid hk2
      have hrn : decide ((2 : Int) < (rn : Int)) = false := by simp; omega
      obtain ⟨w3, HW3⟩ := nameIt (wr.alloc (.cells #[.int .i64 lf, .slice ar rn cr] 41))
      have hb3 : Below wr.heap.size wr w3 := by rw [← HW3.out]; exact (Below.refl _ _).alloc (Nat.le_refl _) _
      have X12 : Hid (w3.heap[wr.heap.size]? = some (.cells #[.int .i64 lf, .slice ar rn cr] 41 (0, 0))) := by rw [← HW3.out]; exact bx_new _ _ _ rfl
      obtain ⟨y0, y1⟩ := bx_cells2 X12.out
      have HB3 := Lib.hid hb3
      have hlt12 : wr.heap.size < w3.heap.size := (Array.getElem?_eq_some_iff.1 X12.out).1
      subst hae
      clear hkr hk2 hb3
      cases i with
      | zero =>
        simp only [Nat.zero_mul, Nat.add_zero] at e0 e1
        go_upto_region 14 with fail
        rw [HW3.out]
        go_quiet (fail)
        go_wp2_with fail
        go_roundg (7 - 1)
        case measure => omega
        case rel => exact ⟨1, by omega, by omega, rfl, HB.out.trans ((HB3.out.trans ((below_drewN _ _).mono HB3.out.size)).mono HB.out.size)⟩
      | succ k =>
        have hkl : k < l.length := by omega
        obtain ⟨hj1, hj2⟩ := okRules_at HOK.out hkl
        obtain ⟨bl', ol', vq, hae', -, -, g0, g1, hkq⟩ := (HR2.out.below HB.out).rule_at hkl
        cases hae'
        obtain ⟨aq, cq, hvq, -, -⟩ := hkq.form
        rw [List.length_map] at hvq
        subst hvq
        have hnx := HNX.out k rfl
        obtain ⟨q, HQ⟩ := nameIt (l[k]'hkl)
        rw [HQ.out] at g0 g1 hkq hj1 hj2 hnx
        obtain ⟨lq, HLQ⟩ := nameIt q.left
        obtain ⟨qn, HQN⟩ := nameIt q.right.length
        rw [HLQ.out] at g0
        rw [HQN.out] at g1
        have g0' := (HB3.out.cell (p := ⟨bl, ol + k * 2, none⟩) (lt_of_cell g0)).trans g0
        have g1' := (HB3.out.cell (p := ⟨bl, ol + k * 2 + 1, none⟩) (lt_of_cell g1)).trans g1
        have hx2 := bx_cells1 (bx_keep X2.out (HB2.out.trans ((HB.out.trans (HB3.out.mono HB.out.size)).mono HB2.out.size)))
        have CQ := Lib.hid (fun W (hb : Below w3.heap.size w3 W) => codeE 1 w.heap.size q _ cq W ((hb.cell (lt_of_cell hx2)).trans hx2) (by omega) (by omega) ((hkq.below HB3.out).below hb) hj1 hj2)
        have CR := Lib.hid (fun W (hb : Below w3.heap.size w3 W) => codeE 1 w.heap.size r _ cr W ((hb.cell (lt_of_cell hx2)).trans hx2) (by omega) (by omega) ((HKR.out.below HB3.out).below hb) HK1.out HK2.out)
        rw [HLQ.out, HQN.out] at CQ
        rw [HLF.out, HRN.out] at CR
        obtain ⟨cc, HCC⟩ := nameIt (cmpL (codeR 1 q) (codeR 1 r))
        rw [HCC.out] at hnx
        have hnxb : decide (0 ≤ cc) = false := by simp; omega
        have hik : (0 : Int) ≤ (k : Int) := by omega
        have hik2 : (k : Int) < 7 := by omega
        have hsub : IntKind.i64.wrap ((k : Int) + 1 - 1) = (k : Int) := by rw [IntWalk.i64_in _ (by omega)]; omega
        have hsub2 : IntKind.i64.wrap (k : Int) = (k : Int) := IntWalk.i64_in _ (by omega)
        clear hkq g0 g1 hj2 hnx
        go_upto_region 14 with fail
        rw [HW3.out]
        go_region_held3 (fun w' => w'.cell? ⟨wr.heap.size, 0, none⟩ = some (.int .i64 lf) ∧ w'.cell? ⟨wr.heap.size, 0 + 1, none⟩ = some (.slice ar rn cr) ∧ w'.cell? ⟨bl, ol + k * 2, none⟩ = some (.int .i64 lq) ∧ w'.cell? ⟨bl, ol + k * 2 + 1, none⟩ = some (.slice aq qn cq))
          (first | exact cells2x2 (Below.refl _ _).drew X12.out g0' g1' | exact cells2x2 HB5.out X12.out g0' g1' | exact cells2x2 HB4.out X12.out g0' g1' | fail)
          (first
            | (go_at_call 22; (with_reducible refine (CQ.out _ (Below.refl _ _).drew).mono ?_); rintro e w4 ⟨v4, rfl, hs4, hb4⟩; have HB4 : Hid (Below w3.heap.size w3 w4) := (Below.refl _ _).drew.trans hb4; have HS4 := Lib.hid hs4; clear hs4 hb4)
            | (go_at_call 22; (with_reducible refine (CR.out _ HB4.out).mono ?_); rintro e w5 ⟨v5, rfl, hs5, hb5⟩; have HB5 : Hid (Below w3.heap.size w3 w5) := HB4.out.trans (hb5.mono HB4.out.size); have HS5 := Lib.hid hs5; have HS4' := Lib.hid (HS4.out.keep hb5); clear hs5 hb5)
            | (go_at_call 23; (with_reducible refine (compareInts _ _ _ _ _ HS4'.out HS5.out).mono ?_); rintro e w' ⟨rfl, rfl⟩; rw [HCC.out])
            | fail)
        go_wp2_with fail
        go_roundg (7 - (k + 1 + 1))
        case measure => omega
        case rel => exact ⟨k + 1 + 1, by omega, by omega, by go_num, HB.out.trans ((HB3.out.trans (HB5.out.mono HB3.out.size)).mono HB.out.size)⟩
    · have hlt' : ¬ (i : Int) < 7 := by omega
      go_wp2_with fail
      go_ret
      have h := HB0.out.trans (HB2.out.mono HB0.out.size)
      exact ⟨rfl, h.trans (HB.out.mono h.size)⟩

set_option maxHeartbeats 4000000 in
set_option maxRecDepth 100000 in
theorem main12 (w : World) : Calls Try.prog 6 #[.int .i64 1, .int .i64 2] w fun e w' => e = .returned (.bool true) ∧ Below w.heap.size w w' := by
  obtain ⟨l, HL⟩ := nameIt (rulesL (symsOf 1 2) 2)
  have hll : l.length = 26 := by rw [← HL.out]; decide
  have HOK : Hid (okRules 1 l = true) := by rw [← HL.out]; show _ = _; decide +kernel
  have HRU := Lib.hid (fun W => rulesE 1 2 W (by omega) (by omega) (by omega) (by omega))
  rw [HL.out] at HRU
  have HF := Lib.hid first
  have HLL := Lib.hid hll
  clear hll
  obtain ⟨w0, HW0⟩ := nameIt (w.alloc (.cells #[.int .i64 1] 3))
  have X2 : Hid (w0.heap[w.heap.size]? = some (.cells #[.int .i64 1] 3 (0, 0))) := by rw [← HW0.out]; exact bx_new _ _ _ rfl
  have HB0 : Hid (Below w.heap.size w w0) := by rw [← HW0.out]; exact (Below.refl _ _).alloc (Nat.le_refl _) _
  go_enter Try.func6, Try.ntmps6
  go_wp2_with fail
  rw [HW0.out]
  refine (HF.out _).mono ?_
  rintro e w1 ⟨b, off, cap, a1, c1, rfl, e1, hc1, hc2, hb1⟩
  have hc3 : (7 : Int) ≤ (cap : Int) := by omega
  have x0 := bx_cells1 (bx_keep X2.out hb1)
  have HB1 := Lib.hid hb1
  clear hb1
  go_wp2_with fail
  refine (HRU.out _).mono ?_
  rintro e w2 ⟨v2, rfl, hr2, hb2⟩
  have HB2 := Lib.hid (HB1.out.trans (hb2.mono HB1.out.size))
  obtain ⟨a2, c2, rfl, hc4, hc5⟩ := hr2.form
  rw [List.length_map, HLL.out] at hr2 hc4
  rw [List.length_map, HLL.out]
  unfold maxLen at hc5
  have x0' := bx_cells1 (bx_keep X2.out HB2.out)
  have HR2 := Lib.hid hr2
  clear hr2 hb2 x0 e1 HB1
  go_wp2_with fail
  go_loopg [80] 26 (fun gg v80 wr => ∃ i : Nat, i ≤ 26 ∧ 26 - i ≤ gg ∧ v80 = .int .i64 i ∧ Hid (Below w2.heap.size w2 wr))
  case atStart => exact ⟨0, by omega, by omega, rfl, Below.refl _ _⟩
  case round =>
    clear x0'
    obtain ⟨i, hi, hg, rfl, HB⟩ := hrel
    by_cases hlt : i < 26
    · have hlt' : (i : Int) < 26 := by omega
      have hil : i < l.length := by rw [HLL.out]; exact hlt
      obtain ⟨hk1, hk2⟩ := okRules_at HOK.out hil
      obtain ⟨bl, ol, vr, hae, -, -, e0, e1, hkr⟩ := (HR2.out.below HB.out).rule_at hil
      obtain ⟨ar, cr, hvr, -, -⟩ := hkr.form
      rw [List.length_map] at hvr
      subst hvr
      have HNX := Lib.hid (fun k (hk : i = k + 1) => (by subst hk; exact okRules_next HOK.out hil : cmpL (codeR 1 (l[k]'(by omega))) (codeR 1 l[i]) < 0))
      obtain ⟨r, HR⟩ := nameIt (l[i]'hil)
      rw [HR.out] at e0 e1 hkr hk1 hk2 HNX
      obtain ⟨lf, HLF⟩ := nameIt r.left
      obtain ⟨rn, HRN⟩ := nameIt r.right.length
      rw [HLF.out] at e0
      rw [HRN.out] at e1 hk1
      have HKR := Lib.hid hkr
      have HK1 : Hid (r.right.length ≤ 2) := by rw [HRN.out]; exact hk1
      have HK2 := Lib.hid hk2
      have hrn : decide ((2 : Int) < (rn : Int)) = false := by simp; omega
      obtain ⟨w3, HW3⟩ := nameIt (wr.alloc (.cells #[.int .i64 lf, .slice ar rn cr] 41))
      have hb3 : Below wr.heap.size wr w3 := by rw [← HW3.out]; exact (Below.refl _ _).alloc (Nat.le_refl _) _
      have X12 : Hid (w3.heap[wr.heap.size]? = some (.cells #[.int .i64 lf, .slice ar rn cr] 41 (0, 0))) := by rw [← HW3.out]; exact bx_new _ _ _ rfl
      obtain ⟨y0, y1⟩ := bx_cells2 X12.out
      have HB3 := Lib.hid hb3
      have hlt12 : wr.heap.size < w3.heap.size := (Array.getElem?_eq_some_iff.1 X12.out).1
      subst hae
      clear hkr hk2 hb3
      cases i with
      | zero =>
        simp only [Nat.zero_mul, Nat.add_zero] at e0 e1
        go_upto_region 14 with fail
        rw [HW3.out]
        go_quiet (fail)
        go_wp2_with fail
        go_roundg (26 - 1)
        case measure => omega
        case rel => exact ⟨1, by omega, by omega, rfl, HB.out.trans ((HB3.out.trans ((below_drewN _ _).mono HB3.out.size)).mono HB.out.size)⟩
      | succ k =>
        have hkl : k < l.length := by omega
        obtain ⟨hj1, hj2⟩ := okRules_at HOK.out hkl
        obtain ⟨bl', ol', vq, hae', -, -, g0, g1, hkq⟩ := (HR2.out.below HB.out).rule_at hkl
        cases hae'
        obtain ⟨aq, cq, hvq, -, -⟩ := hkq.form
        rw [List.length_map] at hvq
        subst hvq
        have hnx := HNX.out k rfl
        obtain ⟨q, HQ⟩ := nameIt (l[k]'hkl)
        rw [HQ.out] at g0 g1 hkq hj1 hj2 hnx
        obtain ⟨lq, HLQ⟩ := nameIt q.left
        obtain ⟨qn, HQN⟩ := nameIt q.right.length
        rw [HLQ.out] at g0
        rw [HQN.out] at g1
        have g0' := (HB3.out.cell (p := ⟨bl, ol + k * 2, none⟩) (lt_of_cell g0)).trans g0
        have g1' := (HB3.out.cell (p := ⟨bl, ol + k * 2 + 1, none⟩) (lt_of_cell g1)).trans g1
        have hx2 := bx_cells1 (bx_keep X2.out (HB2.out.trans ((HB.out.trans (HB3.out.mono HB.out.size)).mono HB2.out.size)))
        have CQ := Lib.hid (fun W (hb : Below w3.heap.size w3 W) => codeE 1 w.heap.size q _ cq W ((hb.cell (lt_of_cell hx2)).trans hx2) (by omega) (by omega) ((hkq.below HB3.out).below hb) hj1 hj2)
        have CR := Lib.hid (fun W (hb : Below w3.heap.size w3 W) => codeE 1 w.heap.size r _ cr W ((hb.cell (lt_of_cell hx2)).trans hx2) (by omega) (by omega) ((HKR.out.below HB3.out).below hb) HK1.out HK2.out)
        rw [HLQ.out, HQN.out] at CQ
        rw [HLF.out, HRN.out] at CR
        obtain ⟨cc, HCC⟩ := nameIt (cmpL (codeR 1 q) (codeR 1 r))
        rw [HCC.out] at hnx
        have hnxb : decide (0 ≤ cc) = false := by simp; omega
        have hik : (0 : Int) ≤ (k : Int) := by omega
        have hik2 : (k : Int) < 26 := by omega
        have hsub : IntKind.i64.wrap ((k : Int) + 1 - 1) = (k : Int) := by rw [IntWalk.i64_in _ (by omega)]; omega
        have hsub2 : IntKind.i64.wrap (k : Int) = (k : Int) := IntWalk.i64_in _ (by omega)
        clear hkq g0 g1 hj2 hnx
        go_upto_region 14 with fail
        rw [HW3.out]
        go_region_held3 (fun w' => w'.cell? ⟨wr.heap.size, 0, none⟩ = some (.int .i64 lf) ∧ w'.cell? ⟨wr.heap.size, 0 + 1, none⟩ = some (.slice ar rn cr) ∧ w'.cell? ⟨bl, ol + k * 2, none⟩ = some (.int .i64 lq) ∧ w'.cell? ⟨bl, ol + k * 2 + 1, none⟩ = some (.slice aq qn cq))
          (first | exact cells2x2 (Below.refl _ _).drew X12.out g0' g1' | exact cells2x2 HB5.out X12.out g0' g1' | exact cells2x2 HB4.out X12.out g0' g1' | fail)
          (first
            | (go_at_call 22; (with_reducible refine (CQ.out _ (Below.refl _ _).drew).mono ?_); rintro e w4 ⟨v4, rfl, hs4, hb4⟩; have HB4 : Hid (Below w3.heap.size w3 w4) := (Below.refl _ _).drew.trans hb4; have HS4 := Lib.hid hs4; clear hs4 hb4)
            | (go_at_call 22; (with_reducible refine (CR.out _ HB4.out).mono ?_); rintro e w5 ⟨v5, rfl, hs5, hb5⟩; have HB5 : Hid (Below w3.heap.size w3 w5) := HB4.out.trans (hb5.mono HB4.out.size); have HS5 := Lib.hid hs5; have HS4' := Lib.hid (HS4.out.keep hb5); clear hs5 hb5)
            | (go_at_call 23; (with_reducible refine (compareInts _ _ _ _ _ HS4'.out HS5.out).mono ?_); rintro e w' ⟨rfl, rfl⟩; rw [HCC.out])
            | fail)
        go_wp2_with fail
        go_roundg (26 - (k + 1 + 1))
        case measure => omega
        case rel => exact ⟨k + 1 + 1, by omega, by omega, by go_num, HB.out.trans ((HB3.out.trans (HB5.out.mono HB3.out.size)).mono HB.out.size)⟩
    · have hlt' : ¬ (i : Int) < 26 := by omega
      go_wp2_with fail
      go_ret
      have h := HB0.out.trans (HB2.out.mono HB0.out.size)
      exact ⟨rfl, h.trans (HB.out.mono h.size)⟩

set_option maxHeartbeats 4000000 in
set_option maxRecDepth 100000 in
theorem main21 (w : World) : Calls Try.prog 6 #[.int .i64 2, .int .i64 1] w fun e w' => e = .returned (.bool true) ∧ Below w.heap.size w w' := by
  obtain ⟨l, HL⟩ := nameIt (rulesL (symsOf 2 1) 1)
  have hll : l.length = 13 := by rw [← HL.out]; decide
  have HOK : Hid (okRules 2 l = true) := by rw [← HL.out]; show _ = _; decide +kernel
  have HRU := Lib.hid (fun W => rulesE 2 1 W (by omega) (by omega) (by omega) (by omega))
  rw [HL.out] at HRU
  have HF := Lib.hid first
  have HLL := Lib.hid hll
  clear hll
  obtain ⟨w0, HW0⟩ := nameIt (w.alloc (.cells #[.int .i64 2] 3))
  have X2 : Hid (w0.heap[w.heap.size]? = some (.cells #[.int .i64 2] 3 (0, 0))) := by rw [← HW0.out]; exact bx_new _ _ _ rfl
  have HB0 : Hid (Below w.heap.size w w0) := by rw [← HW0.out]; exact (Below.refl _ _).alloc (Nat.le_refl _) _
  go_enter Try.func6, Try.ntmps6
  go_wp2_with fail
  rw [HW0.out]
  refine (HF.out _).mono ?_
  rintro e w1 ⟨b, off, cap, a1, c1, rfl, e1, hc1, hc2, hb1⟩
  have hc3 : (7 : Int) ≤ (cap : Int) := by omega
  have x0 := bx_cells1 (bx_keep X2.out hb1)
  have HB1 := Lib.hid hb1
  clear hb1
  go_wp2_with fail
  refine (HRU.out _).mono ?_
  rintro e w2 ⟨v2, rfl, hr2, hb2⟩
  have HB2 := Lib.hid (HB1.out.trans (hb2.mono HB1.out.size))
  obtain ⟨a2, c2, rfl, hc4, hc5⟩ := hr2.form
  rw [List.length_map, HLL.out] at hr2 hc4
  rw [List.length_map, HLL.out]
  unfold maxLen at hc5
  have x0' := bx_cells1 (bx_keep X2.out HB2.out)
  have HR2 := Lib.hid hr2
  clear hr2 hb2 x0 e1 HB1
  go_wp2_with fail
  go_loopg [80] 13 (fun gg v80 wr => ∃ i : Nat, i ≤ 13 ∧ 13 - i ≤ gg ∧ v80 = .int .i64 i ∧ Hid (Below w2.heap.size w2 wr))
  case atStart => exact ⟨0, by omega, by omega, rfl, Below.refl _ _⟩
  case round =>
    clear x0'
    obtain ⟨i, hi, hg, rfl, HB⟩ := hrel
    by_cases hlt : i < 13
    · have hlt' : (i : Int) < 13 := by omega
      have hil : i < l.length := by rw [HLL.out]; exact hlt
      obtain ⟨hk1, hk2⟩ := okRules_at HOK.out hil
      obtain ⟨bl, ol, vr, hae, -, -, e0, e1, hkr⟩ := (HR2.out.below HB.out).rule_at hil
      obtain ⟨ar, cr, hvr, -, -⟩ := hkr.form
      rw [List.length_map] at hvr
      subst hvr
      have HNX := Lib.hid (fun k (hk : i = k + 1) => (by subst hk; exact okRules_next HOK.out hil : cmpL (codeR 2 (l[k]'(by omega))) (codeR 2 l[i]) < 0))
      obtain ⟨r, HR⟩ := nameIt (l[i]'hil)
      rw [HR.out] at e0 e1 hkr hk1 hk2 HNX
      obtain ⟨lf, HLF⟩ := nameIt r.left
      obtain ⟨rn, HRN⟩ := nameIt r.right.length
      rw [HLF.out] at e0
      rw [HRN.out] at e1 hk1
      have HKR := Lib.hid hkr
      have HK1 : Hid (r.right.length ≤ 2) := by rw [HRN.out]; exact hk1
      have HK2 := Lib.hid hk2
      have hrn : decide ((2 : Int) < (rn : Int)) = false := by simp; omega
      obtain ⟨w3, HW3⟩ := nameIt (wr.alloc (.cells #[.int .i64 lf, .slice ar rn cr] 41))
      have hb3 : Below wr.heap.size wr w3 := by rw [← HW3.out]; exact (Below.refl _ _).alloc (Nat.le_refl _) _
      have X12 : Hid (w3.heap[wr.heap.size]? = some (.cells #[.int .i64 lf, .slice ar rn cr] 41 (0, 0))) := by rw [← HW3.out]; exact bx_new _ _ _ rfl
      obtain ⟨y0, y1⟩ := bx_cells2 X12.out
      have HB3 := Lib.hid hb3
      have hlt12 : wr.heap.size < w3.heap.size := (Array.getElem?_eq_some_iff.1 X12.out).1
      subst hae
      clear hkr hk2 hb3
      cases i with
      | zero =>
        simp only [Nat.zero_mul, Nat.add_zero] at e0 e1
        go_upto_region 14 with fail
        rw [HW3.out]
        go_quiet (fail)
        go_wp2_with fail
        go_roundg (13 - 1)
        case measure => omega
        case rel => exact ⟨1, by omega, by omega, rfl, HB.out.trans ((HB3.out.trans ((below_drewN _ _).mono HB3.out.size)).mono HB.out.size)⟩
      | succ k =>
        have hkl : k < l.length := by omega
        obtain ⟨hj1, hj2⟩ := okRules_at HOK.out hkl
        obtain ⟨bl', ol', vq, hae', -, -, g0, g1, hkq⟩ := (HR2.out.below HB.out).rule_at hkl
        cases hae'
        obtain ⟨aq, cq, hvq, -, -⟩ := hkq.form
        rw [List.length_map] at hvq
        subst hvq
        have hnx := HNX.out k rfl
        obtain ⟨q, HQ⟩ := nameIt (l[k]'hkl)
        rw [HQ.out] at g0 g1 hkq hj1 hj2 hnx
        obtain ⟨lq, HLQ⟩ := nameIt q.left
        obtain ⟨qn, HQN⟩ := nameIt q.right.length
        rw [HLQ.out] at g0
        rw [HQN.out] at g1
        have g0' := (HB3.out.cell (p := ⟨bl, ol + k * 2, none⟩) (lt_of_cell g0)).trans g0
        have g1' := (HB3.out.cell (p := ⟨bl, ol + k * 2 + 1, none⟩) (lt_of_cell g1)).trans g1
        have hx2 := bx_cells1 (bx_keep X2.out (HB2.out.trans ((HB.out.trans (HB3.out.mono HB.out.size)).mono HB2.out.size)))
        have CQ := Lib.hid (fun W (hb : Below w3.heap.size w3 W) => codeE 2 w.heap.size q _ cq W ((hb.cell (lt_of_cell hx2)).trans hx2) (by omega) (by omega) ((hkq.below HB3.out).below hb) hj1 hj2)
        have CR := Lib.hid (fun W (hb : Below w3.heap.size w3 W) => codeE 2 w.heap.size r _ cr W ((hb.cell (lt_of_cell hx2)).trans hx2) (by omega) (by omega) ((HKR.out.below HB3.out).below hb) HK1.out HK2.out)
        rw [HLQ.out, HQN.out] at CQ
        rw [HLF.out, HRN.out] at CR
        obtain ⟨cc, HCC⟩ := nameIt (cmpL (codeR 2 q) (codeR 2 r))
        rw [HCC.out] at hnx
        have hnxb : decide (0 ≤ cc) = false := by simp; omega
        have hik : (0 : Int) ≤ (k : Int) := by omega
        have hik2 : (k : Int) < 13 := by omega
        have hsub : IntKind.i64.wrap ((k : Int) + 1 - 1) = (k : Int) := by rw [IntWalk.i64_in _ (by omega)]; omega
        have hsub2 : IntKind.i64.wrap (k : Int) = (k : Int) := IntWalk.i64_in _ (by omega)
        clear hkq g0 g1 hj2 hnx
        go_upto_region 14 with fail
        rw [HW3.out]
        go_region_held3 (fun w' => w'.cell? ⟨wr.heap.size, 0, none⟩ = some (.int .i64 lf) ∧ w'.cell? ⟨wr.heap.size, 0 + 1, none⟩ = some (.slice ar rn cr) ∧ w'.cell? ⟨bl, ol + k * 2, none⟩ = some (.int .i64 lq) ∧ w'.cell? ⟨bl, ol + k * 2 + 1, none⟩ = some (.slice aq qn cq))
          (first | exact cells2x2 (Below.refl _ _).drew X12.out g0' g1' | exact cells2x2 HB5.out X12.out g0' g1' | exact cells2x2 HB4.out X12.out g0' g1' | fail)
          (first
            | (go_at_call 22; (with_reducible refine (CQ.out _ (Below.refl _ _).drew).mono ?_); rintro e w4 ⟨v4, rfl, hs4, hb4⟩; have HB4 : Hid (Below w3.heap.size w3 w4) := (Below.refl _ _).drew.trans hb4; have HS4 := Lib.hid hs4; clear hs4 hb4)
            | (go_at_call 22; (with_reducible refine (CR.out _ HB4.out).mono ?_); rintro e w5 ⟨v5, rfl, hs5, hb5⟩; have HB5 : Hid (Below w3.heap.size w3 w5) := HB4.out.trans (hb5.mono HB4.out.size); have HS5 := Lib.hid hs5; have HS4' := Lib.hid (HS4.out.keep hb5); clear hs5 hb5)
            | (go_at_call 23; (with_reducible refine (compareInts _ _ _ _ _ HS4'.out HS5.out).mono ?_); rintro e w' ⟨rfl, rfl⟩; rw [HCC.out])
            | fail)
        go_wp2_with fail
        go_roundg (13 - (k + 1 + 1))
        case measure => omega
        case rel => exact ⟨k + 1 + 1, by omega, by omega, by go_num, HB.out.trans ((HB3.out.trans (HB5.out.mono HB3.out.size)).mono HB.out.size)⟩
    · have hlt' : ¬ (i : Int) < 13 := by omega
      go_wp2_with fail
      go_ret
      have h := HB0.out.trans (HB2.out.mono HB0.out.size)
      exact ⟨rfl, h.trans (HB.out.mono h.size)⟩

set_option maxHeartbeats 4000000 in
set_option maxRecDepth 100000 in
theorem main22 (w : World) : Calls Try.prog 6 #[.int .i64 2, .int .i64 2] w fun e w' => e = .returned (.bool true) ∧ Below w.heap.size w w' := by
  obtain ⟨l, HL⟩ := nameIt (rulesL (symsOf 2 2) 2)
  have hll : l.length = 42 := by rw [← HL.out]; decide
  have HOK : Hid (okRules 2 l = true) := by rw [← HL.out]; show _ = _; decide +kernel
  have HRU := Lib.hid (fun W => rulesE 2 2 W (by omega) (by omega) (by omega) (by omega))
  rw [HL.out] at HRU
  have HF := Lib.hid first
  have HLL := Lib.hid hll
  clear hll
  obtain ⟨w0, HW0⟩ := nameIt (w.alloc (.cells #[.int .i64 2] 3))
  have X2 : Hid (w0.heap[w.heap.size]? = some (.cells #[.int .i64 2] 3 (0, 0))) := by rw [← HW0.out]; exact bx_new _ _ _ rfl
  have HB0 : Hid (Below w.heap.size w w0) := by rw [← HW0.out]; exact (Below.refl _ _).alloc (Nat.le_refl _) _
  go_enter Try.func6, Try.ntmps6
  go_wp2_with fail
  rw [HW0.out]
  refine (HF.out _).mono ?_
  rintro e w1 ⟨b, off, cap, a1, c1, rfl, e1, hc1, hc2, hb1⟩
  have hc3 : (7 : Int) ≤ (cap : Int) := by omega
  have x0 := bx_cells1 (bx_keep X2.out hb1)
  have HB1 := Lib.hid hb1
  clear hb1
  go_wp2_with fail
  refine (HRU.out _).mono ?_
  rintro e w2 ⟨v2, rfl, hr2, hb2⟩
  have HB2 := Lib.hid (HB1.out.trans (hb2.mono HB1.out.size))
  obtain ⟨a2, c2, rfl, hc4, hc5⟩ := hr2.form
  rw [List.length_map, HLL.out] at hr2 hc4
  rw [List.length_map, HLL.out]
  unfold maxLen at hc5
  have x0' := bx_cells1 (bx_keep X2.out HB2.out)
  have HR2 := Lib.hid hr2
  clear hr2 hb2 x0 e1 HB1
  go_wp2_with fail
  go_loopg [80] 42 (fun gg v80 wr => ∃ i : Nat, i ≤ 42 ∧ 42 - i ≤ gg ∧ v80 = .int .i64 i ∧ Hid (Below w2.heap.size w2 wr))
  case atStart => exact ⟨0, by omega, by omega, rfl, Below.refl _ _⟩
  case round =>
    clear x0'
    obtain ⟨i, hi, hg, rfl, HB⟩ := hrel
    by_cases hlt : i < 42
    · have hlt' : (i : Int) < 42 := by omega
      have hil : i < l.length := by rw [HLL.out]; exact hlt
      obtain ⟨hk1, hk2⟩ := okRules_at HOK.out hil
      obtain ⟨bl, ol, vr, hae, -, -, e0, e1, hkr⟩ := (HR2.out.below HB.out).rule_at hil
      obtain ⟨ar, cr, hvr, -, -⟩ := hkr.form
      rw [List.length_map] at hvr
      subst hvr
      have HNX := Lib.hid (fun k (hk : i = k + 1) => (by subst hk; exact okRules_next HOK.out hil : cmpL (codeR 2 (l[k]'(by omega))) (codeR 2 l[i]) < 0))
      obtain ⟨r, HR⟩ := nameIt (l[i]'hil)
      rw [HR.out] at e0 e1 hkr hk1 hk2 HNX
      obtain ⟨lf, HLF⟩ := nameIt r.left
      obtain ⟨rn, HRN⟩ := nameIt r.right.length
      rw [HLF.out] at e0
      rw [HRN.out] at e1 hk1
      have HKR := Lib.hid hkr
      have HK1 : Hid (r.right.length ≤ 2) := by rw [HRN.out]; exact hk1
      have HK2 := Lib.hid hk2
      have hrn : decide ((2 : Int) < (rn : Int)) = false := by simp; omega
      obtain ⟨w3, HW3⟩ := nameIt (wr.alloc (.cells #[.int .i64 lf, .slice ar rn cr] 41))
      have hb3 : Below wr.heap.size wr w3 := by rw [← HW3.out]; exact (Below.refl _ _).alloc (Nat.le_refl _) _
      have X12 : Hid (w3.heap[wr.heap.size]? = some (.cells #[.int .i64 lf, .slice ar rn cr] 41 (0, 0))) := by rw [← HW3.out]; exact bx_new _ _ _ rfl
      obtain ⟨y0, y1⟩ := bx_cells2 X12.out
      have HB3 := Lib.hid hb3
      have hlt12 : wr.heap.size < w3.heap.size := (Array.getElem?_eq_some_iff.1 X12.out).1
      subst hae
      clear hkr hk2 hb3
      cases i with
      | zero =>
        simp only [Nat.zero_mul, Nat.add_zero] at e0 e1
        go_upto_region 14 with fail
        rw [HW3.out]
        go_quiet (fail)
        go_wp2_with fail
        go_roundg (42 - 1)
        case measure => omega
        case rel => exact ⟨1, by omega, by omega, rfl, HB.out.trans ((HB3.out.trans ((below_drewN _ _).mono HB3.out.size)).mono HB.out.size)⟩
      | succ k =>
        have hkl : k < l.length := by omega
        obtain ⟨hj1, hj2⟩ := okRules_at HOK.out hkl
        obtain ⟨bl', ol', vq, hae', -, -, g0, g1, hkq⟩ := (HR2.out.below HB.out).rule_at hkl
        cases hae'
        obtain ⟨aq, cq, hvq, -, -⟩ := hkq.form
        rw [List.length_map] at hvq
        subst hvq
        have hnx := HNX.out k rfl
        obtain ⟨q, HQ⟩ := nameIt (l[k]'hkl)
        rw [HQ.out] at g0 g1 hkq hj1 hj2 hnx
        obtain ⟨lq, HLQ⟩ := nameIt q.left
        obtain ⟨qn, HQN⟩ := nameIt q.right.length
        rw [HLQ.out] at g0
        rw [HQN.out] at g1
        have g0' := (HB3.out.cell (p := ⟨bl, ol + k * 2, none⟩) (lt_of_cell g0)).trans g0
        have g1' := (HB3.out.cell (p := ⟨bl, ol + k * 2 + 1, none⟩) (lt_of_cell g1)).trans g1
        have hx2 := bx_cells1 (bx_keep X2.out (HB2.out.trans ((HB.out.trans (HB3.out.mono HB.out.size)).mono HB2.out.size)))
        have CQ := Lib.hid (fun W (hb : Below w3.heap.size w3 W) => codeE 2 w.heap.size q _ cq W ((hb.cell (lt_of_cell hx2)).trans hx2) (by omega) (by omega) ((hkq.below HB3.out).below hb) hj1 hj2)
        have CR := Lib.hid (fun W (hb : Below w3.heap.size w3 W) => codeE 2 w.heap.size r _ cr W ((hb.cell (lt_of_cell hx2)).trans hx2) (by omega) (by omega) ((HKR.out.below HB3.out).below hb) HK1.out HK2.out)
        rw [HLQ.out, HQN.out] at CQ
        rw [HLF.out, HRN.out] at CR
        obtain ⟨cc, HCC⟩ := nameIt (cmpL (codeR 2 q) (codeR 2 r))
        rw [HCC.out] at hnx
        have hnxb : decide (0 ≤ cc) = false := by simp; omega
        have hik : (0 : Int) ≤ (k : Int) := by omega
        have hik2 : (k : Int) < 42 := by omega
        have hsub : IntKind.i64.wrap ((k : Int) + 1 - 1) = (k : Int) := by rw [IntWalk.i64_in _ (by omega)]; omega
        have hsub2 : IntKind.i64.wrap (k : Int) = (k : Int) := IntWalk.i64_in _ (by omega)
        clear hkq g0 g1 hj2 hnx
        go_upto_region 14 with fail
        rw [HW3.out]
        go_region_held3 (fun w' => w'.cell? ⟨wr.heap.size, 0, none⟩ = some (.int .i64 lf) ∧ w'.cell? ⟨wr.heap.size, 0 + 1, none⟩ = some (.slice ar rn cr) ∧ w'.cell? ⟨bl, ol + k * 2, none⟩ = some (.int .i64 lq) ∧ w'.cell? ⟨bl, ol + k * 2 + 1, none⟩ = some (.slice aq qn cq))
          (first | exact cells2x2 (Below.refl _ _).drew X12.out g0' g1' | exact cells2x2 HB5.out X12.out g0' g1' | exact cells2x2 HB4.out X12.out g0' g1' | fail)
          (first
            | (go_at_call 22; (with_reducible refine (CQ.out _ (Below.refl _ _).drew).mono ?_); rintro e w4 ⟨v4, rfl, hs4, hb4⟩; have HB4 : Hid (Below w3.heap.size w3 w4) := (Below.refl _ _).drew.trans hb4; have HS4 := Lib.hid hs4; clear hs4 hb4)
            | (go_at_call 22; (with_reducible refine (CR.out _ HB4.out).mono ?_); rintro e w5 ⟨v5, rfl, hs5, hb5⟩; have HB5 : Hid (Below w3.heap.size w3 w5) := HB4.out.trans (hb5.mono HB4.out.size); have HS5 := Lib.hid hs5; have HS4' := Lib.hid (HS4.out.keep hb5); clear hs5 hb5)
            | (go_at_call 23; (with_reducible refine (compareInts _ _ _ _ _ HS4'.out HS5.out).mono ?_); rintro e w' ⟨rfl, rfl⟩; rw [HCC.out])
            | fail)
        go_wp2_with fail
        go_roundg (42 - (k + 1 + 1))
        case measure => omega
        case rel => exact ⟨k + 1 + 1, by omega, by omega, by go_num, HB.out.trans ((HB3.out.trans (HB5.out.mono HB3.out.size)).mono HB.out.size)⟩
    · have hlt' : ¬ (i : Int) < 42 := by omega
      go_wp2_with fail
      go_ret
      have h := HB0.out.trans (HB2.out.mono HB0.out.size)
      exact ⟨rfl, h.trans (HB.out.mono h.size)⟩

set_option maxHeartbeats 2000000 in
set_option maxRecDepth 100000 in
theorem arg (t n : Int) (w : World) (h : t < 1 ∨ 2 < t ∨ n < 1 ∨ 2 < n) : Calls Try.prog 6 #[.int .i64 t, .int .i64 n] w fun e w' => e = .returned (.bool true) ∧ Below w.heap.size w w' := by
  have HRU := Lib.hid (fun W => rulesArg t n W h)
  have HF := Lib.hid first
  have h' : (t < 1) ∨ (¬ t < 1 ∧ 2 < t) ∨ (¬ t < 1 ∧ ¬ 2 < t ∧ n < 1) ∨ (¬ t < 1 ∧ ¬ 2 < t ∧ ¬ n < 1 ∧ 2 < n) := by omega
  obtain ⟨w0, HW0⟩ := nameIt (w.alloc (.cells #[.int .i64 t] 3))
  have X2 : Hid (w0.heap[w.heap.size]? = some (.cells #[.int .i64 t] 3 (0, 0))) := by rw [← HW0.out]; exact bx_new _ _ _ rfl
  have HB0 : Hid (Below w.heap.size w w0) := by rw [← HW0.out]; exact (Below.refl _ _).alloc (Nat.le_refl _) _
  have h4 : (decide (t < 1) = true) ∨ (decide (t < 1) = false ∧ decide (2 < t) = true) ∨ (decide (t < 1) = false ∧ decide (2 < t) = false ∧ decide (n < 1) = true) ∨ (decide (t < 1) = false ∧ decide (2 < t) = false ∧ decide (n < 1) = false ∧ decide (2 < n) = true) := by simpa using h'
  clear h h'
  rcases h4 with b1 | ⟨b1, b2⟩ | ⟨b1, b2, b3⟩ | ⟨b1, b2, b3, b4⟩
  all_goals
    go_enter Try.func6, Try.ntmps6
    go_wp2_with fail
    rw [HW0.out]
    refine (HF.out _).mono ?_
    rintro e w1 ⟨b, off, cap, a1, c1, rfl, e1, hc1, hc2, hb1⟩
    have hc3 : (7 : Int) ≤ (cap : Int) := by omega
    have x0 := bx_cells1 (bx_keep X2.out hb1)
    have HB1 := Lib.hid hb1
    clear hb1
    go_wp2_with fail
    refine (HRU.out _).mono ?_
    rintro e w2 ⟨v2, rfl, hr2, hb2⟩
    have HB2 := Lib.hid (HB1.out.trans (hb2.mono HB1.out.size))
    obtain ⟨a2, c2, rfl, hc4, hc5⟩ := hr2.form
    simp only [List.map_nil, List.length_nil]
    have x0' := bx_cells1 (bx_keep X2.out HB2.out)
    clear hr2 hb2 x0 e1 HB1
    go_wp2_with fail
    go_ret
    exact ⟨rfl, HB0.out.trans (HB2.out.mono HB0.out.size)⟩

theorem walk (t n : Int) (w : World) : Calls Try.prog 6 #[.int .i64 t, .int .i64 n] w fun e w' => e = .returned (.bool true) ∧ Below w.heap.size w w' := by
  by_cases h : t < 1 ∨ 2 < t ∨ n < 1 ∨ 2 < n
  · exact arg t n w h
  · have ht : t = 1 ∨ t = 2 := by omega
    have hn : n = 1 ∨ n = 2 := by omega
    rcases ht with rfl | rfl <;> rcases hn with rfl | rfl
    · exact main11 w
    · exact main12 w
    · exact main21 w
    · exact main22 w
end GuessRules
end Go.Proofs.Ytfbacnifankfkaa
