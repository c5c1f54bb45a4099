/- slices.Equal of symbols. -/
import Derived.Test.YtjehmleckcmilaaSymbol
namespace Go.Proofs.Ytjehmleckcmilaa
open Go.RowKit

theorem symNe (a c : Bool) (b d : Int) (w : World) : (binOp .neq 88 (.agg #[.bool a, .int .i64 b]) (.agg #[.bool c, .int .i64 d])).run Try.prog w = .ok (.bool (!(a == c && b == d))) w := by
  have h1 : Try.prog.underlying 88 = some (.struct (Try.prog.fieldsOf 88)) := by kernel_rfl
  have h2 : Try.prog.stoodInHeld 88 = false := by kernel_rfl
  have h3 := Try.underlying88
  have h4 := Try.underlying4
  have h5 := Try.underlying3
  rw [run_neq_struct, run_equalIn_agg (d := 9999) _ _ _ _ h1 h2]
  simp only [Program.fieldsOf, h3]
  cases hac : (a == c) <;> by_cases hbd : b = d <;> simp [Op.eqFields, go_sem, h4, h5, hac, hbd]
theorem sym_beq (x y : Sym) : (x.term == y.term && x.n == y.n) = decide (x = y) := by
  rw [Bool.eq_iff_iff]; cases x; cases y; simp

set_option maxHeartbeats 1000000 in
set_option maxRecDepth 100000 in
theorem equalSyms (a a' : Option Addr) (c c' : Nat) (l m : List Sym) (w : World) (hl : Rd AnyB w (.sl (l.map Sym.d)) [.slice a l.length c]) (hm : Rd AnyB w (.sl (m.map Sym.d)) [.slice a' m.length c']) :
    Calls Try.prog 116 #[.slice a l.length c, .slice a' m.length c'] w fun e w' => e = .returned (.bool (decide (l = m))) ∧ Below w.heap.size w w' := by
  have HL := Lib.hid hl
  have HM := Lib.hid hm
  have hc := hl.bounds.2
  have hc' := hm.bounds.2
  unfold maxLen at hc hc'
  obtain ⟨hc1, hc2⟩ := hc
  obtain ⟨hc3, hc4⟩ := hc'
  clear hl hm
  by_cases hlen : l.length = m.length
  · have hlb : ((l.length : Int) != (m.length : Int)) = false := by simp [hlen]
    have hle : l.length ≤ m.length := by omega
    have HLEN := Lib.hid hlen
    clear hlen
    have heg : Try.prog.eqGuardType Try.prog.depth 88 = false := by kernel_rfl
    go_enter Try.func116, Try.ntmps116
    go_wp2_with fail
    go_loopg [13] l.length (fun gg v13 wr => ∃ i : Nat, i ≤ l.length ∧ l.length - i ≤ gg ∧ v13 = .int .i64 i ∧ Hid (Below w.heap.size w wr) ∧ Hid (∀ j (h1 : j < l.length) (h2 : j < m.length), j < i → l[j] = m[j]))
    case atStart => exact ⟨0, by omega, by omega, rfl, Below.refl _ _, fun j _ _ hj => by omega⟩
    case round =>
      obtain ⟨i, hi, hg, rfl, HB, HN⟩ := hrel
      by_cases hlt : i < l.length
      · have hlt' : (i : Int) < (l.length : Int) := by omega
        have hlt2 : i < m.length := by omega
        have hlt2' : (i : Int) < (m.length : Int) := by omega
        have hi0 : (0 : Int) ≤ (i : Int) := by omega
        obtain ⟨b, off, hae, -, hbl, c0, c1⟩ := (HL.out.below HB.out).sym_at hlt
        obtain ⟨b', off', hae', -, hbl', d0, d1⟩ := (HM.out.below HB.out).sym_at hlt2
        obtain ⟨x, HX⟩ := nameIt (l[i]'hlt)
        obtain ⟨y, HY⟩ := nameIt (m[i]'hlt2)
        rw [HX.out] at c0 c1
        rw [HY.out] at d0 d1
        have hne := symNe x.term y.term x.n y.n
        rw [sym_beq] at hne
        obtain ⟨q, HQ⟩ := nameIt (decide (x = y))
        obtain ⟨x0, HX0⟩ := nameIt x.term
        obtain ⟨x1, HX1⟩ := nameIt x.n
        obtain ⟨y0, HY0⟩ := nameIt y.term
        obtain ⟨y1, HY1⟩ := nameIt y.n
        rw [HQ.out, HX0.out, HX1.out, HY0.out, HY1.out] at hne
        rw [HX0.out] at c0
        rw [HX1.out] at c1
        rw [HY0.out] at d0
        rw [HY1.out] at d1
        subst hae hae'
        have HBD := Lib.hid (HB.out.trans ((below_drewN wr 9).mono HB.out.size))
        go_wp2_with fail
        go_quiet (fail)
        cases q with
        | false =>
          have HE : Hid (decide (l = m) = false) := by
            show _ = _
            rw [decide_eq_false_iff_not]
            intro h
            subst h
            have h2 := HX.out.symm.trans HY.out
            subst h2
            have := HQ.out
            simp at this
          go_wp2_with fail
          go_ret
          exact ⟨by rw [HE.out]; rfl, HB.out.trans ((below_drewN _ _).mono HB.out.size)⟩
        | true =>
          have HN2 : Hid (∀ j (h1 : j < l.length) (h2 : j < m.length), j < i + 1 → l[j] = m[j]) := by
            intro j h1 h2 hj
            by_cases e : j = i
            · subst e; rw [HX.out, HY.out]; simpa using HQ.out
            · exact HN.out j h1 h2 (by omega)
          go_wp2_with fail
          go_roundg (l.length - (i + 1))
          case measure => omega
          case rel => exact ⟨i + 1, by omega, by omega, by go_num, HB.out.trans ((below_drewN _ _).mono HB.out.size), HN2⟩
      · have hlt' : ¬ (i : Int) < (l.length : Int) := by omega
        have HE : Hid (decide (l = m) = true) := by
          show _ = _
          rw [decide_eq_true_iff]
          exact List.ext_getElem HLEN.out fun j h1 h2 => HN.out j h1 h2 (by omega)
        go_wp2_with fail
        go_ret
        exact ⟨by rw [HE.out]; rfl, HB.out⟩
  · have hlb : ((l.length : Int) != (m.length : Int)) = true := by simp; omega
    have HE : Hid (decide (l = m) = false) := by show _ = _; rw [decide_eq_false_iff_not]; intro h; exact hlen (by rw [h])
    clear hlen
    go_enter Try.func116, Try.ntmps116
    go_wp2_with fail
    go_ret
    exact ⟨by rw [HE.out]; rfl, Below.refl _ _⟩
end Go.Proofs.Ytjehmleckcmilaa
