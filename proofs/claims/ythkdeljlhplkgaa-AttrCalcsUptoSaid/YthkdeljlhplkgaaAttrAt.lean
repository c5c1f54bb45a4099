/- The contract of the reference's at. -/
import Derived.Test.YthkdeljlhplkgaaAttrRd
import Derived.Test.YthkdeljlhplkgaaRowN
import Derived.Test.YthkdeljlhplkgaaRowBlk
import Derived.Deep.RegionHeld3
namespace Go.Proofs.Ythkdeljlhplkgaa
open Go.RowKit
namespace At

def atL (r : Rule) : List Sym := ⟨false, r.left⟩ :: r.right
def atR (r : Rule) (k : Int) : Int := if k < 0 ∨ (r.right.length : Int) < k then -1 else match (atL r)[k.toNat]? with | some s => if s.term then -1 else s.n | none => -1
theorem atR_out {r : Rule} {k : Int} (h : k < 0 ∨ (r.right.length : Int) < k) : atR r k = -1 := by unfold atR; rw [if_pos h]
theorem atR_in {r : Rule} {k : Nat} (h : k < (atL r).length) : atR r (k : Int) = if (atL r)[k].term then -1 else (atL r)[k].n := by
  unfold atR
  have h2 : (atL r).length = r.right.length + 1 := rfl
  rw [if_neg (by omega)]
  simp [h]

set_option maxHeartbeats 4000000 in
set_option maxRecDepth 100000 in
theorem atE (g : Gram) (j : Nat) (hj : j < g.rules.length) (hr4 : g.rules[j].right.length ≤ 4) (k : Int) (ar : Option Addr) (cr : Nat) (w : World) (hR : Rd AnyB w (.sl (g.rules.map Rule.d)) [.slice ar g.rules.length cr]) :
    Calls Try.prog 54 #[.agg #[.int .i64 g.terms, .int .i64 g.nons, .int .i64 g.start, .slice ar g.rules.length cr], .int .i64 (j : Int), .int .i64 k] w (fun e w' => e = .returned (.int .i64 (atR g.rules[j] k)) ∧ Below w.heap.size w w') := by
  obtain ⟨w0, HW0⟩ := nameIt (w.alloc (.cells #[.int .i64 g.terms, .int .i64 g.nons, .int .i64 g.start, .slice ar g.rules.length cr] 24))
  have HB0 : Hid (Below w.heap.size w w0) := by rw [← HW0.out]; exact (Below.refl _ _).alloc (Nat.le_refl _) _
  have X1 : Hid (w0.heap[w.heap.size]? = some (.cells #[.int .i64 g.terms, .int .i64 g.nons, .int .i64 g.start, .slice ar g.rules.length cr] 24 (0, 0))) := by rw [← HW0.out]; exact bx_new _ _ _ rfl
  obtain ⟨b6, off6, vr6, hae6, -, hbl6, d0, d1, hkr6⟩ := (hR.below HB0.out).rule_at hj
  obtain ⟨av, cv, rfl, -, -⟩ := hkr6.form
  rw [List.length_map] at d1 hkr6
  have hrb := hR.bounds.2.1
  have hrm := hR.bounds.2.2
  unfold maxLen at hrm
  have HOUT := Lib.hid (@atR_out g.rules[j] k)
  have HIN := Lib.hid (fun (i : Nat) (h : i < (atL g.rules[j]).length) => @atR_in g.rules[j] i h)
  have HLN : Hid ((atL g.rules[j]).length = g.rules[j].right.length + 1) := rfl
  obtain ⟨ru, HRU⟩ := nameIt (g.rules[j]'hj)
  rw [HRU.out] at d0 d1 hkr6 HOUT HIN HLN hr4
  rw [HRU.out]
  obtain ⟨AL, HAL⟩ := nameIt (atL ru)
  have HALL : Hid (AL = ⟨false, ru.left⟩ :: ru.right) := by show _ = _; rw [← HAL.out]; rfl
  obtain ⟨lf, HLF⟩ := nameIt ru.left
  obtain ⟨rn, HRN⟩ := nameIt ru.right.length
  obtain ⟨m, HM⟩ := nameIt g.rules.length
  obtain ⟨rs, HRS⟩ := nameIt (atR ru k)
  rw [HRS.out, HRN.out] at HOUT
  simp only [HAL.out] at HIN HLN
  rw [HRN.out] at HLN hr4 d1 hkr6
  rw [HLF.out] at d0 HALL
  rw [HM.out] at HW0 X1 hrb hj
  rw [HRS.out, HM.out]
  obtain ⟨x0, x1, x2, x3⟩ := bx_cells4 X1.out
  have hbx := (Array.getElem?_eq_some_iff.1 X1.out).1
  have HKR := Lib.hid hkr6
  subst hae6
  have HS : Hid (∀ W, Below w0.heap.size w0 W → W.cell? ⟨w.heap.size, 0 + 3, none⟩ = some (.slice (some ⟨b6, off6, none⟩) m cr) ∧ W.cell? ⟨b6, off6 + j * 2, none⟩ = some (.int .i64 lf) ∧ W.cell? ⟨b6, off6 + j * 2 + 1, none⟩ = some (.slice av rn cv)) := fun W hb => ⟨(hb.cell (lt_of_cell x3)).trans x3, (hb.cell (lt_of_cell d0)).trans d0, (hb.cell (lt_of_cell d1)).trans d1⟩
  have hj0 : (0 : Int) ≤ (j : Int) := by omega
  have hj1 : (j : Int) < (m : Int) := by omega
  have HRN4 := Lib.hid hr4
  clear hR hkr6 hr4
  go_enter Try.func54, Try.ntmps54
  go_upto_region 1 with fail
  rw [HW0.out]
  go_region_held3 (fun w' => w'.cell? ⟨w.heap.size, 0 + 3, none⟩ = some (.slice (some ⟨b6, off6, none⟩) m cr) ∧ w'.cell? ⟨b6, off6 + j * 2, none⟩ = some (.int .i64 lf) ∧ w'.cell? ⟨b6, off6 + j * 2 + 1, none⟩ = some (.slice av rn cv))
    (first | exact HS.out _ (Below.refl _ _).drew | exact HS.out _ ((Below.refl _ _).alloc (Nat.le_refl _) _).drew | exact HS.out _ ((Below.refl _ _).alloc (Nat.le_refl _) _) | exact HS.out _ ((Below.refl _ _).drew.alloc (by simp) _) | exact HS.out _ HB5.out | fail)
    (first
      | (refine step_appN elSym (by rfl) _ _ (by rfl) (own_of_block (w := w0.drew.alloc (.cells #[.bool false, .int .i64 lf] 65)) (n := 1) (bx_new _ _ _ rfl) (by rfl) (by simp [maxLen])) (by decide) (by rfl) ((HKR.out.mono (S' := fun q => q < w0.heap.size) (fun _ _ h => h)).below ((Below.refl _ _).drew.alloc (by simp) _)) (by rfl) (syms_cells _) (by have := HRN4.out; have := HRN.out; simp; omega) (by have := HRN4.out; have := HRN.out; unfold maxLen; simp; omega) (Nat.zero_le _) ?_; intro g5 c5 w5 L5 hL5 ho5 hg5 hat5 hg5l; have HB5 : Hid (Below w0.heap.size w0 w5) := ((Below.refl _ _).drew.alloc (by simp) _).grown hg5 (by simp) (fun k e => by simp [Value.ownBlock] at e; omega); have HO5 := Lib.hid ho5; have HL5 := Lib.hid hL5; have HG5 := Lib.hid hg5; have HA5 := Lib.hid hat5; clear hL5 ho5 hg5 hat5)
      | fail)
  all_goals
    have HSL : Hid (Rd AnyB w5 (.sl (AL.map Sym.d)) [.slice (some ⟨g5, 0, none⟩) (rn + 1) c5]) := by
      have h1 := HO5.out
      rw [List.length_map, HRN.out, Nat.add_comm] at h1
      rw [HALL.out]
      refine rd_of_own h1 (ds := ((⟨false, lf⟩ : Sym) :: ru.right).map Sym.d) ?_ (by simp [HRN.out]) (fun _ _ => trivial)
      refine ⟨[.bool false, .int .i64 lf], L5, rfl, rd_sym ⟨false, lf⟩, ?_⟩
      exact RdAll.keep (fun q hq hlt => ⟨trivial, HG5.out.block q hlt (fun e => by simp [Value.ownBlock] at e; omega)⟩) _ _ HL5.out
    have HB6 : Hid (Below w.heap.size w w5) := HB0.out.trans (HB5.out.mono HB0.out.size)
    rw [List.length_map, HRN.out, Nat.add_comm 1 rn]
    have hrn := HRN4.out
    clear x0 x1 x2 x3 d0 d1
    by_cases hk1 : k < 0
    · have hk1' : decide (k < 0) = true := by simpa using hk1
      obtain rfl : rs = -1 := HOUT.out (.inl hk1)
      clear hk1
      go_wp2_with fail
      go_ret
      exact ⟨rfl, HB6.out⟩
    · have hk1' : decide (k < 0) = false := by simpa using hk1
      obtain ⟨i, hi⟩ : ∃ i : Nat, k = (i : Int) := ⟨k.toNat, by omega⟩
      subst hi
      by_cases hk2 : rn + 1 ≤ i
      · have hk2' : decide ((rn : Int) + 1 ≤ (i : Int)) = true := by simp; omega
        obtain rfl : rs = -1 := HOUT.out (.inr (by omega))
        clear hk1
        go_wp2_with fail
        go_ret
        exact ⟨rfl, HB6.out⟩
      · have hk2' : decide ((rn : Int) + 1 ≤ (i : Int)) = false := by simp; omega
        have hiA : i < AL.length := by rw [HLN.out]; omega
        have hi1 : (i : Int) < (rn : Int) + 1 := by omega
        have hi0 : (0 : Int) ≤ (i : Int) := by omega
        obtain ⟨b, off, hae, -, -, c0, c1⟩ := HSL.out.sym_at hiA
        cases hae
        have HE : Hid (rs = if AL[i].term then -1 else AL[i].n) := by show _ = _; rw [← HRS.out]; exact HIN.out i hiA
        obtain ⟨sy, HSY⟩ := nameIt (AL[i]'hiA)
        rw [HSY.out] at c0 c1 HE
        obtain ⟨st, HST⟩ := nameIt sy.term
        obtain ⟨sn, HSN⟩ := nameIt sy.n
        rw [HST.out] at c0 HE
        rw [HSN.out] at c1 HE
        simp only [Nat.zero_add] at c0 c1
        clear hk1
        cases st with
        | true =>
          obtain rfl : rs = -1 := HE.out
          go_wp2_with fail
          go_ret
          exact ⟨rfl, HB6.out⟩
        | false =>
          obtain rfl : rs = sn := HE.out
          go_wp2_with fail
          go_ret
          exact ⟨rfl, HB6.out⟩
end At
end Go.Proofs.Ythkdeljlhplkgaa
