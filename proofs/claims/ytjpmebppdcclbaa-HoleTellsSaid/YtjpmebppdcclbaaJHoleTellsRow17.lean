/- hole.Check, and patternFault of the law. hole.Fill. patternFault of the law. Tables of corrections: each value comes from a derivation, and its size is bounded by its cost. Tables of corrections: costs are bounded; a nonterminal is found in all parts or in none. The plans of parlref4.solve and of repair.Best for corrections. The tables of parlref4.solve and of repair.Best are the same. The fixed call of RepairBest: the least correction of 0 0 1 is 0 1, at cost 1. The fixed call of HoleFills, in plain Lean: ? ? 1 ? is completed to 0 0 1 1. The contract of repair.distances. Operations of repair: how they read; their steps; small contracts. gram.Word; the costs' test of repair.Best. The table of repair.Best while it is made. repair.Best of valid arguments. repair.Best of arguments that it refuses. parlref4.Nearest. Nearest and Best of valid arguments answer with one and the same value. The grammar of the fixed call. The law HoleFills. -/
import Derived.Test.YtjpmebppdcclbaaJHoleTellsRow6
import Derived.Test.YtjpmebppdcclbaaJHoleTellsRow10
import Derived.Test.YtjpmebppdcclbaaJHoleTellsRow15
import Derived.Test.YtjpmebppdcclbaaJHoleTellsRow4
import Derived.Test.YtjpmebppdcclbaaJHoleTellsRow2
import Derived.Test.YtjpmebppdcclbaaJHoleTellsRow5
import Derived.Test.YtjpmebppdcclbaaJHoleTellsRow9
import Derived.Deep.LoopGhost
import Derived.Deep.Cut
import Derived.Deep.RegionHeld3
import Derived.Deep.DeepCutAuto
import Derived.Laws.Cover1
import Derived.Test.YtjpmebppdcclbaaJHoleTellsRow1
import Derived.Test.YtjpmebppdcclbaaJHoleTellsRow3
import Derived.Laws.StructEq
import Derived.Deep.QuietTactic
import Derived.BigQuiet
import Derived.Deep.CutBlock
import Derived.Deep.CutRange
import Derived.Test.YtjpmebppdcclbaaJHoleTellsRow7
namespace Go.Proofs.Ytjpmebppdcclbaa
open Go.RowKit
namespace Hl
open Rp
theorem symNe (a c : Bool) (b d : Int) (w : World) : (binOp .neq 44 (.agg #[.bool a, .int .i64 b]) (.agg #[.bool c, .int .i64 d])).run Try.prog w = .ok (.bool (!(a == c && b == d))) w := by
  have h1 : Try.prog.underlying 44 = some (.struct (Try.prog.fieldsOf 44)) := by kernel_rfl
  have h2 : Try.prog.stoodInHeld 44 = false := by kernel_rfl
  have h3 := Try.underlying44
  have h4 := Try.underlying4
  have h5 := Try.underlying3
  rw [run_neq_struct, run_equalIn_agg (d := 9999) _ _ _ _ h1 h2]
  simp only [Program.fieldsOf, h3]
  cases hac : (a == c) <;> by_cases hbd : b = d <;> simp [Op.eqFields, go_sem, h4, h5, hac, hbd]
def badS (g : Gram) (s : Sym) : Bool := !hasS g s && !(s.term == true && s.n == -1)
def patF (g : Gram) (l : List Sym) : Int := if checkG g ≠ 0 then checkG g else if 12 < l.length then 2 else if l.any (badS g) then 3 else 0
theorem any_take {g : Gram} {l : List Sym} {i : Nat} (hi : i < l.length) (h : ∀ x ∈ l.take i, badS g x = false) (hx : badS g l[i] = false) : ∀ x ∈ l.take (i + 1), badS g x = false := by
  intro x hm
  rw [List.take_succ_eq_append_getElem hi, List.mem_append] at hm
  rcases hm with hm | hm
  · exact h x hm
  · simp at hm; subst hm; exact hx
set_option maxHeartbeats 8000000 in
set_option maxRecDepth 100000 in
theorem checkPE (g : Gram) (l : List Sym) (ga : Option Addr) (gcp : Nat) (la : Option Addr) (lk : Nat) (W : World) (hgr : Rd AnyB W (.sl (g.rules.map Rule.d)) [.slice ga g.rules.length gcp]) (hrl : Rd AnyB W (.sl (l.map Sym.d)) [.slice la l.length lk]) :
    Calls Try.prog 20 #[.agg #[.int .i64 g.terms, .int .i64 g.nons, .int .i64 g.start, .slice ga g.rules.length gcp], .slice la l.length lk] W fun e w' => e = .returned (.int .i64 (patF g l)) ∧ Below W.heap.size W w' := by
  have hlb := hrl.bounds.2
  unfold maxLen at hlb
  obtain ⟨hlc1, hlc2⟩ := hlb
  obtain ⟨w0, HW0⟩ := nameIt (W.alloc (.cells #[.int .i64 g.terms, .int .i64 g.nons, .int .i64 g.start, .slice ga g.rules.length gcp] 24))
  have hb0 : Below W.heap.size W w0 := by rw [← HW0.out]; exact (Below.refl _ _).alloc (Nat.le_refl _) _
  have X0 : Hid (w0.heap[W.heap.size]? = some (.cells #[.int .i64 g.terms, .int .i64 g.nons, .int .i64 g.start, .slice ga g.rules.length gcp] 24 (0, 0))) := by rw [← HW0.out]; exact bx_new _ _ _ rfl
  have HCK := Lib.hid (checkE g ga gcp w0 (hgr.below hb0))
  have HRL := Lib.hid (hrl.below hb0)
  obtain ⟨PST, HP⟩ := nameIt (fun (e : Ending) (w' : World) => e = .returned (.int .i64 (patF g l)) ∧ Below W.heap.size W w')
  have HFIN : Hid (∀ z w', patF g l = z → Below w0.heap.size w0 w' → PST (.returned (.int .i64 z)) w') := by
    intro z w' h1 h2
    rw [← HP.out]
    exact ⟨by rw [h1], hb0.trans (h2.mono hb0.size)⟩
  rw [HP.out]
  have HHS : Hid (∀ s : Sym, ∀ W', Calls Try.prog 34 #[.agg #[.int .i64 g.terms, .int .i64 g.nons, .int .i64 g.start, .slice ga g.rules.length gcp], .agg #[.bool s.term, .int .i64 s.n]] W' fun e w' => e = .returned (.bool (hasS g s)) ∧ Below W'.heap.size W' w') := fun s W' => hasE g ga g.rules.length gcp s W'
  obtain ⟨gt, HGT⟩ := nameIt g.terms
  obtain ⟨gn, HGN⟩ := nameIt g.nons
  obtain ⟨gs, HGS⟩ := nameIt g.start
  obtain ⟨kn, HKN⟩ := nameIt g.rules.length
  obtain ⟨n, HN⟩ := nameIt l.length
  rw [HGT.out, HGN.out, HGS.out, HKN.out] at HW0 X0 HCK HHS
  rw [HN.out] at hlc1 HRL
  rw [HGT.out, HGN.out, HGS.out, HKN.out, HN.out]
  obtain ⟨ck, HC⟩ := nameIt (checkG g)
  rw [HC.out] at HCK
  obtain ⟨x0, x1, x2, x3⟩ := bx_cells4 X0.out
  clear hb0 hgr hrl HP
  go_enter Try.func20, Try.ntmps20
  go_upto_region 1 with fail
  rw [HW0.out]
  go_wp2_with fail
  refine HCK.out.mono ?_
  clear x0 x1 x2 x3
  rintro e w1 ⟨rfl, hb1⟩
  have X1 := Lib.hid (bx_keep X0.out hb1)
  have HB1 := Lib.hid hb1
  clear hb1
  by_cases he : ck = 0
  · subst he
    by_cases hn : n ≤ 12
    · have hn' : (n : Int) ≤ 12 := by omega
      have hgt : ¬ (12 : Int) < (n : Int) := by omega
      have HP3 : Hid (l.any (badS g) = true → patF g l = 3) := by
        intro h
        unfold patF
        rw [if_neg (by rw [HC.out]; simp), if_neg (by rw [HN.out]; omega), if_pos h]
      have HP0 : Hid ((∀ x ∈ l.take n, badS g x = false) → patF g l = 0) := by
        intro h
        unfold patF
        rw [if_neg (by rw [HC.out]; simp), if_neg (by rw [HN.out]; omega), if_neg]
        rw [List.take_of_length_le (by rw [HN.out]; exact Nat.le_refl _)] at h
        intro h2
        rw [List.any_eq_true] at h2
        obtain ⟨x, hx, hb⟩ := h2
        rw [h x hx] at hb; cases hb
      have HT0 : Hid (∀ x ∈ l.take 0, badS g x = false) := fun x hx => by simp at hx
      clear HC
      go_wp2_with fail
      go_loopg [7, 18] n (fun gg v7 v18 wr => ∃ i : Nat, i ≤ n ∧ n - i ≤ gg ∧ v18 = .int .i64 (i : Nat) ∧ Hid (Below w0.heap.size w0 wr) ∧ Hid (∀ x ∈ l.take i, badS g x = false))
      case atStart => exact ⟨0, by omega, by omega, rfl, HB1, HT0⟩
      case round =>
        clear HB1 HT0 X1 w1
        obtain ⟨i, hi, hgg, rfl, HB, HTK⟩ := hrel
        obtain ⟨w1, rfl⟩ : ∃ wo : World, wo = wr := ⟨_, rfl⟩
        by_cases hlt : i < n
        · have hlt' : (i : Int) < (n : Int) := by omega
          have hil : i < l.length := by rw [HN.out]; exact hlt
          obtain ⟨sb, so, hsa, -, -, c0, c1⟩ := (show Rd AnyB w1 (.sl (l.map Sym.d)) [.slice la n lk] from HRL.out.below HB.out).sym_at hil
          obtain ⟨s, HS⟩ := nameIt (l[i]'hil)
          rw [HS.out] at c0 c1
          have HNX : Hid (badS g s = false → ∀ x ∈ l.take (i + 1), badS g x = false) := fun h => any_take hil HTK.out (by rw [HS.out]; exact h)
          have HBD : Hid (badS g s = true → l.any (badS g) = true) := fun h => List.any_eq_true.2 ⟨s, by rw [← HS.out]; exact List.getElem_mem hil, h⟩
          have hsn := symNe s.term true s.n (-1)
          have HH := Lib.hid (HHS.out s)
          obtain ⟨hv, HHV⟩ := nameIt (hasS g s)
          obtain ⟨qv, HQV⟩ := nameIt (s.term == true && s.n == -1)
          have HBS : Hid (badS g s = (!hv && !qv)) := by show _ = _; unfold badS; rw [HHV.out, HQV.out]
          rw [HQV.out] at hsn
          rw [HHV.out] at HH
          obtain ⟨st, HST⟩ := nameIt s.term
          obtain ⟨sn, HSN⟩ := nameIt s.n
          rw [HST.out] at c0 hsn HH
          rw [HSN.out] at c1 hsn HH
          subst hsa
          obtain ⟨w2, HW2⟩ := nameIt (w1.alloc (.cells #[.bool st, .int .i64 sn] 44))
          have hb2 : Below w1.heap.size w1 w2 := by rw [← HW2.out]; exact (Below.refl _ _).alloc (Nat.le_refl _) _
          have S2 : Hid (w2.heap[w1.heap.size]? = some (.cells #[.bool st, .int .i64 sn] 44 (0, 0))) := by rw [← HW2.out]; exact bx_new _ _ _ rfl
          have HB2 := Lib.hid (HB.out.trans (hb2.mono HB.out.size))
          have X2 := Lib.hid (bx_keep X0.out HB2.out)
          obtain ⟨b7, HB7⟩ := nameIt w1.heap.size
          rw [HB7.out] at S2
          clear hb2
          go_upto_region 9 with fail
          rw [HW2.out, HB7.out]
          clear HW2 HB7 c0 c1
          obtain ⟨x0, x1, x2, x3⟩ := bx_cells4 X2.out
          obtain ⟨y0, y1⟩ := bx_cells2 S2.out
          have i0 := aft_cell x0
          have i1 := aft_cell x1
          have i2 := aft_cell x2
          have i3 := aft_cell x3
          have i4 := aft_cell y0
          have i5 := aft_cell y1
          have HT : Hid (∀ W', Below w2.heap.size w2 W' → Calls Try.prog 51 #[.int .i64 (-1)] W' fun e w' => e = .returned (.agg #[.bool true, .int .i64 (-1)]) ∧ Below W'.heap.size W' w') := fun W' _ => gramT (-1) W'
          have HHX : Hid (∀ W', Below w2.heap.size w2 W' → Calls Try.prog 34 #[.agg #[.int .i64 gt, .int .i64 gn, .int .i64 gs, .slice ga kn gcp], .agg #[.bool st, .int .i64 sn]] W' fun e w' => e = .returned (.bool hv) ∧ Below W'.heap.size W' w') := fun W' _ => HH.out W'
          clear x0 x1 x2 x3 y0 y1
          cases hv with
          | true =>
            refine wp_region_after (by kernel_rfl) (by kernel_rfl) ?_
            repeat (go_big_quiet_step (with_reducible exact Calls.after (HHX.out _ (Aft.bel _))))
            repeat (go_big_quiet_step (with_reducible exact Calls.after (HT.out _ (Aft.bel _))))
            refine wpQuiet_nil ?_
            rintro w7 ⟨⟨_, hb7⟩, rfl⟩
            have HB8 := Lib.hid (HB2.out.trans (hb7.mono HB2.out.size))
            have HNX2 := Lib.hid (HNX.out (by rw [HBS.out]; simp))
            clear hb7 i0 i1 i2 i3 i4 i5
            go_wp2_with fail
            go_roundg (n - (i + 1))
            case measure => omega
            case rel => exact ⟨i + 1, by omega, by omega, by go_num, HB8, HNX2⟩
          | false =>
            refine wp_region_after (by kernel_rfl) (by kernel_rfl) ?_
            repeat (go_big_quiet_step (with_reducible exact Calls.after (HHX.out _ (Aft.bel _))))
            repeat (go_big_quiet_step (with_reducible exact Calls.after (HT.out _ (Aft.bel _))))
            refine wpQuiet_nil ?_
            rintro w7 ⟨⟨_, hb7⟩, rfl⟩
            have HB8 := Lib.hid (HB2.out.trans (hb7.mono HB2.out.size))
            clear hb7 i0 i1 i2 i3 i4 i5
            cases qv with
            | true =>
              have HNX2 := Lib.hid (HNX.out (by rw [HBS.out]; simp))
              go_wp2_with fail
              go_roundg (n - (i + 1))
              case measure => omega
              case rel => exact ⟨i + 1, by omega, by omega, by go_num, HB8, HNX2⟩
            | false =>
              have HF := Lib.hid (HFIN.out 3 w7 (HP3.out (HBD.out (by rw [HBS.out]; simp))) HB8.out)
              go_wp2_with fail
              exact HF.out
        · have hlt' : ¬ (i : Int) < (n : Int) := by omega
          obtain rfl : i = n := by omega
          have HF := Lib.hid (HFIN.out 0 w1 (HP0.out HTK.out) HB.out)
          go_wp2_with fail
          exact HF.out
    · have hgt : (12 : Int) < (n : Int) := by omega
      have HF := Lib.hid (HFIN.out 2 w1 (by unfold patF; rw [if_neg (by rw [HC.out]; simp), if_pos (by rw [HN.out]; omega)]) HB1.out)
      go_wp2_with fail
      exact HF.out
  · have b1 : (ck != 0) = true := by simpa using he
    have HF := Lib.hid (HFIN.out ck w1 (by unfold patF; rw [HC.out, if_pos he]) HB1.out)
    go_wp2_with fail
    exact HF.out
end Hl
end Go.Proofs.Ytjpmebppdcclbaa
namespace Go.Proofs.Ytjpmebppdcclbaa
open Go.RowKit
namespace Hl
open Rp
section
variable (g : Gram) (l : List Sym) (ga : Option Addr) (gc : Nat) (la : Option Addr) (lk : Nat) (W : World) (hgr : Rd AnyB W (.sl (g.rules.map Rule.d)) [.slice ga g.rules.length gc]) (hrl : Rd AnyB W (.sl (l.map Sym.d)) [.slice la l.length lk])
include hgr hrl
end
end Hl
end Go.Proofs.Ytjpmebppdcclbaa
namespace Go.Proofs.Ytjpmebppdcclbaa
open Go.RowKit
namespace Hl
open Rp
theorem bad_eq {g : Gram} (h1 : 1 ≤ g.terms) (h2 : 1 ≤ g.nons) (s : Sym) : badS g s = ((decide ((if s.term then g.terms else g.nons) ≤ s.n) || decide (s.n < -1)) || ((s.n == -1) && !s.term)) := by
  obtain ⟨st, sn⟩ := s
  unfold badS hasS
  rw [Bool.eq_iff_iff]
  cases st <;> simp <;> omega
set_option maxHeartbeats 8000000 in
set_option maxRecDepth 100000 in
theorem patFE (g : Gram) (l : List Sym) (ga : Option Addr) (gcp : Nat) (la : Option Addr) (lk : Nat) (W : World) (hgr : Rd AnyB W (.sl (g.rules.map Rule.d)) [.slice ga g.rules.length gcp]) (hrl : Rd AnyB W (.sl (l.map Sym.d)) [.slice la l.length lk]) :
    Calls Try.prog 19 #[.agg #[.int .i64 g.terms, .int .i64 g.nons, .int .i64 g.start, .slice ga g.rules.length gcp], .slice la l.length lk] W fun e w' => e = .returned (.int .i64 (patF g l)) ∧ Below W.heap.size W w' := by
  have hlb := hrl.bounds.2
  unfold maxLen at hlb
  obtain ⟨hlc1, hlc2⟩ := hlb
  obtain ⟨w0, HW0⟩ := nameIt (W.alloc (.cells #[.int .i64 g.terms, .int .i64 g.nons, .int .i64 g.start, .slice ga g.rules.length gcp] 24))
  have hb0 : Below W.heap.size W w0 := by rw [← HW0.out]; exact (Below.refl _ _).alloc (Nat.le_refl _) _
  have X0 : Hid (w0.heap[W.heap.size]? = some (.cells #[.int .i64 g.terms, .int .i64 g.nons, .int .i64 g.start, .slice ga g.rules.length gcp] 24 (0, 0))) := by rw [← HW0.out]; exact bx_new _ _ _ rfl
  have HCK := Lib.hid (checkE g ga gcp w0 (hgr.below hb0))
  have HRL := Lib.hid (hrl.below hb0)
  obtain ⟨PST, HP⟩ := nameIt (fun (e : Ending) (w' : World) => e = .returned (.int .i64 (patF g l)) ∧ Below W.heap.size W w')
  have HFIN : Hid (∀ z w', patF g l = z → Below w0.heap.size w0 w' → PST (.returned (.int .i64 z)) w') := by
    intro z w' h1 h2
    rw [← HP.out]
    exact ⟨by rw [h1], hb0.trans (h2.mono hb0.size)⟩
  rw [HP.out]
  have HBE : Hid (checkG g = 0 → ∀ s, badS g s = ((decide ((if s.term then g.terms else g.nons) ≤ s.n) || decide (s.n < -1)) || ((s.n == -1) && !s.term))) := by
    intro h s
    obtain ⟨⟨h1, h2, h3, h4, h5, h6⟩, _⟩ := checkG_zero h
    exact bad_eq (by omega) (by omega) s
  obtain ⟨gt, HGT⟩ := nameIt g.terms
  obtain ⟨gn, HGN⟩ := nameIt g.nons
  obtain ⟨gs, HGS⟩ := nameIt g.start
  obtain ⟨kn, HKN⟩ := nameIt g.rules.length
  obtain ⟨n, HN⟩ := nameIt l.length
  rw [HGT.out, HGN.out, HGS.out, HKN.out] at HW0 X0 HCK
  rw [HGT.out, HGN.out] at HBE
  rw [HN.out] at hlc1 HRL
  rw [HGT.out, HGN.out, HGS.out, HKN.out, HN.out]
  obtain ⟨ck, HC⟩ := nameIt (checkG g)
  rw [HC.out] at HCK HBE
  obtain ⟨x0, x1, x2, x3⟩ := bx_cells4 X0.out
  clear hb0 hgr hrl HP
  go_enter Try.func19, Try.ntmps19
  go_upto_region 1 with fail
  rw [HW0.out]
  go_wp2_with fail
  refine HCK.out.mono ?_
  clear x0 x1 x2 x3
  rintro e w1 ⟨rfl, hb1⟩
  have HB1 := Lib.hid hb1
  clear hb1
  by_cases he : ck = 0
  · subst he
    have HBS0 := Lib.hid (HBE.out rfl)
    by_cases hn : n ≤ 12
    · have hn' : (n : Int) ≤ 12 := by omega
      have hgt : ¬ (12 : Int) < (n : Int) := by omega
      have HP3 : Hid (l.any (badS g) = true → patF g l = 3) := by
        intro h
        unfold patF
        rw [if_neg (by rw [HC.out]; simp), if_neg (by rw [HN.out]; omega), if_pos h]
      have HP0 : Hid ((∀ x ∈ l.take n, badS g x = false) → patF g l = 0) := by
        intro h
        unfold patF
        rw [if_neg (by rw [HC.out]; simp), if_neg (by rw [HN.out]; omega), if_neg]
        rw [List.take_of_length_le (by rw [HN.out]; exact Nat.le_refl _)] at h
        intro h2
        rw [List.any_eq_true] at h2
        obtain ⟨x, hx, hb⟩ := h2
        rw [h x hx] at hb; cases hb
      have HT0 : Hid (∀ x ∈ l.take 0, badS g x = false) := fun x hx => by simp at hx
      clear HC HBE
      go_wp2_with fail
      go_loopg [7, 8, 19] n (fun gg v7 v8 v19 wr => ∃ i : Nat, i ≤ n ∧ n - i ≤ gg ∧ v19 = .int .i64 (i : Nat) ∧ Hid (Below w0.heap.size w0 wr) ∧ Hid (∀ x ∈ l.take i, badS g x = false))
      case atStart => exact ⟨0, by omega, by omega, rfl, HB1, HT0⟩
      case round =>
        clear HB1 HT0 w1
        obtain ⟨i, hi, hgg, rfl, HB, HTK⟩ := hrel
        obtain ⟨w1, rfl⟩ : ∃ wo : World, wo = wr := ⟨_, rfl⟩
        by_cases hlt : i < n
        · have hlt' : (i : Int) < (n : Int) := by omega
          have hil : i < l.length := by rw [HN.out]; exact hlt
          obtain ⟨sb, so, hsa, -, -, c0, c1⟩ := (show Rd AnyB w1 (.sl (l.map Sym.d)) [.slice la n lk] from HRL.out.below HB.out).sym_at hil
          obtain ⟨s, HS⟩ := nameIt (l[i]'hil)
          rw [HS.out] at c0 c1
          have HNX : Hid (badS g s = false → ∀ x ∈ l.take (i + 1), badS g x = false) := fun h => any_take hil HTK.out (by rw [HS.out]; exact h)
          have HBD : Hid (badS g s = true → l.any (badS g) = true) := fun h => List.any_eq_true.2 ⟨s, by rw [← HS.out]; exact List.getElem_mem hil, h⟩
          have hbs := HBS0.out s
          obtain ⟨st, HST⟩ := nameIt s.term
          obtain ⟨sn, HSN⟩ := nameIt s.n
          rw [HST.out] at c0 hbs
          rw [HSN.out] at c1 hbs
          obtain ⟨m, HMM⟩ := nameIt (if st then gt else gn)
          rw [HMM.out] at hbs
          obtain ⟨q1, HQ1⟩ := nameIt (decide (m ≤ sn))
          obtain ⟨q2, HQ2⟩ := nameIt (decide (sn < -1))
          obtain ⟨q3, HQ3⟩ := nameIt (sn == -1)
          rw [HQ1.out, HQ2.out, HQ3.out] at hbs
          have HBS := Lib.hid hbs
          have d1 := HQ1.out
          have d2 := HQ2.out
          have d3 := HQ3.out
          clear hbs HQ1 HQ2 HQ3
          subst hsa
          obtain ⟨w2, HW2⟩ := nameIt (w1.alloc (.cells #[.bool st, .int .i64 sn] 44))
          have hb2 : Below w1.heap.size w1 w2 := by rw [← HW2.out]; exact (Below.refl _ _).alloc (Nat.le_refl _) _
          have S2 : Hid (w2.heap[w1.heap.size]? = some (.cells #[.bool st, .int .i64 sn] 44 (0, 0))) := by rw [← HW2.out]; exact bx_new _ _ _ rfl
          have HB2 := Lib.hid (HB.out.trans (hb2.mono HB.out.size))
          have X2 := Lib.hid (bx_keep X0.out HB2.out)
          obtain ⟨b7, HB7⟩ := nameIt w1.heap.size
          rw [HB7.out] at S2
          clear hb2
          go_upto_region 9 with fail
          rw [HW2.out, HB7.out]
          clear HW2 HB7 c0 c1
          obtain ⟨x0, x1, x2, x3⟩ := bx_cells4 X2.out
          obtain ⟨y0, y1⟩ := bx_cells2 S2.out
          obtain ⟨bq, HBQ⟩ : ∃ bq : Bool, Hid (bq = ((q1 || q2) || (q3 && !st))) := ⟨_, rfl⟩
          have HBS2 : Hid (badS g s = bq) := by show _ = _; rw [HBS.out, HBQ.out]
          have HB22 : Hid (Below w2.heap.size w2 w2) := Below.refl _ _
          go_upto_region 10 with fail
          clear x0 x1 x2 x3 y0 y1
          obtain ⟨y0, y1⟩ := bx_cells2 S2.out
          go_upto_if 26 with fail
          go_cut [8] (fun t wx => t = .int .i64 m ∧ w2 = wx)
          case first =>
            have hm := HMM.out
            obtain ⟨x0, x1, x2, x3⟩ := bx_cells4 X2.out
            cases st with
            | true =>
              simp only [if_true] at hm
              subst hm
              go_wp2_with fail
              go_meet
              exact ⟨rfl, rfl⟩
            | false =>
              simp only [Bool.false_eq_true, if_false] at hm
              subst hm
              go_wp2_with fail
              go_meet
              exact ⟨rfl, rfl⟩
          case rest =>
          obtain ⟨rfl, rfl⟩ := hcut
          go_upto_region 12 with fail
          go_cut [47] (fun t wx => t = .bool bq ∧ w2 = wx)
          case first =>
            obtain ⟨y0, y1⟩ := bx_cells2 S2.out
            have hbq := HBQ.out
            cases q1 with
            | true =>
              obtain rfl : bq = true := by rw [hbq]; simp
              clear hbq HBQ HBS2
              go_wp2_with fail
              go_meet
              exact ⟨rfl, rfl⟩
            | false =>
            cases q2 with
            | true =>
              obtain rfl : bq = true := by rw [hbq]; simp
              clear hbq HBQ HBS2
              go_wp2_with fail
              go_meet
              exact ⟨rfl, rfl⟩
            | false =>
            cases q3 with
            | false =>
              obtain rfl : bq = false := by rw [hbq]; simp
              clear hbq HBQ HBS2
              go_wp2_with fail
              go_meet
              exact ⟨rfl, rfl⟩
            | true =>
              have hb2 : (!st) = bq := by rw [hbq]; simp
              clear hbq HBQ HBS2
              go_wp2_with fail
              go_meet
              exact ⟨rfl, rfl⟩
          case rest =>
          obtain ⟨rfl, rfl⟩ := hcut
          cases bq with
          | false =>
            have HNX2 := Lib.hid (HNX.out HBS2.out)
            go_wp2_with fail
            go_roundg (n - (i + 1))
            case measure => omega
            case rel => exact ⟨i + 1, by omega, by omega, by go_num, HB2, HNX2⟩
          | true =>
            have HF := Lib.hid (HFIN.out 3 w2 (HP3.out (HBD.out HBS2.out)) HB2.out)
            go_wp2_with fail
            exact HF.out
        · have hlt' : ¬ (i : Int) < (n : Int) := by omega
          obtain rfl : i = n := by omega
          have HF := Lib.hid (HFIN.out 0 w1 (HP0.out HTK.out) HB.out)
          go_wp2_with fail
          exact HF.out
    · have hgt : (12 : Int) < (n : Int) := by omega
      have HF := Lib.hid (HFIN.out 2 w1 (by unfold patF; rw [if_neg (by rw [HC.out]; simp), if_pos (by rw [HN.out]; omega)]) HB1.out)
      go_wp2_with fail
      exact HF.out
  · have b1 : (ck != 0) = true := by simpa using he
    have HF := Lib.hid (HFIN.out ck w1 (by unfold patF; rw [HC.out, if_pos he]) HB1.out)
    go_wp2_with fail
    exact HF.out
end Hl
end Go.Proofs.Ytjpmebppdcclbaa
namespace Go.Proofs.Ytjpmebppdcclbaa
namespace Rp
section
variable (c : Co) (w : List Int) (n N tm : Nat) (K : List Rule)
def okS (s : Sym) : Prop := 0 ≤ s.n ∧ (s.term = true → s.n < (tm : Int)) ∧ (s.term = false → s.n < (N : Int))
def Good (v : Val) (i j : Nat) : Prop := Wf v ∧ v.n ≤ v.c + (j - i) ∧ ∀ t ∈ v.w, 0 ≤ t ∧ t < (tm : Int)
end
section
variable {c : Co} {w : List Int} {n N tm : Nat} {K : List Rule}
theorem good_thn {a b : Val} {i m j : Nat} (ha : Good tm a i m) (hb : Good tm b m j) (h1 : i ≤ m) (h2 : m ≤ j) : Good tm (thn a b) i j := by
  obtain ⟨a1, a2, a3⟩ := ha
  obtain ⟨b1, b2, b3⟩ := hb
  refine ⟨wf_thn a1 b1, ?_, ?_⟩
  · show a.n + b.n ≤ a.c + b.c + (j - i)
    omega
  · rw [thn_w]
    split
    · intro t ht
      rcases List.mem_append.1 ht with ht | ht
      · exact a3 t ht
      · exact b3 t ht
    · intro t ht; cases ht
theorem good_zero (i : Nat) : Good tm zero i i := ⟨wf_zero, Nat.zero_le _, fun t ht => by cases ht⟩
theorem row_ex {leaf : Sym → Nat → Nat → Option Val} {em : Nat → Nat → Option Val} : ∀ {l : List Sym} {i j : Nat} {v : Val}, Row (fun s i j v => ∃ h, Dr K leaf em h s i j v) l i j v → ∃ h, Row (Dr K leaf em h) l i j v
  | [], _, _, _, h => h.elim
  | [s], _, _, _, ⟨h, hd⟩ => ⟨h, hd⟩
  | s :: t :: l, i, j, v, ⟨m, a, b, h1, h2, ⟨ha, hda⟩, hb, e⟩ => by
    obtain ⟨k, hk⟩ := row_ex hb
    exact ⟨max ha k, m, a, b, h1, h2, dr_le (Nat.le_max_left _ _) hda, hk.mono (fun _ _ _ _ => dr_le (Nat.le_max_right _ _)), e⟩
theorem good_row0 {V : Sym → Nat → Nat → Option Val} : ∀ {l : List Sym} {i j : Nat} {v : Val}, (∀ s ∈ l, ∀ i j v, i ≤ j → j ≤ n → V s i j = some v → Good tm v i j) → Row0 (VP V n) l i j v → Good tm v i j
  | [], i, j, v, _, h => by obtain ⟨rfl, rfl⟩ := h; exact good_zero i
  | s :: l, i, j, v, hV, ⟨m, a, b, h1, h2, h3, h4, e⟩ => by
    subst e
    exact good_thn (hV s (by simp) i m a h3.1 h3.2.1 h3.2.2) (good_row0 (fun s hs => hV s (by simp [hs])) h4) h1 h2
theorem row_mem {P Q : Sym → Nat → Nat → Val → Prop} : ∀ {l : List Sym} {i j : Nat} {v : Val}, (∀ s ∈ l, ∀ i j v, P s i j v → Q s i j v) → Row P l i j v → Row Q l i j v
  | [], _, _, _, _, h => h.elim
  | [s], _, _, _, hPQ, h => hPQ s (by simp) _ _ _ h
  | s :: t :: l, _, _, _, hPQ, ⟨m, a, b, h1, h2, h3, h4, e⟩ => ⟨m, a, b, h1, h2, hPQ s (by simp) _ _ _ h3, row_mem (fun s hs => hPQ s (by simp [List.mem_cons] at hs ⊢; exact .inr hs)) h4, e⟩
end
end Rp
end Go.Proofs.Ytjpmebppdcclbaa
namespace Go.Proofs.Ytjpmebppdcclbaa
namespace Rp
def Mf : Nat → Nat
  | 0 => 1300
  | f + 1 => 4 * Mf f + 1300
section
variable (n N : Nat)
def AN (T : Tb) (a : Nat) : Prop := ∀ x y, x ≤ y → y ≤ n → T (a : Int) x y = none
def AS (T : Tb) (a m : Nat) : Prop := ∀ x y, x ≤ y → y ≤ n → ∃ v, T (a : Int) x y = some v ∧ v.c ≤ m
def FOk (F : List Nat) : Prop := F.Nodup ∧ ∀ a ∈ F, a < N
def GS (F : List Nat) (T : Tb) : Prop := FOk N F ∧ ∀ a, a < N → (a ∈ F → AS n T a (Mf F.length)) ∧ (a ∉ F → AN n T a)
def blk (F : List Nat) (r : Rule) : Prop := ∃ s ∈ r.right, s.term = false ∧ s.n.toNat ∉ F
structure NEW (F : List Nat) (r : Rule) (la : Nat) (vis : Nat → Nat → Prop) (T : Tb) : Prop where
  fok : FOk N F
  no : la ∉ F
  old : ∀ a, a < N → a ≠ la → (a ∈ F → AS n T a (Mf F.length)) ∧ (a ∉ F → AN n T a)
  rt : ∀ s ∈ r.right, s.term = false → s.n.toNat ∈ F
  yes : ∀ x y, x ≤ y → y ≤ n → vis x y → ∃ v, T (la : Int) x y = some v ∧ v.c ≤ Mf (F.length + 1)
  non : ∀ x y, x ≤ y → y ≤ n → ¬ vis x y → T (la : Int) x y = none
end
section
variable {c : Co} {w : List Int} {n N tm : Nat} {K : List Rule}
end
end Rp
end Go.Proofs.Ytjpmebppdcclbaa
namespace Go.Proofs.Ytjpmebppdcclbaa
namespace Rp
section
variable {c : Co} {w : List Int} {n N tm : Nat} {K : List Rule}
theorem symF_lt {V : Sym → Nat → Nat → Option Val} {s : Sym} {at' : Nat → Option Val} {i j : Nat} (h : j < i) : ∀ m, symF V s at' i m j = none
  | 0 => rfl
  | m + 1 => by
    show stepK V s at' (i + m) (symF V s at' i m) j = none
    rw [stepK_lt (by omega)]
    exact symF_lt h m
theorem foldF_lt {V : Sym → Nat → Nat → Option Val} {i n j : Nat} (h : j < i) : ∀ (l : List Sym) (at' : Nat → Option Val), at' j = none → foldF V i n l at' j = none
  | [], _, e => e
  | s :: l, at', _ => foldF_lt h l _ (symF_lt h _)
end
end Rp
end Go.Proofs.Ytjpmebppdcclbaa
namespace Go.Proofs.Ytjpmebppdcclbaa
namespace Rp
section
variable {c : Co} {w : List Int} {n N tm : Nat} {K : List Rule}
theorem row_bnd {V : Sym → Nat → Nat → Option Val} : ∀ {l : List Sym} {i j : Nat} {v : Val}, Row (VP V n) l i j v → i ≤ j ∧ j ≤ n
  | [], _, _, _, h => h.elim
  | [s], i, j, v, h => ⟨h.1, h.2.1⟩
  | s :: t :: l, i, j, v, ⟨m, a, b, h1, h2, h3, h4, _⟩ => ⟨by omega, (row_bnd h4).2⟩
theorem not_better {T : Tb} (hw : ∀ A x y, WfO (T A x y)) {A : Int} {i j : Nat} {b : Val} (hwb : Wf b) (hb : lessB (some b) (T A i j) = false) : ∃ u, T A i j = some u ∧ le u b := by
  cases e : T A i j with
  | none => rw [e] at hb; cases hb
  | some u =>
    refine ⟨u, rfl, le_of_not (fun hlt => ?_)⟩
    rw [e] at hb
    have := (less_some hwb (hw _ _ _ _ e)).2 hlt
    rw [this] at hb
    cases hb
end
end Rp
end Go.Proofs.Ytjpmebppdcclbaa
namespace Go.Proofs.Ytjpmebppdcclbaa
namespace Rp
def pK : List Rule := [⟨0, [⟨true, 0⟩, ⟨false, 0⟩, ⟨true, 1⟩]⟩, ⟨0, [⟨true, 0⟩, ⟨true, 1⟩]⟩]
end Rp
end Go.Proofs.Ytjpmebppdcclbaa
namespace Go.Proofs.Ytjpmebppdcclbaa
namespace Hl
open Rp
def pV0 (y : Sym) (i j : Nat) : Option Val := if y.term then leafS y i j else if y.n = 0 then some ⟨0, 2, [0, 1]⟩ else none
theorem pKG : KG 1 pK (okS 1 2) := by
  intro r hr
  simp only [pK, List.mem_cons, List.not_mem_nil, or_false] at hr
  rcases hr with rfl | rfl
  · refine ⟨by decide, by decide, fun s hs => ?_⟩
    simp only [List.mem_cons, List.not_mem_nil, or_false] at hs
    rcases hs with rfl | rfl | rfl <;> exact ⟨by decide, by decide, by decide⟩
  · refine ⟨by decide, by decide, fun s hs => ?_⟩
    simp only [List.mem_cons, List.not_mem_nil, or_false] at hs
    rcases hs with rfl | rfl <;> exact ⟨by decide, by decide, by decide⟩
theorem pV0_none {y : Sym} {i j : Nat} {v : Val} (e : pV0 y i j = some v) : (y.term = true ∧ v = ⟨0, 1, [y.n]⟩) ∨ (y = ⟨false, 0⟩ ∧ v = ⟨0, 2, [0, 1]⟩) := by
  unfold pV0 at e
  by_cases ht : y.term = true
  · rw [if_pos ht] at e
    unfold leafS at e
    rw [if_pos ht] at e
    cases e
    exact .inl ⟨ht, rfl⟩
  · rw [if_neg ht] at e
    split at e
    · rename_i h
      cases e
      refine .inr ⟨?_, rfl⟩
      obtain ⟨a, b⟩ := y
      simp at ht h
      rw [ht, h]
    · cases e
theorem pVO0 : VO leafS emS 0 pK (okS 1 2) (GS 2) pV0 := by
  refine ⟨fun s i j v e => ?_, fun s i j v hij hj e => ?_⟩
  · rcases pV0_none e with ⟨_, rfl⟩ | ⟨_, rfl⟩
    · exact .inl ⟨by simp [maxL], rfl⟩
    · exact .inl ⟨by simp [maxL], rfl⟩
  · obtain rfl : j = 0 := by omega
    obtain rfl : i = 0 := by omega
    rcases pV0_none e with ⟨ht, rfl⟩ | ⟨rfl, rfl⟩
    · refine ⟨⟨0, ?_⟩, fun hs => ⟨.inl ⟨by simp [maxL], rfl⟩, rfl, fun t h => ?_⟩⟩
      · show clL leafS 0 s 0 0 = _
        unfold clL leafS
        rw [if_pos ⟨Nat.le_refl _, Nat.le_refl _⟩, if_pos ht]
      · simp at h
        subst h
        exact ⟨hs.1, hs.2.1 ht⟩
    · refine ⟨⟨1, .inr ⟨rfl, ⟨0, [⟨true, 0⟩, ⟨true, 1⟩]⟩, by simp [pK], rfl, .inr ?_⟩⟩, fun _ => ⟨.inl ⟨by simp [maxL], rfl⟩, rfl, fun t h => ?_⟩⟩
      · exact ⟨0, ⟨0, 1, [0]⟩, ⟨0, 1, [1]⟩, Nat.le_refl _, Nat.le_refl _, rfl, rfl, rfl⟩
      · simp at h
        rcases h with rfl | rfl <;> decide
theorem pCl0 : Closed pK (clL leafS 0) (clE emS 0) (clV 0 pV0) := by
  refine cl_closed (gokS 1 2) pVO0.1 (fun y i j v _ _ e => ⟨v, ?_, le_refl _⟩) (fun r hr i j v hij hj e => ?_)
  · unfold pV0
    by_cases ht : y.term = true
    · rw [if_pos ht]; exact e
    · unfold leafS at e; rw [if_neg ht] at e; cases e
  · obtain rfl : j = 0 := by omega
    obtain rfl : i = 0 := by omega
    have hb : lessB (rvV emS pV0 r 0 0) (pV0 ⟨false, r.left⟩ 0 0) = false := by
      simp only [pK, List.mem_cons, List.not_mem_nil, or_false] at hr
      rcases hr with rfl | rfl <;> kernel_rfl
    rw [e] at hb
    exact not_better (pVO0.1 _ _ _) (rv_wf (gokS 1 2) pVO0.1 r (Nat.le_refl 0) (Nat.le_refl 0) v e) hb
end Hl
end Go.Proofs.Ytjpmebppdcclbaa
namespace Go.Proofs.Ytjpmebppdcclbaa
open Go.RowKit
structure DRel (w : World) (c0 c1 c2 : Int) (bt n m : Nat) (D : Nat → Nat → Int) (k : Nat) (wr : World) : Prop where
  tab : ∃ rb, Tab (w.heap.size + 1) bt n m rb k D wr
  bel : Below w.heap.size w wr
  box : wr.heap[w.heap.size]? = some (.cells #[.int .i64 c0, .int .i64 c1, .int .i64 c2] 26 (0, 0))
structure ERel (w : World) (c0 c1 c2 : Int) (bt n m : Nat) (D : Nat → Nat → Int) (i q : Nat) (wr : World) : Prop where
  tab : ∃ rb val, Tab (w.heap.size + 1) bt n m rb i val wr ∧ (∀ a j, i < a → a ≤ n → j ≤ m → val a j = D a j) ∧ ∀ j, q ≤ j → j ≤ m → val i j = D i j
  bel : Below w.heap.size w wr
  box : wr.heap[w.heap.size]? = some (.cells #[.int .i64 c0, .int .i64 c1, .int .i64 c2] 26 (0, 0))
theorem ERel.next {w : World} {c0 c1 c2 : Int} {bt n m : Nat} {D : Nat → Nat → Int} {i j : Nat} {wr : World} {rb : Nat → Nat} {val : Nat → Nat → Int} (ht : Tab (w.heap.size + 1) bt n m rb i val wr) (h1 : ∀ a j, i < a → a ≤ n → j ≤ m → val a j = D a j) (h2 : ∀ l, j + 1 ≤ l → l ≤ m → val i l = D i l)
    (hb : Below w.heap.size w wr) (hx : wr.heap[w.heap.size]? = some (.cells #[.int .i64 c0, .int .i64 c1, .int .i64 c2] 26 (0, 0))) (hi : i ≤ n) (hj : j ≤ m) {x : Int} (he : x = D i j) : ERel w c0 c1 c2 bt n m D i j (wr.setCell ⟨rb i, j, none⟩ (.int .i64 x)) := by
  have hne := ht.ne i (Nat.le_refl _) hi
  refine ⟨⟨rb, _, ht.set (Nat.le_refl _) hi hj x, fun a l ha hn hl => ?_, fun l hl hm => ?_⟩, hb.setCell (by simp; omega) _, bx_other hx (by omega) _ _⟩
  · simp only [show ¬ (a = i ∧ l = j) from fun h => by omega, if_false]; exact h1 a l ha hn hl
  · by_cases e : l = j
    · subst e; simp [he]
    · simp only [e, and_false, if_false]; exact h2 l (by omega) hm
end Go.Proofs.Ytjpmebppdcclbaa
namespace Go.Proofs.Ytjpmebppdcclbaa
open Go.RowKit
namespace Al
def Op.d (o : Op) : D := .agg [.int o.kind, .int o.at', .int o.term]
theorem Rd.op {S : Nat → Prop} {w : World} {o : Op} {cs : List Value} (h : Rd S w o.d cs) : cs = [.int .i64 o.kind, .int .i64 o.at', .int .i64 o.term] := by
  obtain ⟨c1, c2, rfl, h1, c3, c4, rfl, h2, h3⟩ := h
  rw [RdAll.one_iff] at h3
  simp [Rd] at h1 h2 h3
  subst h1 h2 h3
  rfl
section
variable {c0 c1 c2 : Int} {l r : List Int} {i j : Nat}
end
end Al
end Go.Proofs.Ytjpmebppdcclbaa
namespace Go.Proofs.Ytjpmebppdcclbaa
open Go.RowKit
namespace Rp
open Al
end Rp
end Go.Proofs.Ytjpmebppdcclbaa
namespace Go.Proofs.Ytjpmebppdcclbaa
open Go.RowKit
namespace Rp
open Al
theorem CM.setb {cb : Nat} {gt gn gs : Int} {gr bv : Value} {c : Co} {w : List Int} {W : World} (h : CM cb gt gn gs gr bv c w W) (bv' : Value) : CM cb gt gn gs gr bv' c w (W.setCell ⟨cb, 0 + 8, none⟩ bv') := by
  obtain ⟨wa, wk, h1, h2⟩ := h.box
  refine ⟨wa, wk, ?_, rd_grown h2 (grown_cell W ⟨cb, 0 + 8, none⟩ bv') (fun k e h => by cases e; exact Nat.lt_irrefl _ h)⟩
  have := bx_set h1 (0 + 8) bv'
  simpa using this
structure BU (W : World) (gt : Int) (N st : Nat) (gr : Value) (cb : Nat) (c : Co) (w : List Int) (n1 a : Nat) (ra : Nat → Nat) (bv : Value) (wr : World) : Prop where
  bel : Below W.heap.size W wr
  gbox : wr.heap[W.heap.size]? = some (.cells #[.int .i64 gt, .int .i64 (N : Int), .int .i64 (st : Int), gr] 24 (0, 0))
  cm : CM cb gt N st gr bv c w wr
  own : wr.ownsRow (cb + 1) 66 1 bv a ((List.range a).map fun k => .slice (some ⟨ra k, 0, none⟩) n1 n1)
  mid : ∀ a', a' < a → ∀ i, i < n1 → wr.cell? ⟨ra a', i, none⟩ = some (.slice (some ⟨ra a' + 1 + i, 0, none⟩) n1 n1)
  row : ∀ a', a' < a → ∀ i, i < n1 → WRow (fun _ => False) (ra a' + 1 + i) n1 (fun _ => none) wr
  lb : ∀ a', a' < a → cb < ra a' ∧ ra a' + n1 < wr.heap.size
  sep : ∀ a' a'', a' < a'' → a'' < a → ra a' + n1 < ra a''
  ob : ∀ k, bv.ownBlock = some k → ∀ a', a' < a → k < ra a' ∨ ra a' + n1 < k
theorem BU.keep {W : World} {gt : Int} {N st : Nat} {gr : Value} {cb : Nat} {c : Co} {w : List Int} {n1 a : Nat} {ra : Nat → Nat} {bv : Value} {wr w' : World} (h : BU W gt N st gr cb c w n1 a ra bv wr) (hb : Below wr.heap.size wr w') : BU W gt N st gr cb c w n1 a ra bv w' :=
  ⟨h.bel.trans (hb.mono h.bel.size), bx_keep h.gbox hb, h.cm.keep hb, own_keep h.own hb, fun a' ha i hi => (hb.cell (p := ⟨ra a', i, none⟩) (lt_of_cell (h.mid a' ha i hi))).trans (h.mid a' ha i hi), fun a' ha i hi => (h.row a' ha i hi).keep hb, fun a' ha => ⟨(h.lb a' ha).1, Nat.lt_of_lt_of_le (h.lb a' ha).2 hb.size⟩, h.sep, h.ob⟩
structure RU (n1 R i : Nat) (wr : World) : Prop where
  sz : wr.heap.size = R + 1 + i
  rows : Vrow 67 R n1 (fun x => if x < i then .slice (some ⟨R + 1 + x, 0, none⟩) n1 n1 else .slice none 0 0) wr
  row : ∀ x, x < i → WRow (fun _ => False) (R + 1 + x) n1 (fun _ => none) wr
theorem RU.step {n1 R i : Nat} {wr : World} (h : RU n1 R i wr) (hi : i < n1) : RU n1 R (i + 1) ((wr.alloc (.cells (madeCells #[.int .i64 0, .int .i64 0, .slice none 0 0, .bool false] (n1 * 4)) 72)).setCell ⟨R, i, none⟩ (.slice (some ⟨R + 1 + i, 0, none⟩) n1 n1)) := by
  have hal : Below wr.heap.size wr (wr.alloc (.cells (madeCells #[.int .i64 0, .int .i64 0, .slice none 0 0, .bool false] (n1 * 4)) 72)) := (Below.refl _ _).alloc (Nat.le_refl _) _
  have hg := grown_cell (wr.alloc (.cells (madeCells #[.int .i64 0, .int .i64 0, .slice none 0 0, .bool false] (n1 * 4)) 72)) ⟨R, i, none⟩ (.slice (some ⟨R + 1 + i, 0, none⟩) n1 n1)
  refine ⟨?_, (h.rows.keep hal).set hi (fun k hk => ?_), fun x hx => ?_⟩
  · simp [World.setCell, h.sz]; omega
  · by_cases e : k = i
    · rw [if_pos e, e, if_pos (by omega)]
    · rw [if_neg e]
      by_cases h2 : k < i
      · rw [if_pos h2, if_pos (by omega)]
      · rw [if_neg h2, if_neg (by omega)]
  · by_cases e : x = i
    · subst e
      exact (wrow_new _ wr n1 h.sz.symm).grown hg (by simp; omega) (fun _ _ h => h)
    · exact ((h.row x (by omega)).keep hal).grown hg (by simp; omega) (fun _ _ h => h)
theorem BU.app {W : World} {gt : Int} {N st : Nat} {gr : Value} {cb : Nat} {c : Co} {w : List Int} {n1 a : Nat} {ra : Nat → Nat} {bv : Value} {w5 w7 wz : World} (h : BU W gt N st gr cb c w n1 a ra bv w5) (hb : Below w5.heap.size w5 w7) (hr : RU n1 w5.heap.size n1 w7) {v' : Value}
    (hoz : wz.ownsRow (cb + 1) 66 1 v' (a + 1) (((List.range a).map fun k => .slice (some ⟨ra k, 0, none⟩) n1 n1) ++ [.slice (some ⟨w5.heap.size, 0, none⟩) n1 n1])) (hgz : w7.grownBy wz bv.ownBlock) (hat : v'.ownBlock = bv.ownBlock ∨ ∃ k, v'.ownBlock = some k ∧ w7.heap.size ≤ k) (hWcb : W.heap.size < cb) :
    BU W gt N st gr cb c w n1 (a + 1) (fun k => if k = a then w5.heap.size else ra k) v' (wz.setCell ⟨cb, 0 + 8, none⟩ v') := by
  have h7 := h.keep hb
  have hg2 := grown_cell wz ⟨cb, 0 + 8, none⟩ v'
  have hcb5 : cb < w5.heap.size := h.cm.lt
  have hs7 := hr.sz
  have hsz := hgz.size
  have hk : ∀ k, bv.ownBlock = some k → cb < k ∧ k < w5.heap.size := fun k e => by have := h.own.lt k e; omega
  have hkn : ∀ b, w5.heap.size ≤ b → bv.ownBlock ≠ some b := fun b hb e => by have := hk b e; omega
  have hra : ∀ a', a' < a → (fun k => if k = a then w5.heap.size else ra k) a' = ra a' := fun a' ha => by simp; omega
  have hko : ∀ a', a' < a → ∀ i, i ≤ n1 → bv.ownBlock ≠ some (ra a' + i) := fun a' ha i hi e => by have := h.ob _ e a' ha; omega
  refine ⟨(h7.bel.grown hgz h7.bel.size (fun k e => by have := hk k e; omega)).grown hg2 ?_ (fun k e => by cases e; show W.heap.size ≤ cb; omega), ?_, ?_, ?_, ?_, ?_, ?_, ?_, ?_⟩
  · have := h7.bel.size; omega
  · have h1 := (hgz.block _ (Array.getElem?_eq_some_iff.1 h7.gbox).1 (fun e => by have := hk _ e.symm; omega)).trans h7.gbox
    exact (hg2.block _ (Array.getElem?_eq_some_iff.1 h1).1 (by simp; omega)).trans h1
  · exact (h7.cm.grown hgz (fun k e => (hk k e).1)).setb v'
  · have e : ((List.range (a + 1)).map fun k => Value.slice (some ⟨(fun k => if k = a then w5.heap.size else ra k) k, 0, none⟩) n1 n1) = ((List.range a).map fun k => .slice (some ⟨ra k, 0, none⟩) n1 n1) ++ [.slice (some ⟨w5.heap.size, 0, none⟩) n1 n1] := by
      rw [List.range_succ, List.map_append]
      congr 1
      · refine List.map_congr_left fun k hk => ?_
        have := List.mem_range.1 hk
        simp; omega
      · simp
    rw [e]
    exact hoz.kept hg2 (.inr (fun e3 => by have h4 : v'.ownBlock = some cb := e3; have := (hoz.lt cb h4).1; omega))
  · intro a' ha' i hi
    by_cases e : a' = a
    · subst e
      simp only [if_true]
      have h1 := (hr.rows.grown hgz (hkn _ (Nat.le_refl _))).cell hi
      rw [if_pos hi] at h1
      exact cell_grown h1 hg2 (by simp; omega)
    · have ha : a' < a := by omega
      rw [show (if a' = a then w5.heap.size else ra a') = ra a' from if_neg e]
      have h1 := cell_grown (h7.mid a' ha i hi) hgz (by have := hko a' ha 0 (by omega); simpa using this)
      exact cell_grown h1 hg2 (by have := (h.lb a' ha).1; simp; omega)
  · intro a' ha' i hi
    by_cases e : a' = a
    · subst e
      simp only [if_true]
      exact ((hr.row i hi).grown hgz (hkn _ (by omega)) (fun _ _ h => h)).grown hg2 (by simp; omega) (fun _ _ h => h)
    · have ha : a' < a := by omega
      rw [show (if a' = a then w5.heap.size else ra a') = ra a' from if_neg e]
      exact ((h7.row a' ha i hi).grown hgz (by have := hko a' ha (1 + i) (by omega); rw [show ra a' + (1 + i) = ra a' + 1 + i by omega] at this; exact this) (fun _ _ h => h)).grown hg2 (by have := (h.lb a' ha).1; simp; omega) (fun _ _ h => h)
  · intro a' ha'
    have hs2 := hg2.size
    by_cases e : a' = a
    · rw [show (if a' = a then w5.heap.size else ra a') = w5.heap.size from if_pos e]
      exact ⟨hcb5, by omega⟩
    · rw [show (if a' = a then w5.heap.size else ra a') = ra a' from if_neg e]
      have := h7.lb a' (by omega)
      exact ⟨this.1, by omega⟩
  · intro a' a'' h1 h2
    rw [show (if a' = a then w5.heap.size else ra a') = ra a' from if_neg (by omega)]
    by_cases e : a'' = a
    · rw [show (if a'' = a then w5.heap.size else ra a'') = w5.heap.size from if_pos e]
      exact (h.lb a' (by omega)).2
    · rw [show (if a'' = a then w5.heap.size else ra a'') = ra a'' from if_neg e]
      exact h.sep a' a'' h1 (by omega)
  · intro k e a' ha'
    rcases hat with h1 | ⟨k', h1, h2⟩
    · rw [h1] at e
      by_cases e2 : a' = a
      · rw [show (if a' = a then w5.heap.size else ra a') = w5.heap.size from if_pos e2]
        exact .inl (hk k e).2
      · rw [show (if a' = a then w5.heap.size else ra a') = ra a' from if_neg e2]
        exact h.ob k e a' (by omega)
    · rw [h1] at e
      cases e
      by_cases e2 : a' = a
      · rw [show (if a' = a then w5.heap.size else ra a') = w5.heap.size from if_pos e2]
        exact .inr (by omega)
      · rw [show (if a' = a then w5.heap.size else ra a') = ra a' from if_neg e2]
        have := (h7.lb a' (by omega)).2
        exact .inr (by omega)
end Rp
end Go.Proofs.Ytjpmebppdcclbaa
namespace Go.Proofs.Ytjpmebppdcclbaa
open Go.RowKit
namespace Rp
open Al
structure MT (W : World) (gt : Int) (N st : Nat) (gr : Value) (cb bk hi bb : Nat) (ra : Nat → Nat) (rb : Nat → Nat → Nat) (c : Co) (w : List Int) (T : Tb) (wr : World) : Prop where
  bel : Below W.heap.size W wr
  gbox : wr.heap[W.heap.size]? = some (.cells #[.int .i64 gt, .int .i64 (N : Int), .int .i64 (st : Int), gr] 24 (0, 0))
  cm : CM cb gt N st gr (.slice (some ⟨bb, 0, none⟩) N bk) c w wr
  bt : BT (fun k => hi ≤ k) 0 bb ra rb N w.length T wr
  lt : ∀ a i, a < N → i ≤ w.length → rb a i < hi ∧ cb < rb a i ∧ W.heap.size + 1 < rb a i
  le : hi ≤ wr.heap.size
theorem MT.keep {W : World} {gt : Int} {N st : Nat} {gr : Value} {cb bk hi bb : Nat} {ra : Nat → Nat} {rb : Nat → Nat → Nat} {c : Co} {w : List Int} {T : Tb} {wr w' : World} (h : MT W gt N st gr cb bk hi bb ra rb c w T wr) (hb : Below wr.heap.size wr w') : MT W gt N st gr cb bk hi bb ra rb c w T w' :=
  ⟨h.bel.trans (hb.mono h.bel.size), bx_keep h.gbox hb, h.cm.keep hb, h.bt.keep hb, h.lt, Nat.le_trans h.le hb.size⟩
theorem MT.set {W : World} {gt : Int} {N st : Nat} {gr : Value} {cb bk hi bb : Nat} {ra : Nat → Nat} {rb : Nat → Nat → Nat} {c : Co} {w : List Int} {T : Tb} {wr : World} (h : MT W gt N st gr cb bk hi bb ra rb c w T wr) {a i j : Nat} (ha : a < N) (hi' : i ≤ w.length) (hj : j ≤ w.length) {o : Option Val} {u : Value} (hu : Rd (fun k => hi ≤ k) wr (D.ints (oW o)) [u]) :
    MT W gt N st gr cb bk hi bb ra rb c w (upd T (a : Int) i j o) ((((wr.setCell ⟨rb a i, j * 4, none⟩ (.int .i64 (oC o))).setCell ⟨rb a i, j * 4 + 1, none⟩ (.int .i64 (oN o))).setCell ⟨rb a i, j * 4 + 2, none⟩ u).setCell ⟨rb a i, j * 4 + 3, none⟩ (.bool o.isSome)) := by
  have hg := grown_cellsAt wr (rb a i) (j * 4) (j * 4 + 1) (j * 4 + 2) (j * 4 + 3) (.int .i64 (oC o)) (.int .i64 (oN o)) u (.bool o.isSome)
  obtain ⟨h1, h2, h3⟩ := h.lt a i ha hi'
  refine ⟨h.bel.grown hg h.bel.size (fun k e => by cases e; omega), (hg.block _ (Array.getElem?_eq_some_iff.1 h.gbox).1 (by simp; omega)).trans h.gbox, h.cm.grown hg (fun k e => by cases e; exact h2), h.bt.set ha hi' hj hu, h.lt, Nat.le_trans h.le hg.size⟩
theorem BU.mt {W : World} {gt : Int} {N st : Nat} {gr : Value} {cb : Nat} {c : Co} {w : List Int} {n1 : Nat} {ra : Nat → Nat} {bv : Value} {wr : World} (h : BU W gt N st gr cb c w n1 N ra bv wr) (hn1 : n1 = w.length + 1) (hN : 0 < N) (hW : W.heap.size + 1 < cb) :
    ∃ bb bk, MT W gt N st gr cb bk wr.heap.size bb ra (fun a i => ra a + 1 + i) c w (fun _ _ _ => none) wr := by
  subst hn1
  have hsl := sl_of_own h.own
  obtain ⟨g, k, hbv, _, _⟩ := h.own.form hN
  subst hbv
  have hob := h.ob g rfl
  refine ⟨g, k, h.bel, h.gbox, h.cm, ⟨fun a ha => ?_, fun a ha i hi => h.mid a ha i (by omega), fun a ha i hi => (h.row a ha i (by omega)).mono (fun _ h _ => h.elim), fun _ _ _ _ => Nat.zero_le _, fun a a' i i' ha ha' hi hi' e => ?_, fun a i ha hi => ⟨?_, fun a' ha' => ?_⟩, fun a i ha hi hh => ?_⟩, fun a i ha hi => ⟨?_, ?_, ?_⟩, Nat.le_refl _⟩
  · obtain ⟨bb, oo, hae, hcc⟩ := hsl.at (k := a) ha
    have := hcc a (by simpa using ha)
    cases hae
    simpa using this
  · rcases Nat.lt_trichotomy a a' with h1 | h1 | h1
    · have := h.sep a a' h1 ha'; omega
    · subst h1; exact ⟨rfl, by omega⟩
    · have := h.sep a' a h1 ha; omega
  · have := hob a ha; omega
  · rcases Nat.lt_trichotomy a a' with h1 | h1 | h1
    · have := h.sep a a' h1 ha'; omega
    · subst h1; omega
    · have := h.sep a' a h1 ha; omega
  · have := (h.lb a ha).2
    omega
  · have := (h.lb a ha).2; omega
  · have := (h.lb a ha).1; omega
  · have := (h.lb a ha).1; omega
end Rp
end Go.Proofs.Ytjpmebppdcclbaa
namespace Go.Proofs.Ytjpmebppdcclbaa
open Go.RowKit
namespace Rp
open Al
end Rp
end Go.Proofs.Ytjpmebppdcclbaa
namespace Go.Proofs.Ytjpmebppdcclbaa
open Go.RowKit
namespace Rp
end Rp
end Go.Proofs.Ytjpmebppdcclbaa
namespace Go.Proofs.Ytjpmebppdcclbaa
open Go.RowKit
namespace Rp
open Al
section
variable {c : Co} {w : List Int} {n N tm : Nat} {K : List Rule}
end
end Rp
end Go.Proofs.Ytjpmebppdcclbaa
namespace Go.Proofs.Ytjpmebppdcclbaa
open Go.RowKit
namespace Rp
theorem rd_block {S : Nat → Prop} {w : World} {b : Nat} {cs : Array Value} {T : TypeId} {ds : List D} (hb : w.heap[b]? = some (.cells cs T (0, 0))) (hr : RdAll S w ds cs.toList) (hS : S b) (hl : ds.length ≤ maxLen) : Rd S w (.sl ds) [.slice (some ⟨b, 0, none⟩) ds.length ds.length] := by
  refine ⟨some ⟨b, 0, none⟩, ds.length, cs.toList, rfl, Nat.le_refl _, hl, (fun e => by cases e), fun i hi => ⟨⟨b, 0, none⟩, rfl, hS, ?_⟩, hr⟩
  rw [add_at]
  have hi' : i < cs.size := by simpa using hi
  simp [World.cell?, hb, hi']
theorem syms_lit {w : World} (l : List Sym) (cs : List Value) (h : cs = l.flatMap fun s => [.bool s.term, .int .i64 s.n]) : RdAll AnyB w (l.map Sym.d) cs := by
  subst h
  induction l with
  | nil => simp [RdAll]
  | cons s l ih => exact ⟨[.bool s.term, .int .i64 s.n], _, rfl, rd_sym s, ih⟩
theorem six (W : World) (A B C D E F : Obj) : (((((((W.alloc A).alloc B).alloc C).alloc D).alloc E).alloc F).heap[W.heap.size + 1 + 1 + 1]? = some D) ∧ (((((((W.alloc A).alloc B).alloc C).alloc D).alloc E).alloc F).heap[W.heap.size + 1 + 1 + 1 + 1]? = some E) ∧ (((((((W.alloc A).alloc B).alloc C).alloc D).alloc E).alloc F).heap[W.heap.size + 1 + 1 + 1 + 1 + 1]? = some F) ∧ Below W.heap.size W ((((((W.alloc A).alloc B).alloc C).alloc D).alloc E).alloc F) := by
  have al : ∀ (w : World) (o : Obj), Below w.heap.size w (w.alloc o) := fun w o => (Below.refl _ _).alloc (Nat.le_refl _) _
  have h3 := bx_new (((W.alloc A).alloc B).alloc C) D (W.heap.size + 1 + 1 + 1) (by simp)
  have h4 := bx_new ((((W.alloc A).alloc B).alloc C).alloc D) E (W.heap.size + 1 + 1 + 1 + 1) (by simp)
  have h5 := bx_new (((((W.alloc A).alloc B).alloc C).alloc D).alloc E) F (W.heap.size + 1 + 1 + 1 + 1 + 1) (by simp)
  exact ⟨bx_keep (bx_keep h3 (al _ _)) (al _ _), bx_keep h4 (al _ _), h5, ((((((Below.refl W.heap.size W).alloc (Nat.le_refl _) _).alloc (by simp) _).alloc (by simp; omega) _).alloc (by simp; omega) _).alloc (by simp; omega) _).alloc (by simp; omega) _⟩
set_option maxHeartbeats 1000000 in
theorem pairsE (W : World) : Calls Try.prog 8 #[] W fun e w' => ∃ a k, e = .returned (.agg #[.int .i64 2, .int .i64 1, .int .i64 0, .slice a 2 k]) ∧ Rd AnyB w' (.sl (pK.map Rule.d)) [.slice a 2 k] ∧ Below W.heap.size W w' := by
  go_enter Try.func8, Try.ntmps8
  go_wp2
  refine bodyPost_ret (v := .agg #[.int .i64 2, .int .i64 1, .int .i64 0, .slice (some ⟨W.heap.size + 1 + 1 + 1 + 1 + 1, 0, none⟩) 2 2]) (by simp [results, Try.results8, go_sem]) rfl ?_
  obtain ⟨h3, h4, h5, hb⟩ := six W (.cells #[.int .i64 2, .int .i64 1, .int .i64 0, .slice (some ⟨W.heap.size + 1 + 1 + 1 + 1 + 1, 0, none⟩) 2 2] 24) (.cells #[.bool true, .int .i64 0] 44) (.cells #[.bool true, .int .i64 1] 44) (.cells #[.bool true, .int .i64 0, .bool false, .int .i64 0, .bool true, .int .i64 1] 44) (.cells #[.bool true, .int .i64 0, .bool true, .int .i64 1] 44) (.cells #[.int .i64 0, .slice (some ⟨W.heap.size + 1 + 1 + 1, 0, none⟩) 3 3, .int .i64 0, .slice (some ⟨W.heap.size + 1 + 1 + 1 + 1, 0, none⟩) 2 2] 69)
  refine ⟨_, _, rfl, rd_block (ds := pK.map Rule.d) h5 ?_ trivial (by simp [pK, maxLen]), hb⟩
  refine ⟨[.int .i64 0, .slice (some ⟨W.heap.size + 1 + 1 + 1, 0, none⟩) 3 3], [.int .i64 0, .slice (some ⟨W.heap.size + 1 + 1 + 1 + 1, 0, none⟩) 2 2], rfl, rd_rule (r := ⟨0, [⟨true, 0⟩, ⟨false, 0⟩, ⟨true, 1⟩]⟩) ?_, RdAll.one (rd_rule (r := ⟨0, [⟨true, 0⟩, ⟨true, 1⟩]⟩) ?_)⟩
  · exact rd_block (ds := [⟨true, 0⟩, ⟨false, 0⟩, ⟨true, 1⟩].map Sym.d) h3 (syms_lit [⟨true, 0⟩, ⟨false, 0⟩, ⟨true, 1⟩] _ rfl) trivial (by simp [maxLen])
  · exact rd_block (ds := [⟨true, 0⟩, ⟨true, 1⟩].map Sym.d) h4 (syms_lit [⟨true, 0⟩, ⟨true, 1⟩] _ rfl) trivial (by simp [maxLen])
end Rp
end Go.Proofs.Ytjpmebppdcclbaa
namespace Go.Proofs.Ytjpmebppdcclbaa
open Go.RowKit
namespace Hl
open Rp Al
def hG : Gram := ⟨2, 1, 0, pK⟩
theorem hG_ok : checkG hG = 0 := by decide
theorem anyE (W : World) : Calls Try.prog 18 #[] W fun e w' => e = .returned (.agg #[.bool true, .int .i64 (-1)]) ∧ Below W.heap.size W w' := by
  go_enter Try.func18, Try.ntmps18
  go_wp2
  exact bodyPost_ret (v := .agg #[.bool true, .int .i64 (-1)]) (by simp [results, Try.results18, go_sem]) rfl ⟨rfl, (Below.refl _ _).alloc (Nat.le_refl _) _⟩
theorem kg_of {g : Gram} (h : checkG g = 0) : ∃ N tm st : Nat, Cs.OkC g N ∧ g.nons = (N : Int) ∧ N ≤ 10 ∧ g.terms = (tm : Int) ∧ tm ≤ 8 ∧ g.start = (st : Int) ∧ st < N ∧ KG N g.rules (okS N tm) ∧ ∀ r ∈ g.rules, r.right.length ≤ 4 := by
  obtain ⟨N, hok⟩ := Cs.okC_of h
  obtain ⟨⟨h1, h2, h3, h4, h5, h6⟩, _, h7⟩ := checkG_zero h
  have hn := hok.nons
  refine ⟨N, g.terms.toNat, g.start.toNat, hok, hn, by omega, by omega, by omega, by omega, by omega, fun r hr => ?_, fun r hr => (h7 r hr).2.2.1⟩
  obtain ⟨q1, q2, q3, q4⟩ := h7 r hr
  refine ⟨q1, by omega, fun s hs => ?_⟩
  have := q4 s hs
  unfold hasS at this
  unfold okS
  cases ht : s.term with
  | true =>
    rw [ht] at this
    simp at this
    exact ⟨this.1, fun _ => by omega, fun e => by cases e⟩
  | false =>
    rw [ht] at this
    simp at this
    exact ⟨this.1, (fun e => by cases e), fun _ => by omega⟩
theorem pat_zero {g : Gram} {l : List Sym} (h : patF g l = 0) : checkG g = 0 ∧ l.length ≤ 12 ∧ ∀ N tm : Nat, g.nons = (N : Int) → g.terms = (tm : Int) → ∀ c ∈ l, cellOk N tm c := by
  unfold patF at h
  by_cases h1 : checkG g = 0
  · rw [if_neg (by simpa using h1)] at h
    by_cases h2 : 12 < l.length
    · rw [if_pos h2] at h; cases h
    · rw [if_neg h2] at h
      refine ⟨h1, by omega, fun N tm hN ht c hc => ?_⟩
      by_cases h3 : l.any (badS g) = true
      · rw [if_pos h3] at h; cases h
      · have hb : badS g c = false := by
          cases e : badS g c with
          | false => rfl
          | true => exact absurd (List.any_eq_true.2 ⟨c, hc, e⟩) h3
        obtain ⟨ct, cn⟩ := c
        unfold badS hasS at hb
        unfold cellOk
        rw [hN, ht] at hb
        cases ct with
        | true =>
          simp at hb
          refine ⟨fun _ => ?_, fun e => by cases e⟩
          show cn < (tm : Int)
          by_cases e : cn = -1
          · omega
          · by_cases h5 : 0 ≤ cn
            · by_cases h6 : cn < (tm : Int)
              · exact h6
              · exact absurd (hb (.inr (by omega))) e
            · exact absurd (hb (.inl (by omega))) e
        | false =>
          simp at hb
          exact ⟨(fun e => by cases e), fun _ => hb⟩
  · rw [if_pos h1] at h; exact absurd h h1
section
variable (g : Gram) (l : List Sym) (ga : Option Addr) (gc : Nat) (la : Option Addr) (lk : Nat) (W : World) (hgr : Rd AnyB W (.sl (g.rules.map Rule.d)) [.slice ga g.rules.length gc]) (hrl : Rd AnyB W (.sl (l.map Sym.d)) [.slice la l.length lk])
include hgr hrl
end
end Hl
end Go.Proofs.Ytjpmebppdcclbaa
