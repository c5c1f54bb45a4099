/- useful.lengths: the least lengths. -/
import Derived.Test.YtjpmebppdcclbaaJHoleTellsRow11
import Derived.Test.YtjpmebppdcclbaaJHoleTellsRow10
namespace Go.Proofs.Ytjpmebppdcclbaa
open Go.RowKit
namespace Cs
structure LTb (rules : List Rule) (N : Nat) (W0 : World) (p : Nat) (X : Nat → Int) (wr : World) : Prop where
  row : Vrow 3 p N (fun A => .int .i64 (X A)) wr
  snd : SoundV rules X
  bd : BdV X N
  bel : Below W0.heap.size W0 wr
  lo : W0.heap.size ≤ p
section
variable {rules : List Rule} {N p : Nat} {W0 wr w' : World} {X X' : Nat → Int}
theorem LTb.keep (h : LTb rules N W0 p X wr) (hb : Below wr.heap.size wr w') : LTb rules N W0 p X w' := ⟨h.row.keep hb, h.snd, h.bd, h.bel.trans (hb.mono h.bel.size), h.lo⟩
theorem LTb.set (h : LTb rules N W0 p X wr) {A : Nat} {v : Int} (hA : A < N) (hs : SoundV rules (setV X A v)) (hb : BdV (setV X A v) N) : LTb rules N W0 p (setV X A v) (wr.setCell ⟨p, A, none⟩ (.int .i64 v)) :=
  ⟨h.row.set hA (fun k _ => by unfold setV; split <;> rfl), hs, hb, h.bel.setCell (p := ⟨p, A, none⟩) h.lo _, h.lo⟩
def ClosedTo (rules : List Rule) (i : Nat) (X : Nat → Int) : Prop := ∀ r ∈ rules.take i, 0 ≤ sumV X r.right → 0 ≤ X r.left.toNat ∧ X r.left.toNat ≤ sumV X r.right
theorem closedTo_next {i : Nat} (hi : i < rules.length) (h : ClosedTo rules i X) (hr : 0 ≤ sumV X rules[i].right → 0 ≤ X rules[i].left.toNat ∧ X rules[i].left.toNat ≤ sumV X rules[i].right) : ClosedTo rules (i + 1) X := by
  intro r hm
  rw [List.take_succ_eq_append_getElem hi, List.mem_append] at hm
  rcases hm with hm | hm
  · exact h r hm
  · simp at hm; subst hm; exact hr
end
def LnPost (rules : List Rule) (N : Nat) (w : World) (e : Ending) (w' : World) : Prop :=
  ∃ p X, e = .returned (.slice (some ⟨p, 0, none⟩) N N) ∧ Vrow 3 p N (fun A => .int .i64 (X A)) w' ∧ LeastV rules N X ∧ w.heap.size ≤ p ∧ Below w.heap.size w w'
set_option maxHeartbeats 8000000 in
set_option maxRecDepth 100000 in
theorem lengthsE (g : Gram) (N : Nat) (hok : OkC g N) (hr4 : ∀ r ∈ g.rules, r.right.length ≤ 4) (ra : Option Addr) (rcap : Nat) (w : World) (hr : Rd AnyB w (.sl (g.rules.map Rule.d)) [.slice ra g.rules.length rcap]) :
    Calls Try.prog 100 #[.agg #[.int .i64 g.terms, .int .i64 g.nons, .int .i64 g.start, .slice ra g.rules.length rcap]] w (LnPost g.rules N w) := by
  have hN1 := hok.n1
  have hN2 := hok.n2
  have HGR := Lib.hid hok.r
  have HLF := Lib.hid hok.l
  have H4 := Lib.hid hr4
  have HL0 : Hid (∀ r ∈ g.rules, 0 ≤ r.left) := fun r hr => (hok.l r hr).1
  have hnn := hok.nons
  rw [hnn]
  obtain ⟨w0, HW0⟩ := nameIt (w.alloc (.cells #[.int .i64 g.terms, .int .i64 (N : Int), .int .i64 g.start, .slice ra g.rules.length rcap] 24))
  have hb0 : Below w.heap.size w w0 := by rw [← HW0.out]; exact (Below.refl _ _).alloc (Nat.le_refl _) _
  have X0 : Hid (w0.heap[w.heap.size]? = some (.cells #[.int .i64 g.terms, .int .i64 (N : Int), .int .i64 g.start, .slice ra g.rules.length rcap] 24 (0, 0))) := by rw [← HW0.out]; exact bx_new _ _ _ rfl
  have HRD := Lib.hid (hr.below hb0)
  obtain ⟨PST, HP⟩ := nameIt (LnPost g.rules N w)
  rw [HP.out]
  have HFIN : Hid (∀ p X w', LTb g.rules N w0 p X w' → ClosedV g.rules X → PST (.returned (.slice (some ⟨p, 0, none⟩) N N)) w') := by
    intro p X w' h1 h2
    rw [← HP.out]
    exact ⟨p, X, rfl, h1.row, closed_least h1.snd HL0.out h2 N, Nat.le_trans hb0.size h1.lo, hb0.trans (h1.bel.mono hb0.size)⟩
  have hbs := hr.bounds.2
  unfold maxLen at hbs
  obtain ⟨hcv1, hcv2⟩ := hbs
  obtain ⟨gt, HGT⟩ := nameIt g.terms
  obtain ⟨gs, HGS⟩ := nameIt g.start
  obtain ⟨rl, HRL⟩ := nameIt g.rules.length
  rw [HGT.out, HGS.out, HRL.out] at HW0 X0
  rw [HRL.out] at HRD hcv1
  rw [HGT.out, HGS.out, HRL.out]
  have HREP : Hid (∀ W a c, Sl W (.slice a 1 c) (ints [-1]) → Calls Try.prog 113 #[.slice a 1 c, .int .i64 (N : Int)] W fun e w' => ∃ p, e = .returned (.slice (some ⟨p, 0, none⟩) N N) ∧ Vrow 3 p N (fun _ => .int .i64 (-1)) w' ∧ W.heap.size ≤ p ∧ Below W.heap.size W w') := fun W a c h => repE N hN1 (by omega) (-1) a c W h
  obtain ⟨gb, HGBN⟩ := nameIt w.heap.size
  rw [HGBN.out] at X0
  obtain ⟨x0, x1, x2, x3⟩ := bx_cells4 X0.out
  clear hb0 hr HP hok hr4 hnn
  go_enter Try.func100, Try.ntmps100
  go_upto_region 1 with fail
  rw [HW0.out, HGBN.out]
  have hb1 : Below w0.heap.size w0 (w0.alloc (.cells #[.int .i64 (-1)] 3)) := (Below.refl _ _).alloc (Nat.le_refl _) _
  have Z1 : Hid ((w0.alloc (.cells #[.int .i64 (-1)] 3)).heap[w0.heap.size]? = some (.cells #[.int .i64 (-1)] 3 (0, 0))) := bx_new _ _ _ rfl
  have hs1 : Sl (w0.alloc (.cells #[.int .i64 (-1)] 3)) (.slice (some ⟨w0.heap.size, 0, none⟩) 1 1) (ints [-1]) := by
    refine ⟨some ⟨w0.heap.size, 0, none⟩, 1, rfl, by simp [ints], by unfold maxLen; omega, (fun h => by cases h), fun i hi => ⟨_, rfl, ?_⟩⟩
    simp [ints] at hi
    subst hi
    simp [ints, Addr.add]
  have HR1 := Lib.hid (HREP.out _ _ _ hs1)
  obtain ⟨y0, y1, y2, y3⟩ := bx_cells4 (bx_keep X0.out hb1)
  clear x0 x1 x2 x3 hs1 HREP Z1
  go_wp2_with fail
  with_reducible refine HR1.out.mono ?_
  rintro e w2 ⟨p, rfl, hv2, hp2, hb2⟩
  have HB2 : Hid (Below w0.heap.size w0 w2) := hb1.trans (hb2.mono hb1.size)
  have HPL : Hid (w0.heap.size ≤ p) := Nat.le_trans hb1.size hp2
  have HL2 : Hid (LTb g.rules N w0 p (fun _ => -1) w2) := ⟨hv2, sound_start, bd_start, HB2.out, HPL.out⟩
  clear hv2 hp2 hb2 hb1 HR1 y0 y1 y2 y3 HB2
  go_wp2_with fail
  go_loopg [4] (muV (fun _ => -1) N + 1) (fun gg v4 wr => ∃ (ag : Bool) (X : Nat → Int), v4 = .bool ag ∧ (ag = true → muV X N + 1 ≤ gg) ∧ Hid (LTb g.rules N w0 p X wr) ∧ Hid (ag = false → ClosedV g.rules X))
  case atStart => exact ⟨true, fun _ => -1, rfl, (fun _ => Nat.le_refl _), HL2, (fun e => by cases e)⟩
  case round =>
    clear HL2
    obtain ⟨ag, X, rfl, hgg, HL, HAG⟩ := hrel
    obtain ⟨w3, rfl⟩ : ∃ ww : World, ww = wr := ⟨_, rfl⟩
    cases ag with
    | false =>
      have HE := Lib.hid (HFIN.out p X w3 HL.out (HAG.out rfl))
      clear hgg HAG
      go_wp2_with fail
      exact HE.out
    | true =>
      have hgg' := hgg rfl
      obtain ⟨mu, HMU⟩ := nameIt (muV X N)
      rw [HMU.out] at hgg'
      obtain ⟨x0, x1, x2, x3⟩ := bx_cells4 (bx_keep X0.out HL.out.bel)
      have HC0 : Hid (ClosedTo g.rules 0 X) := fun r hr => by simp at hr
      clear hgg HAG
      go_wp2_with fail
      clear x0 x1 x2 x3
      go_loopg [4, 19] rl (fun gg v4 v19 wr => ∃ (i : Nat) (Y : Nat → Int) (b : Bool), i ≤ rl ∧ rl - i ≤ gg ∧ v4 = .bool b ∧ v19 = .int .i64 i ∧ Hid (LTb g.rules N w0 p Y wr) ∧ Hid (b = false → Y = X ∧ ClosedTo g.rules i X) ∧ Hid (b = true → muV Y N < mu))
      case atStart => exact ⟨0, X, false, by omega, by omega, rfl, rfl, HL, (fun _ => ⟨rfl, HC0.out⟩), (fun e => by cases e)⟩
      case round =>
        clear HL HC0
        obtain ⟨i, Y, b, hi, hg2, rfl, rfl, HL, HC, HM⟩ := hrel
        obtain ⟨w4, rfl⟩ : ∃ ww : World, ww = wr := ⟨_, rfl⟩
        by_cases hlt : i < rl
        · have hlt' : (i : Int) < (rl : Int) := by omega
          have hi0 : (0 : Int) ≤ (i : Int) := by omega
          have hix : i < g.rules.length := by rw [HRL.out]; exact hlt
          obtain ⟨rbk, ro, rv, hae, -, hrb, r0, r1, hrr⟩ := HRD.out.rule_at hix
          obtain ⟨ar, cr, rfl, hcr1, hcr2⟩ := hrr.form
          rw [List.length_map] at r1 hrr hcr1
          unfold maxLen at hcr2
          have HRR := Lib.hid hrr
          have t0 := (HL.out.bel.cell (lt_of_cell r0)).trans r0
          have t1 := (HL.out.bel.cell (lt_of_cell r1)).trans r1
          have HOKR := Lib.hid (HGR.out _ (List.getElem_mem hix))
          have HOKL := Lib.hid (HLF.out _ (List.getElem_mem hix))
          have hr4 := H4.out _ (List.getElem_mem hix)
          have HMEM := Lib.hid (List.getElem_mem hix)
          have HNX : Hid (ClosedTo g.rules i X → (0 ≤ sumV X g.rules[i].right → 0 ≤ X g.rules[i].left.toNat ∧ X g.rules[i].left.toNat ≤ sumV X g.rules[i].right) → ClosedTo g.rules (i + 1) X) := fun h1 h2 => closedTo_next hix h1 h2
          obtain ⟨r, HRN⟩ := nameIt (g.rules[i]'hix)
          rw [HRN.out] at t0 t1 HRR HOKR HOKL hcr1 hr4 HMEM HNX
          obtain ⟨rt, HRT⟩ := nameIt r.right
          rw [HRT.out] at t1 HRR HOKR hcr1 hr4 HNX
          obtain ⟨rn, HRNL⟩ := nameIt rt.length
          rw [HRNL.out] at t1 HRR hcr1 hr4
          obtain ⟨A, hA⟩ : ∃ A : Nat, r.left = (A : Int) := ⟨r.left.toNat, by have := HOKL.out.1; omega⟩
          have hAN : A < N := by have := HOKL.out.2; rw [hA] at this; simpa using this
          have HAL : Hid (r.left = (A : Int)) := hA
          rw [hA] at t0
          have HLEFT : Hid (r.left.toNat = A) := by show _ = _; rw [hA]; simp
          rw [HLEFT.out] at HNX
          obtain ⟨w5, HW5⟩ := nameIt (w4.alloc (.cells #[.int .i64 (A : Int), .slice ar rn cr] 69))
          have hb5 : Below w4.heap.size w4 w5 := by rw [← HW5.out]; exact (Below.refl _ _).alloc (Nat.le_refl _) _
          have HL5 := Lib.hid (HL.out.keep hb5)
          have Y5 : Hid (w5.heap[w4.heap.size]? = some (.cells #[.int .i64 (A : Int), .slice ar rn cr] 69 (0, 0))) := by rw [← HW5.out]; exact bx_new _ _ _ rfl
          have HPW : Hid (p < w4.heap.size) := HL.out.row.lt
          obtain ⟨rbx, HRBX⟩ := nameIt w4.heap.size
          rw [HRBX.out] at Y5 HPW
          have HSG : Hid (∀ j, -1 ≤ sumV Y (rt.take j) ∧ sumV Y (rt.take j) ≤ 4194304) := fun j => ⟨sum_ge _, sum_le HL.out.bd hN2 (by rw [List.length_take]; rw [← HRNL.out] at hr4; omega)⟩
          have HXB : Hid (∀ B, -1 ≤ Y B ∧ Y B ≤ 1048576) := fun B => ⟨(HL.out.snd B).1, HL.out.bd.le hN2 B⟩
          subst hae
          clear hrr r0 r1 hA hb5
          go_upto_region 8 with fail
          rw [HW5.out, HRBX.out]
          clear t0 t1 HW5 HRBX HL
          obtain ⟨y0, y1⟩ := bx_cells2 Y5.out
          go_wp2_with fail
          clear y0 y1
          go_loopg [7, 26] rn (fun gg v7 v26 wr => ∃ (j : Nat), j ≤ rn ∧ rn - j ≤ gg ∧ v7 = .int .i64 (sumV Y (rt.take j)) ∧ v26 = .int .i64 j ∧ Hid (LTb g.rules N w0 p Y wr) ∧ Hid (wr.heap[rbx]? = some (.cells #[.int .i64 (A : Int), .slice ar rn cr] 69 (0, 0))))
          case atStart => exact ⟨0, by omega, by omega, rfl, rfl, HL5, Y5⟩
          case round =>
            clear HL5 Y5
            obtain ⟨j, hj, hg3, rfl, rfl, HL5, Y5⟩ := hrel
            obtain ⟨w6, rfl⟩ : ∃ ww : World, ww = wr := ⟨_, rfl⟩
            by_cases hjm : j < rn
            · have hjm' : (j : Int) < (rn : Int) := by omega
              have hj0 : (0 : Int) ≤ (j : Int) := by omega
              have hjx : j < rt.length := by rw [HRNL.out]; exact hjm
              obtain ⟨sb, so, hae, -, hsb, s0, s1⟩ := (show Rd AnyB w0 (.sl (rt.map Sym.d)) [.slice ar rt.length cr] by rw [HRNL.out]; exact HRR.out).sym_at hjx
              have u0 := (HL5.out.bel.cell (lt_of_cell s0)).trans s0
              have u1 := (HL5.out.bel.cell (lt_of_cell s1)).trans s1
              have HSN : Hid (sumV Y (rt.take (j + 1)) = stepV Y (sumV Y (rt.take j)) rt[j]) := by show _ = _; rw [List.take_succ_eq_append_getElem hjx, stepV_snoc]
              have HOS := Lib.hid (HOKR.out _ (List.getElem_mem hjx))
              have hg1 := HSG.out j
              have hg2' := HSG.out (j + 1)
              obtain ⟨⟨st, sn⟩, HSY⟩ := nameIt (rt[j]'hjx)
              rw [HSY.out] at u0 u1 HSN HOS
              obtain ⟨sj, HSJ⟩ := nameIt (sumV Y (rt.take j))
              obtain ⟨sk, HSK⟩ := nameIt (sumV Y (rt.take (j + 1)))
              rw [HSJ.out] at HSN hg1
              rw [HSK.out] at HSN hg2'
              rw [HSJ.out]
              simp only at u0 u1
              obtain ⟨w7, HW7⟩ := nameIt (w6.alloc (.cells #[.bool st, .int .i64 sn] 44))
              have hb7 : Below w6.heap.size w6 w7 := by rw [← HW7.out]; exact (Below.refl _ _).alloc (Nat.le_refl _) _
              have HL7 := Lib.hid (HL5.out.keep hb7)
              have Y7 := Lib.hid (bx_keep Y5.out hb7)
              have S7 : Hid (w7.heap[w6.heap.size]? = some (.cells #[.bool st, .int .i64 sn] 44 (0, 0))) := by rw [← HW7.out]; exact bx_new _ _ _ rfl
              subst hae
              clear s0 s1 hb7
              go_upto_region 13 with fail
              rw [HW7.out]
              clear u0 u1 HW7
              obtain ⟨z0, z1⟩ := bx_cells2 S7.out
              have HFN : Hid (Value.int .i64 sk = .int .i64 (sumV Y (rt.take (j + 1)))) := by show _ = _; rw [HSK.out]
              by_cases hs0 : 0 ≤ sj
              · cases st with
                | true =>
                  have hw : IntKind.i64.wrap (sj + 1) = sk := by
                    have : sk = sj + 1 := by rw [HSN.out]; unfold stepV; rw [if_pos hs0]; rfl
                    rw [IntWalk.i64_in _ (by omega)]; exact this.symm
                  go_wp2_with fail
                  go_roundg (rn - (j + 1))
                  case measure => omega
                  case rel => exact ⟨j + 1, by omega, by omega, HFN.out, by go_num, HL7, Y7⟩
                | false =>
                  obtain ⟨hq1, hq2⟩ := HOS.out rfl
                  simp only at hq1 hq2
                  obtain ⟨B, rfl⟩ : ∃ B : Nat, sn = (B : Int) := ⟨sn.toNat, by omega⟩
                  rw [Int.toNat_natCast] at hq2
                  have hB0 : (0 : Int) ≤ (B : Int) := by omega
                  have hB1 : (B : Int) < (N : Int) := by omega
                  have q0 := HL7.out.row.cell hq2
                  have hyb := HXB.out B
                  have HST : Hid (sk = if 0 ≤ Y B then sj + Y B else -1) := by show _ = _; rw [HSN.out]; unfold stepV; rw [if_pos hs0]; rfl
                  obtain ⟨yb, HYB⟩ := nameIt (Y B)
                  rw [HYB.out] at q0 hyb HST
                  by_cases hy : 0 ≤ yb
                  · have hw : IntKind.i64.wrap (sj + yb) = sk := by
                      have : sk = sj + yb := by rw [HST.out, if_pos hy]
                      rw [IntWalk.i64_in _ (by omega)]; exact this.symm
                    go_wp2_with fail
                    go_roundg (rn - (j + 1))
                    case measure => omega
                    case rel => exact ⟨j + 1, by omega, by omega, HFN.out, by go_num, HL7, Y7⟩
                  · have hsk : sk = -1 := by rw [HST.out, if_neg hy]
                    have hy' : yb < 0 := by omega
                    rw [hsk] at HFN
                    go_wp2_with fail
                    go_roundg (rn - (j + 1))
                    case measure => omega
                    case rel => exact ⟨j + 1, by omega, by omega, HFN.out, by go_num, HL7, Y7⟩
              · have hsk : sk = -1 := by rw [HSN.out]; unfold stepV; rw [if_neg hs0]
                have hs0' : sj < 0 := by omega
                rw [hsk] at HFN
                cases st <;> (
                  go_wp2_with fail
                  go_roundg (rn - (j + 1))
                  case measure => omega
                  case rel => exact ⟨j + 1, by omega, by omega, HFN.out, by go_num, HL7, Y7⟩)
            · have hjm' : ¬ (j : Int) < (rn : Int) := by omega
              have hjt : rt.take j = rt := List.take_of_length_le (by rw [HRNL.out]; omega)
              rw [hjt]
              have hg1 := HSG.out j
              rw [hjt] at hg1
              have HSUM : Hid (Y = X → sumV Y rt = sumV X rt) := fun e => by rw [e]
              have HDV : Hid (0 ≤ sumV Y rt → Dv g.rules A (sumV Y rt).toNat) := fun h => dv_rule HMEM.out HAL.out (by rw [HRT.out]; exact sum_dl HL5.out.snd h)
              have HBD4 : Hid (sumV Y rt ≤ 4 * ((4 ^ nset Y N : Nat) : Int)) := sum_bd HL5.out.bd (by rw [HRNL.out]; exact hr4)
              obtain ⟨sm, HSM⟩ := nameIt (sumV Y rt)
              rw [HSM.out] at hg1 HSUM HDV HBD4
              rw [HSM.out]
              have q0 := HL5.out.row.cell hAN
              have qf := HL5.out.row.free A
              have hyb := HXB.out A
              have HYA : Hid (Y = X → Y A = X A) := fun e => by rw [e]
              have HSET : Hid (0 ≤ sm → (Y A < 0 ∨ sm < Y A) → LTb g.rules N w0 p (setV Y A sm) (w6.setCell ⟨p, A, none⟩ (.int .i64 sm)) ∧ muV (setV Y A sm) N < muV Y N) := by
                intro h1 h2
                have hv : sm < Y A ∨ (Y A < 0 ∧ sm ≤ 4 * ((4 ^ nset Y N : Nat) : Int)) := by
                  have := HBD4.out
                  rcases h2 with h2 | h2
                  · exact .inr ⟨h2, this⟩
                  · exact .inl h2
                exact ⟨HL5.out.set hAN (setV_sound HL5.out.snd h1 (HDV.out h1)) (bdV_set HL5.out.bd hAN h1 hv), mu_set hN2 hAN h1 hv⟩
              have HMUL : Hid (b = true → muV Y N < mu) := HM.out
              have HMUE : Hid (muV Y N ≤ mu) := by
                show muV Y N ≤ mu
                cases b with
                | true => exact Nat.le_of_lt (HM.out rfl)
                | false => rw [(HC.out rfl).1, HMU.out]; exact Nat.le_refl _
              have hA0 : (0 : Int) ≤ (A : Int) := by omega
              have hA1 : (A : Int) < (N : Int) := by omega
              obtain ⟨y0, y1⟩ := bx_cells2 Y5.out
              obtain ⟨ya, HYAN⟩ := nameIt (Y A)
              rw [HYAN.out] at q0 hyb HYA HSET
              have hnpr : ¬ p = rbx := by have := HPW.out; omega
              have hnrp : ¬ rbx = p := fun h => hnpr h.symm
              by_cases hs0 : 0 ≤ sm
              · by_cases hset : ya < 0 ∨ sm < ya
                · obtain ⟨hl8, hm8⟩ := HSET.out hs0 hset
                  have HL8 := Lib.hid hl8
                  have HM8 : Hid (muV (setV Y A sm) N < mu) := Nat.lt_of_lt_of_le hm8 HMUE.out
                  clear hl8 hm8
                  by_cases hy : ya < 0
                  · go_wp2_with fail
                    go_roundg (rl - (i + 1))
                    case measure => omega
                    case rel => exact ⟨i + 1, setV Y A sm, true, by omega, by omega, rfl, by go_num, HL8, (fun e => by cases e), (fun _ => HM8.out)⟩
                  · have hlt2 : sm < ya := by omega
                    go_wp2_with fail
                    go_roundg (rl - (i + 1))
                    case measure => omega
                    case rel => exact ⟨i + 1, setV Y A sm, true, by omega, by omega, rfl, by go_num, HL8, (fun e => by cases e), (fun _ => HM8.out)⟩
                · have hy : ¬ ya < 0 := by omega
                  have hlt2 : ¬ sm < ya := by omega
                  have HCN : Hid (b = false → Y = X ∧ ClosedTo g.rules (i + 1) X) := by
                    intro e
                    obtain ⟨h1, h2⟩ := HC.out e
                    refine ⟨h1, HNX.out h2 (fun _ => ?_)⟩
                    rw [← HSUM.out h1, ← HYA.out h1]
                    omega
                  go_wp2_with fail
                  go_roundg (rl - (i + 1))
                  case measure => omega
                  case rel => exact ⟨i + 1, Y, b, by omega, by omega, rfl, by go_num, HL5, HCN, HM⟩
              · have hs0' : sm < 0 := by omega
                have HCN : Hid (b = false → Y = X ∧ ClosedTo g.rules (i + 1) X) := by
                  intro e
                  obtain ⟨h1, h2⟩ := HC.out e
                  refine ⟨h1, HNX.out h2 (fun h => ?_)⟩
                  rw [← HSUM.out h1] at h
                  omega
                go_wp2_with fail
                go_roundg (rl - (i + 1))
                case measure => omega
                case rel => exact ⟨i + 1, Y, b, by omega, by omega, rfl, by go_num, HL5, HCN, HM⟩
        · have hlt' : ¬ (i : Int) < (rl : Int) := by omega
          have HCE : Hid (b = false → ClosedV g.rules Y) := by
            intro e
            obtain ⟨h1, h2⟩ := HC.out e
            intro q hq
            rw [h1]
            exact h2 q (by rw [List.take_of_length_le (by rw [HRL.out]; omega)]; exact hq)
          have HMM : Hid (b = true → muV Y N + 1 ≤ mu) := HM.out
          go_wp2_with fail
          go_roundg mu
          case measure => omega
          case rel => exact ⟨b, Y, rfl, HMM.out, HL, HCE⟩
end Cs
end Go.Proofs.Ytjpmebppdcclbaa
