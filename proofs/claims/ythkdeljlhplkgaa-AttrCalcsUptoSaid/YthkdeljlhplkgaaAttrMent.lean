/- The contract of the reference's Mentioned. -/
import Derived.Test.YthkdeljlhplkgaaAttrIns
import Derived.Test.YthkdeljlhplkgaaAttrRefIdx
import Derived.Test.YthkdeljlhplkgaaAttrExprs
import Derived.BigQuiet
import Derived.Deep.CutBlock
namespace Go.Proofs.Ythkdeljlhplkgaa
open Go.RowKit
namespace At

def ltR (z r : Ref) : Bool := decide (z.at' < r.at' ∨ (z.at' = r.at' ∧ z.attr < r.attr))
def posR (L : List Ref) (r : Ref) : Nat := L.findIdx fun z => !ltR z r
def insR (L : List Ref) (r : Ref) : List Ref := L.take (posR L r) ++ r :: L.drop (posR L r)
def mentStep (L : List Ref) (y : Expr) : List Ref := if y.kind ≠ 1 ∨ y.ref ∈ L then L else insR L y.ref
def mentS (x : Expr) : List Ref := (enodes x).foldl mentStep []
theorem posR_le (L : List Ref) (r : Ref) : posR L r ≤ L.length := List.findIdx_le_length
theorem posR_at {L : List Ref} {r : Ref} {i : Nat} (hi : i ≤ L.length) (h1 : ∀ j (h : j < L.length), j < i → ltR L[j] r = true) (h2 : ∀ h : i < L.length, ltR L[i] r = false) : posR L r = i := by
  unfold posR
  rcases Nat.lt_or_ge i L.length with hlt | hge
  · rw [List.findIdx_eq hlt]
    exact ⟨by simp [h2 hlt], fun j hj => by simp [h1 j (by omega) hj]⟩
  · have e : i = L.length := by omega
    rw [e, List.findIdx_eq_length]
    intro z hz
    obtain ⟨j, hj, rfl⟩ := List.getElem_of_mem hz
    simp [h1 j hj (by omega)]
theorem insR_len (L : List Ref) (r : Ref) : (insR L r).length = L.length + 1 := by
  unfold insR
  have := posR_le L r
  simp [List.length_take, List.length_drop]
  omega
theorem mentStep_len (L : List Ref) (y : Expr) : (mentStep L y).length ≤ L.length + 1 := by
  unfold mentStep
  split
  · omega
  · rw [insR_len]; exact Nat.le_refl _
theorem ment_take {N : List Expr} {k : Nat} (h : k < N.length) : (N.take (k + 1)).foldl mentStep [] = mentStep ((N.take k).foldl mentStep []) N[k] := by
  rw [List.take_succ_eq_append_getElem h, List.foldl_append]; rfl
theorem ment_len (N : List Expr) : ∀ k, ((N.take k).foldl mentStep []).length ≤ k := by
  intro k
  induction k with
  | zero => simp
  | succ k ih =>
    rcases Nat.lt_or_ge k N.length with h | h
    · rw [ment_take h]; exact Nat.le_trans (mentStep_len _ _) (by omega)
    · rw [List.take_of_length_le (by omega)] at ih ⊢; omega
/-- the rounds -/
structure MnI (w2 : World) (B : Nat) (L : List Ref) (u : Value) (wr : World) : Prop where
  own : wr.ownsRow B 30 2 u L.length (refC L)
  bel : Below w2.heap.size w2 wr
theorem MnI.keep {w2 : World} {B : Nat} {L : List Ref} {u : Value} {wr w' : World} (h : MnI w2 B L u wr) (hb : Below wr.heap.size wr w') : MnI w2 B L u w' := ⟨own_keep h.own hb, h.bel.trans (hb.mono h.bel.size)⟩
theorem MnI.rd {w2 : World} {B : Nat} {L : List Ref} {u : Value} {wr : World} (h : MnI w2 B L u wr) : Rd AnyB wr (.sl (L.map Ref.d)) [u] := rd_of_own h.own (rdAll_refs L) (by simp) (fun _ _ => trivial)
def MentPost (x : Expr) (w : World) (e : Ending) (w' : World) : Prop := ∃ v, e = .returned v ∧ Rd AnyB w' (.sl ((mentS x).map Ref.d)) [v] ∧ Below w.heap.size w w'

set_option maxHeartbeats 8000000 in
set_option maxRecDepth 100000 in
theorem mentE (x : Expr) (v : Value) (w : World) (hbig : x.size ≤ 100000) (hv : Rd AnyB w (.sl (x.args.map Expr.d)) [v]) :
    Calls Try.prog 11 #[.agg #[.int .i64 x.kind, .int .i64 x.n, .int .i64 x.ref.at', .int .i64 x.ref.attr, v]] w (MentPost x w) := by
  obtain ⟨a, cap, rfl, hc1, hc2⟩ := hv.form
  rw [List.length_map] at hc1 hv ⊢
  unfold maxLen at hc2
  obtain ⟨w0, HW0⟩ := nameIt (w.alloc (.cells #[.int .i64 x.kind, .int .i64 x.n, .int .i64 x.ref.at', .int .i64 x.ref.attr, .slice a x.args.length cap] 33))
  have HB0 : Hid (Below w.heap.size w w0) := by rw [← HW0.out]; exact (Below.refl _ _).alloc (Nat.le_refl _) _
  have X0 : Hid (w0.heap[w.heap.size]? = some (.cells #[.int .i64 x.kind, .int .i64 x.n, .int .i64 x.ref.at', .int .i64 x.ref.attr, .slice a x.args.length cap] 33 (0, 0))) := by rw [← HW0.out]; exact bx_new _ _ _ rfl
  have HXE := Lib.hid (exprsE (fun k => k < w0.heap.size) x.size x _ w0 (Nat.le_refl _) (by omega) (fun k h => h) ((hv.below HB0.out).mono (fun k _ h => h)))
  have HLE := Lib.hid (enodes_len x)
  have HFIN : Hid (∀ u W, Rd AnyB W (.sl (((enodes x).foldl mentStep []).map Ref.d)) [u] → Below w.heap.size w W → MentPost x w (.returned u) W) := fun u W h1 h2 => ⟨u, rfl, h1, h2⟩
  have HMT := Lib.hid (fun (k : Nat) (h : k < (enodes x).length) => @ment_take (enodes x) k h)
  have HML := Lib.hid (ment_len (enodes x))
  obtain ⟨q0, HQ0⟩ := nameIt x.kind
  obtain ⟨q1, HQ1⟩ := nameIt x.n
  obtain ⟨q2, HQ2⟩ := nameIt x.ref.at'
  obtain ⟨q3, HQ3⟩ := nameIt x.ref.attr
  obtain ⟨qn, HQN⟩ := nameIt x.args.length
  obtain ⟨sz, HSZ⟩ := nameIt x.size
  obtain ⟨N, HNN⟩ := nameIt (enodes x)
  rw [HQ0.out, HQ1.out, HQ2.out, HQ3.out, HQN.out] at HW0 X0 HXE ⊢
  rw [HNN.out, HSZ.out] at HLE
  rw [HNN.out] at HML HFIN
  simp only [HNN.out] at HMT
  rw [HSZ.out] at hbig
  obtain ⟨x0, x1, x2, x3, x4⟩ := bx_cells5 X0.out
  clear hv
  go_enter Try.func11, Try.ntmps11
  go_upto_region 1 with fail
  rw [HW0.out]
  go_wp2_with fail
  refine HXE.out.mono ?_
  rintro e w2 ⟨v2, xs2, rfl, ho2, hd2, hb2⟩
  rw [HSZ.out] at ho2
  rw [HNN.out] at hd2
  have HB2 : Hid (Below w.heap.size w w2) := HB0.out.trans (hb2.mono HB0.out.size)
  have HND : Hid (Rd AnyB w2 (.sl (N.map Expr.d)) [v2]) := rd_of_own ho2 hd2.any (by rw [List.length_map, HLE.out]) (fun _ _ => trivial)
  obtain ⟨a2, c2, rfl, -, -⟩ := own_len ho2
  have HI0 : Hid (MnI w2 w2.heap.size ((N.take 0).foldl mentStep []) (.slice none 0 0) w2) := ⟨World.ownsRow_nil _ _ _ _, Below.refl _ _⟩
  clear ho2 hd2 hb2 x0 x1 x2 x3 x4
  go_wp2_with fail
  go_loopg [3, 10] sz (fun gg v3 v10 wr => ∃ k : Nat, k ≤ sz ∧ sz - k ≤ gg ∧ v10 = .int .i64 k ∧ Hid (MnI w2 w2.heap.size ((N.take k).foldl mentStep []) v3 wr))
  case atStart => exact ⟨0, by omega, by omega, rfl, HI0⟩
  case round =>
    clear HI0
    obtain ⟨k, hk, hg, rfl, HI⟩ := hrel
    by_cases hlt : k < sz
    · have hlt' : (k : Int) < (sz : Int) := by omega
      have hkN : k < N.length := by rw [HLE.out]; exact hlt
      obtain ⟨wb, rfl⟩ : ∃ ww : World, ww = wr := ⟨_, rfl⟩
      obtain ⟨b, off, v, hae, -, hbl, e0, e1, e2, e3, e4, hkid⟩ := Rd.arg (HND.out.below HI.out.bel) hkN
      obtain ⟨av, cv, rfl, -, -⟩ := hkid.form
      rw [List.length_map] at e4 hkid
      have HST := Lib.hid (HMT.out k hkN)
      have hml := HML.out k
      obtain ⟨L, HL⟩ := nameIt ((N.take k).foldl mentStep [])
      rw [HL.out] at HI HST hml
      obtain ⟨y, HY⟩ := nameIt (N[k]'hkN)
      rw [HY.out] at e0 e1 e2 e3 e4 HST
      have HSM : Hid (mentStep L y = if y.kind ≠ 1 ∨ y.ref ∈ L then L else insR L y.ref) := rfl
      obtain ⟨w3, HW3⟩ := nameIt (wb.alloc (.cells #[.int .i64 y.kind, .int .i64 y.n, .int .i64 y.ref.at', .int .i64 y.ref.attr, .slice av y.args.length cv] 33))
      have hb3 : Below wb.heap.size wb w3 := by rw [← HW3.out]; exact (Below.refl _ _).alloc (Nat.le_refl _) _
      have X3 : Hid (w3.heap[wb.heap.size]? = some (.cells #[.int .i64 y.kind, .int .i64 y.n, .int .i64 y.ref.at', .int .i64 y.ref.attr, .slice av y.args.length cv] 33 (0, 0))) := by rw [← HW3.out]; exact bx_new _ _ _ rfl
      have HI3 := Lib.hid (HI.out.keep hb3)
      obtain ⟨ar, cr, hur, hr1, hr2⟩ := own_len HI3.out.own
      subst hur
      unfold maxLen at hr2
      have HCR := Lib.hid (containsRef L y.ref ar cr w3 (by have h := HI3.out.rd; exact h))
      have HRE : Hid (y.ref = ⟨y.ref.at', y.ref.attr⟩) := rfl
      have HINS := Lib.hid (fun (i : Nat) (hi : i ≤ L.length) (vb : Nat) (W : World) (h : MnI w2 w2.heap.size L (.slice ar L.length cr) W) (hvb : W.heap[vb]? = some (.cells #[.int .i64 y.ref.at', .int .i64 y.ref.attr] 30 (0, 0))) (hne : (Value.slice ar L.length cr).ownBlock ≠ some vb) => insertRef w2.heap.size L y.ref i hi (.slice ar L.length cr) vb W h.own hvb hne h.bel.size (by omega))
      have HLTR : Hid (∀ z : Ref, ltR z y.ref = decide (z.at' < y.ref.at' ∨ (z.at' = y.ref.at' ∧ z.attr < y.ref.attr))) := fun z => rfl
      have HPOS := Lib.hid (fun (i : Nat) (hi : i ≤ L.length) => @posR_at L y.ref i hi)
      have HINSR : Hid (insR L y.ref = L.take (posR L y.ref) ++ y.ref :: L.drop (posR L y.ref)) := rfl
      obtain ⟨p0, HP0⟩ := nameIt y.kind
      obtain ⟨p1, HP1⟩ := nameIt y.n
      obtain ⟨p2, HP2⟩ := nameIt y.ref.at'
      obtain ⟨p3, HP3⟩ := nameIt y.ref.attr
      obtain ⟨pn, HPN⟩ := nameIt y.args.length
      obtain ⟨rf, HRF⟩ := nameIt y.ref
      obtain ⟨ct, HCT⟩ := nameIt (decide (rf ∈ L))
      rw [HP0.out, HP1.out, HP2.out, HP3.out, HPN.out] at X3 HW3
      rw [HP0.out] at e0 HSM
      rw [HP1.out] at e1
      rw [HP2.out] at e2
      rw [HP3.out] at e3
      rw [HPN.out] at e4
      rw [HP2.out, HP3.out] at HCR
      rw [HRF.out, HCT.out] at HCR
      simp only [HP2.out, HP3.out] at HINS HLTR
      simp only [HRF.out] at HINS HLTR HPOS HINSR
      rw [HRF.out] at HSM
      obtain ⟨n, HLN⟩ := nameIt L.length
      have HLN' := Lib.hid HLN.out
      simp only [HLN.out] at HI3 HCR HINS HPOS
      rw [HLN.out] at hr1 hml
      have HBL3 : Hid (∀ j, (Value.slice ar n cr).ownBlock = some j → j < wb.heap.size) := fun j e => by
        have h := (HI.out.own.lt j (by rw [HLN.out]; exact e)).2
        exact h
      obtain ⟨x0, x1, x2, x3, x4⟩ := bx_cells5 X3.out
      subst hae
      clear hb3 hkid
      rw [HLN.out]
      go_upto_region 5 with fail
      rw [HW3.out]
      clear e0 e1 e2 e3 e4
      by_cases hk1 : p0 = 1
      · subst hk1
        go_wp2_with fail
        refine HCR.out.mono ?_
        rintro e w4 ⟨rfl, hb4⟩
        have HI4 : Hid (MnI w2 w2.heap.size L (.slice ar n cr) w4) := HI3.out.keep hb4
        have X4 := Lib.hid (bx_keep X3.out hb4)
        have HB34 := Lib.hid hb4
        clear hb4 x0 x1 x2 x3 x4
        cases ct with
        | true =>
          have hin : rf ∈ L := by simpa using HCT.out
          have HIN := Lib.hid hin
          clear hin
          have HEQ : Hid ((N.take (k + 1)).foldl mentStep [] = L) := by show _ = _; rw [HST.out, HSM.out, if_pos (.inr HIN.out)]
          go_wp2_with fail
          go_roundg (sz - (k + 1))
          case measure => omega
          case rel => exact ⟨k + 1, by omega, by omega, by go_num, by rw [HEQ.out]; exact HI4.out⟩
        | false =>
          have hin : ¬ rf ∈ L := by simpa using HCT.out
          have HEQ : Hid ((N.take (k + 1)).foldl mentStep [] = insR L rf) := by show _ = _; rw [HST.out, HSM.out, if_neg (by simpa using hin)]
          have HPL : Hid (posR L rf ≤ n) := by show _ ≤ _; rw [← HLN.out]; exact posR_le _ _
          have HJ0 : Hid (∀ j (h : j < L.length), j < 0 → ltR L[j] rf = true) := fun j _ h => by omega
          have HB44 := Lib.hid (Below.refl w4.heap.size w4)
          obtain ⟨ps, HPS⟩ := nameIt (posR L rf)
          rw [HPS.out] at HPL HINSR
          simp only [HPS.out] at HPOS
          clear hin
          go_upto_block 2 with fail
          go_cut [6] (fun t6 wx => t6 = .int .i64 (ps : Nat) ∧ Hid (Below w4.heap.size w4 wx))
          case first =>
            go_wp2_with fail
            go_loopg [6] n (fun gg v6 wr => ∃ i : Nat, i ≤ n ∧ n - i ≤ gg ∧ v6 = .int .i64 i ∧ Hid (∀ j (h : j < L.length), j < i → ltR L[j] rf = true) ∧ Hid (Below w4.heap.size w4 wr))
            case atStart => exact ⟨0, by omega, by omega, rfl, HJ0, HB44⟩
            case round =>
              clear HJ0 HB44
              obtain ⟨i, hi, hgi, rfl, HJ, HB5⟩ := hrel
              have hi0 : (0 : Int) ≤ (i : Int) := by omega
              by_cases hin : i < n
              · have hin' : decide ((i : Int) < (n : Int)) = true := by simpa using hin
                have hin2 : (i : Int) < (n : Int) := by omega
                have hiL : i < L.length := by rw [HLN.out]; exact hin
                obtain ⟨bz, oz, haz, -, -, c0, c1⟩ := Rd.ref_at (HI4.out.keep HB5.out).rd hiL
                have HLZ := Lib.hid (HLTR.out (L[i]'hiL))
                have HNX0 := Lib.hid (fun (h : ltR (L[i]'hiL) rf = true) => show ∀ j (h : j < L.length), j < i + 1 → ltR L[j] rf = true from fun j h1 h2 => by
                  by_cases e : j = i
                  · subst e; exact h
                  · exact HJ.out j h1 (by omega))
                have HPE0 := Lib.hid (fun (h : ltR (L[i]'hiL) rf = false) => HPOS.out i (by omega) (fun j h5 h6 => HJ.out j (by rw [HLN.out]; exact h5) h6) (fun _ => h))
                obtain ⟨z, HZ⟩ := nameIt (L[i]'hiL)
                rw [HZ.out] at c0 c1 HLZ
                simp only [HZ.out] at HNX0 HPE0
                obtain ⟨za, HZA⟩ := nameIt z.at'
                obtain ⟨zi, HZI⟩ := nameIt z.attr
                rw [HZA.out] at c0
                rw [HZI.out] at c1
                rw [HZA.out, HZI.out] at HLZ
                obtain ⟨x0, x1, x2, x3, x4⟩ := bx_cells5 (bx_keep X4.out HB5.out)
                subst haz
                by_cases h1 : za < p2
                · have h1' : decide (za < p2) = true := by simpa using h1
                  have HNX := Lib.hid (HNX0.out (by rw [HLZ.out]; exact decide_eq_true (.inl h1)))
                  clear h1
                  go_upto_region 7 with fail
                  go_quiet (fail)
                  go_wp2_with fail
                  go_roundg (n - (i + 1))
                  case measure => omega
                  case rel => exact ⟨i + 1, by omega, by omega, by go_num, HNX, HB5.out.trans ((below_drewN _ _).mono HB5.out.size)⟩
                · have h1' : decide (za < p2) = false := by simpa using h1
                  by_cases h2 : za = p2
                  · subst h2
                    by_cases h3 : zi < p3
                    · have h3' : decide (zi < p3) = true := by simpa using h3
                      have HNX := Lib.hid (HNX0.out (by rw [HLZ.out]; exact decide_eq_true (.inr ⟨rfl, h3⟩)))
                      clear h1 h3
                      go_upto_region 7 with fail
                      go_quiet (fail)
                      go_wp2_with fail
                      go_roundg (n - (i + 1))
                      case measure => omega
                      case rel => exact ⟨i + 1, by omega, by omega, by go_num, HNX, HB5.out.trans ((below_drewN _ _).mono HB5.out.size)⟩
                    · have h3' : decide (zi < p3) = false := by simpa using h3
                      have HPE : Hid (ps = i) := HPE0.out (by rw [HLZ.out]; exact decide_eq_false (fun h => by rcases h with h | h; exact h1 h; exact h3 h.2))
                      clear h1 h3
                      go_upto_region 7 with fail
                      go_quiet (fail)
                      go_wp2_with fail
                      go_meet
                      case rel => exact ⟨by rw [HPE.out], HB5.out.trans ((below_drewN _ _).mono HB5.out.size)⟩
                  · have h2' : (za == p2) = false := by simpa using h2
                    have HPE : Hid (ps = i) := HPE0.out (by rw [HLZ.out]; exact decide_eq_false (fun h => by rcases h with h | h; exact h1 h; exact h2 h.1))
                    clear h1 h2
                    go_upto_region 7 with fail
                    go_quiet (fail)
                    go_wp2_with fail
                    go_meet
                    case rel => exact ⟨by rw [HPE.out], HB5.out.trans ((below_drewN _ _).mono HB5.out.size)⟩
              · have hin' : decide ((i : Int) < (n : Int)) = false := by simpa using hin
                have HPE : Hid (ps = i) := HPOS.out i (by omega) (fun j h5 h6 => HJ.out j (by rw [HLN.out]; exact h5) h6) (fun h => absurd h hin)
                obtain ⟨x0, x1, x2, x3, x4⟩ := bx_cells5 (bx_keep X4.out HB5.out)
                go_upto_region 7 with fail
                go_quiet (fail)
                go_wp2_with fail
                go_meet
                case rel => exact ⟨by rw [HPE.out], HB5.out.trans ((below_drewN _ _).mono HB5.out.size)⟩
          case rest =>
            obtain ⟨rfl, HB5⟩ := hcut
            obtain ⟨w5, rfl⟩ : ∃ ww : World, ww = wc := ⟨_, rfl⟩
            have hpl := HPL.out
            have HI5 := Lib.hid (HI4.out.keep HB5.out)
            have X5 := Lib.hid (bx_keep X4.out HB5.out)
            obtain ⟨w6, HW6⟩ := nameIt (w5.alloc (.cells #[.int .i64 p2, .int .i64 p3] 30))
            have hb6 : Below w5.heap.size w5 w6 := by rw [← HW6.out]; exact (Below.refl _ _).alloc (Nat.le_refl _) _
            have XV : w6.heap[w5.heap.size]? = some (.cells #[.int .i64 p2, .int .i64 p3] 30 (0, 0)) := by rw [← HW6.out]; exact bx_new _ _ _ rfl
            have HC := Lib.hid (HINS.out ps (by omega) w5.heap.size w6 (HI5.out.keep hb6) XV (fun e => by
              have h1 := HBL3.out _ e
              have h2 := HB34.out.size
              have h3 := HB5.out.size
              have h4 := (Array.getElem?_eq_some_iff.1 X3.out).1
              omega))
            have HB26 : Hid (Below w2.heap.size w2 w6) := HI5.out.bel.trans (hb6.mono HI5.out.bel.size)
            have HUB : Hid (∀ q, (Value.slice ar n cr).ownBlock = some q → w2.heap.size ≤ q) := fun q e => (HI5.out.own.lt q e).1
            obtain ⟨x0, x1, x2, x3, x4⟩ := bx_cells5 X5.out
            clear hb6 XV
            go_wp2_with fail
            rw [HW6.out]
            refine HC.out.mono ?_
            rintro e w7 ⟨u7, rfl, ho7, hg7⟩
            have HI7 : Hid (MnI w2 w2.heap.size (insR L rf) u7 w7) := by
              refine ⟨?_, HB26.out.grown hg7 HB26.out.size (fun q e => HUB.out q e)⟩
              rw [insR_len, HINSR.out]
              exact ho7
            obtain ⟨a7, c7, hu7, -, -⟩ := own_len ho7
            subst hu7
            clear ho7 hg7
            go_wp2_with fail
            go_roundg (sz - (k + 1))
            case measure => omega
            case rel => exact ⟨k + 1, by omega, by omega, by go_num, by rw [HEQ.out]; exact HI7⟩
      · have hkb : (p0 != 1) = true := by simpa using hk1
        have HK1 := Lib.hid hk1
        clear hk1
        have HEQ : Hid ((N.take (k + 1)).foldl mentStep [] = L) := by show _ = _; rw [HST.out, HSM.out, if_pos (.inl HK1.out)]
        go_wp2_with fail
        go_roundg (sz - (k + 1))
        case measure => omega
        case rel => exact ⟨k + 1, by omega, by omega, by go_num, by rw [HEQ.out]; exact HI3.out⟩
    · have hlt' : ¬ (k : Int) < (sz : Int) := by omega
      have hi := HI.out
      rw [List.take_of_length_le (by rw [HLE.out]; omega)] at hi
      obtain ⟨ar, cr, hur, hr1, hr2⟩ := own_len hi.own
      have HR := Lib.hid hi.rd
      have HBE := Lib.hid hi.bel
      subst hur
      clear hi
      go_wp2_with fail
      go_ret
      exact HFIN.out _ _ HR.out (HB2.out.trans (HBE.out.mono HB2.out.size))
end At
end Go.Proofs.Ythkdeljlhplkgaa
