/- The contract of attr.there. -/
import Derived.Test.YtiapfogckbkkpaaAttrRd
import Derived.Deep.RegionHeld3
import Derived.IntWalk
namespace Go.Proofs.Ytiapfogckbkkpaa
open Go.RowKit
namespace At

set_option maxHeartbeats 400000 in
theorem gramN (x : Int) (w : World) : Calls Try.prog 40 #[.int .i64 x] w fun e w' => e = .returned (.agg #[.bool false, .int .i64 x]) ∧ Below w.heap.size w w' := by
  go_enter Try.func40, Try.ntmps40
  go_wp2
  exact bodyPost_ret (v := .agg #[.bool false, .int .i64 x]) (by simp [results, Try.results40, go_sem]) rfl ⟨rfl, (Below.refl _ _).alloc (Nat.le_refl _) _⟩
theorem Rd.attr_at {S : Nat → Prop} {w : World} {l : List Attr} {a : Option Addr} {n cap i : Nat} (h : Rd S w (.sl (l.map Attr.d)) [.slice a n cap]) (hi : i < l.length) :
    ∃ b off, a = some ⟨b, off, none⟩ ∧ S b ∧ b < w.heap.size ∧ w.cell? ⟨b, off + i * 2, none⟩ = some (.int .i64 l[i].non) ∧ w.cell? ⟨b, off + i * 2 + 1, none⟩ = some (.bool l[i].inh) := by
  obtain ⟨b, off, cs, ha, hS, hlt, hr, hl, hc⟩ := h.at (attrs_cells l) (by decide) (i := i) (by simpa using hi)
  simp at hr
  obtain ⟨c1, c2, rfl, h1, h2⟩ := hr
  rw [RdAll.one_iff] at h2
  simp [Rd] at h1 h2
  subst h1 h2
  exact ⟨b, off, ha, hS, hlt, by simpa using hc 0 (by simp), by simpa [Nat.add_assoc] using hc 1 (by simp)⟩
theorem there_no {al : List Attr} {r : Rule} {x : Ref} (h : x.attr < 0 ∨ (al.length : Int) ≤ x.attr ∨ x.at' < 0 ∨ (r.right.length : Int) < x.at') : there al r x = false := by
  unfold there
  rw [decide_eq_false (by omega)]
  rfl
theorem there_at {al : List Attr} {r : Rule} {x : Ref} {j : Nat} (hj : j < al.length) (hx : x.attr = (j : Int)) (h0 : 0 ≤ x.at') (h1 : x.at' ≤ r.right.length) : there al r x = if x.at' = 0 then decide (al[j].non = r.left) else decide (r.right[(x.at' - 1).toNat]? = some ⟨false, al[j].non⟩) := by
  unfold there
  rw [decide_eq_true (by omega), hx]
  simp [hj]

set_option maxHeartbeats 2000000 in
set_option maxRecDepth 100000 in
theorem thereE (al : List Attr) (r : Rule) (x : Ref) (aa ae ar : Option Addr) (ca ne ce cr : Nat) (w : World) (hA : Rd AnyB w (.sl (al.map Attr.d)) [.slice aa al.length ca]) (hR : Rd AnyB w (.sl (r.right.map Sym.d)) [.slice ar r.right.length cr]) :
    Calls Try.prog 26 #[.agg #[.slice aa al.length ca, .slice ae ne ce], .agg #[.int .i64 r.left, .slice ar r.right.length cr], .agg #[.int .i64 x.at', .int .i64 x.attr]] w (fun e w' => e = .returned (.bool (there al r x)) ∧ Below w.heap.size w w') := by
  have ha1 := hA.bounds.2
  have hr1 := hR.bounds.2
  unfold maxLen at ha1 hr1
  obtain ⟨ha1, ha2⟩ := ha1
  obtain ⟨hr1, hr2⟩ := hr1
  obtain ⟨w0, HW0⟩ := nameIt (((w.alloc (.cells #[.slice aa al.length ca, .slice ae ne ce] 28)).alloc (.cells #[.int .i64 r.left, .slice ar r.right.length cr] 52)).alloc (.cells #[.int .i64 x.at', .int .i64 x.attr] 30))
  have HB0 : Hid (Below w.heap.size w w0) := by rw [← HW0.out]; exact (((Below.refl _ _).alloc (Nat.le_refl _) _).alloc (by simp) _).alloc (by simp; omega) _
  have X1 : Hid (w0.heap[w.heap.size]? = some (.cells #[.slice aa al.length ca, .slice ae ne ce] 28 (0, 0))) := by
    rw [← HW0.out]; exact bx_keep (bx_keep (bx_new _ _ _ rfl) ((Below.refl _ _).alloc (Nat.le_refl _) _)) ((Below.refl _ _).alloc (Nat.le_refl _) _)
  have X2 : Hid (w0.heap[w.heap.size + 1]? = some (.cells #[.int .i64 r.left, .slice ar r.right.length cr] 52 (0, 0))) := by
    rw [← HW0.out]; exact bx_keep (bx_new _ _ _ (by simp)) ((Below.refl _ _).alloc (Nat.le_refl _) _)
  have X3 : Hid (w0.heap[w.heap.size + 1 + 1]? = some (.cells #[.int .i64 x.at', .int .i64 x.attr] 30 (0, 0))) := by
    rw [← HW0.out]; exact bx_new _ _ _ (by simp)
  have HA := Lib.hid (hA.below HB0.out)
  have HR := Lib.hid (hR.below HB0.out)
  have HNO := Lib.hid (@there_no al r x)
  have HAT := Lib.hid (fun (j : Nat) (hj : j < al.length) => @there_at al r x j hj)
  obtain ⟨lf, HLF⟩ := nameIt r.left
  obtain ⟨R, HRR⟩ := nameIt r.right
  obtain ⟨xa, HXA⟩ := nameIt x.at'
  obtain ⟨xi, HXI⟩ := nameIt x.attr
  obtain ⟨th, HTH⟩ := nameIt (there al r x)
  rw [HLF.out, HRR.out, HXA.out, HXI.out] at HW0
  rw [HLF.out, HRR.out] at X2
  rw [HXA.out, HXI.out] at X3
  rw [HRR.out] at HR hr1
  rw [HXI.out, HXA.out, HRR.out, HTH.out] at HNO
  rw [HXI.out, HXA.out, HRR.out, HTH.out, HLF.out] at HAT
  rw [HLF.out, HRR.out, HXA.out, HXI.out, HTH.out]
  obtain ⟨x0, x1⟩ := bx_cells2 X1.out
  obtain ⟨y0, y1⟩ := bx_cells2 X2.out
  obtain ⟨z0, z1⟩ := bx_cells2 X3.out
  clear hA hR
  go_enter Try.func26, Try.ntmps26
  go_upto_region 1 with fail
  rw [HW0.out]
  by_cases h1 : xi < 0
  · obtain rfl : th = false := HNO.out (.inl h1)
    have h1' : decide (xi < 0) = true := by simpa using h1
    clear h1
    go_wp2_with fail
    go_ret
    exact ⟨rfl, HB0.out⟩
  · have h1' : decide (xi < 0) = false := by simpa using h1
    obtain ⟨j, hj⟩ : ∃ j : Nat, xi = (j : Int) := ⟨xi.toNat, by omega⟩
    subst hj
    by_cases h2 : j < al.length
    · have h2' : ¬ al.length ≤ j := by omega
      by_cases h3 : xa < 0
      · obtain rfl : th = false := HNO.out (.inr (.inr (.inl h3)))
        have h3' : decide (xa < 0) = true := by simpa using h3
        clear h1 h3
        go_wp2_with fail
        go_ret
        exact ⟨rfl, HB0.out⟩
      · have h3' : decide (xa < 0) = false := by simpa using h3
        obtain ⟨k, hk⟩ : ∃ k : Nat, xa = (k : Int) := ⟨xa.toNat, by omega⟩
        subst hk
        by_cases h4 : k ≤ R.length
        · have h4' : ¬ R.length < k := by omega
          have hat := HAT.out j h2 rfl (by omega) (by omega)
          obtain ⟨b, off, hae, -, hbl, c0, c1⟩ := Rd.attr_at HA.out h2
          obtain ⟨non, HNON⟩ := nameIt (al[j]'h2).non
          rw [HNON.out] at c0 hat
          have hj0 : (0 : Int) ≤ (j : Int) := by omega
          have hj1 : (j : Int) < (al.length : Int) := by omega
          have HATH := Lib.hid hat
          subst hae
          clear h1 h3 hat c1
          cases k with
          | zero =>
            have HE : Hid (th = decide (non = lf)) := by have h := HATH.out; rw [if_pos (by simp)] at h; exact h
            go_wp2_with fail
            go_ret
            exact ⟨by rw [HE.out]; rfl, HB0.out⟩
          | succ k =>
            have hkR : k < R.length := by omega
            obtain ⟨b', off', hae', -, hbl', d0, d1⟩ := HR.out.sym_at hkR
            have HGN := Lib.hid (fun W => gramN non W)
            have HE : Hid (th = decide (R[k]'hkR = ⟨false, non⟩)) := by
              show _ = _
              have h := HATH.out
              rw [if_neg (by omega), show ((((k + 1 : Nat) : Int) - 1).toNat) = k by omega, List.getElem?_eq_getElem hkR] at h
              simpa using h
            obtain ⟨sy, HSY⟩ := nameIt (R[k]'hkR)
            rw [HSY.out] at d0 d1 HE
            obtain ⟨st, HST⟩ := nameIt sy.term
            obtain ⟨sn, HSN⟩ := nameIt sy.n
            rw [HST.out] at d0
            rw [HSN.out] at d1
            subst hae'
            have hkk : ((k + 1 : Nat) : Int) = (k : Int) + 1 := by omega
            rw [hkk] at z0
            rw [hkk]
            have hk0 : (0 : Int) ≤ (k : Int) := by omega
            have hk1 : (k : Int) < (R.length : Int) := by omega
            have hk2 : (k : Int) ≤ 9223372036854775806 := by omega
            have hkt : ((k : Int)).toNat = k := by omega
            have hw0 : IntKind.i64.wrap ((k : Int) + 1 - 1) = (k : Int) := by rw [show (k : Int) + 1 - 1 = (k : Int) by omega]; exact IntWalk.i64_in _ (by omega)
            have hw1 : IntKind.i64.wrap (k : Int) = (k : Int) := IntWalk.i64_in _ (by omega)
            have HW0' := Lib.hid hw0
            have HW1' := Lib.hid hw1
            clear hw0 hw1 hkk
            go_upto_region 6 with fail
            cases st with
            | true =>
              have HTF : Hid (th = false) := by
                show _ = _
                rw [HE.out]; exact decide_eq_false (fun e => by have h := HST.out; rw [e] at h; cases h)
              have hw0 := HW0'.out
              have hw1 := HW1'.out
              go_region_held3 (fun w' => w'.cell? ⟨w.heap.size + 1, 0, none⟩ = some (.int .i64 lf) ∧ w'.cell? ⟨w.heap.size + 1, 0 + 1, none⟩ = some (.slice (some ⟨b', off', none⟩) R.length cr) ∧ w'.cell? ⟨w.heap.size + 1 + 1, 0, none⟩ = some (.int .i64 ((k : Int) + 1)) ∧ w'.cell? ⟨b', off' + k * 2, none⟩ = some (.bool true) ∧ w'.cell? ⟨b', off' + k * 2 + 1, none⟩ = some (.int .i64 sn)) (first | go_keep | exact ⟨K0, K1, K2, K3, K4⟩ | fail)
                (first
                  | (go_at_call 40; (with_reducible refine (HGN.out _).mono ?_); rintro e w7 ⟨rfl, hb7⟩; have HB7 : Hid (Below w0.heap.size w0 w7) := (Below.refl _ _).drew.trans hb7; have K0 := (HB7.out.cell (p := ⟨w.heap.size + 1, 0, none⟩) (lt_of_cell y0)).trans y0; have K1 := (HB7.out.cell (p := ⟨w.heap.size + 1, 0 + 1, none⟩) (lt_of_cell y1)).trans y1; have K2 := (HB7.out.cell (p := ⟨w.heap.size + 1 + 1, 0, none⟩) (lt_of_cell z0)).trans z0; have K3 := (HB7.out.cell (p := ⟨b', off' + k * 2, none⟩) (lt_of_cell d0)).trans d0; have K4 := (HB7.out.cell (p := ⟨b', off' + k * 2 + 1, none⟩) (lt_of_cell d1)).trans d1; clear hb7)
                  | fail)
              all_goals
                go_wp2_with fail
                go_ret
                exact ⟨by rw [HTF.out]; rfl, HB0.out.trans (HB7.out.mono HB0.out.size)⟩
            | false =>
              by_cases hsn : sn = non
              · have HTF : Hid (th = true) := by
                  show _ = _
                  rw [HE.out]; refine decide_eq_true ?_
                  cases sy with
                  | mk t n =>
                    have h1 := HST.out
                    have h2 := HSN.out
                    simp at h1 h2
                    rw [h1, h2, hsn]
                subst hsn
                have hw0 := HW0'.out
                have hw1 := HW1'.out
                have hsb : (sn == sn) = true := by simp
                go_region_held3 (fun w' => w'.cell? ⟨w.heap.size + 1, 0, none⟩ = some (.int .i64 lf) ∧ w'.cell? ⟨w.heap.size + 1, 0 + 1, none⟩ = some (.slice (some ⟨b', off', none⟩) R.length cr) ∧ w'.cell? ⟨w.heap.size + 1 + 1, 0, none⟩ = some (.int .i64 ((k : Int) + 1)) ∧ w'.cell? ⟨b', off' + k * 2, none⟩ = some (.bool false) ∧ w'.cell? ⟨b', off' + k * 2 + 1, none⟩ = some (.int .i64 sn)) (first | go_keep | exact ⟨K0, K1, K2, K3, K4⟩ | fail)
                  (first
                    | (go_at_call 40; (with_reducible refine (HGN.out _).mono ?_); rintro e w7 ⟨rfl, hb7⟩; have HB7 : Hid (Below w0.heap.size w0 w7) := (Below.refl _ _).drew.trans hb7; have K0 := (HB7.out.cell (p := ⟨w.heap.size + 1, 0, none⟩) (lt_of_cell y0)).trans y0; have K1 := (HB7.out.cell (p := ⟨w.heap.size + 1, 0 + 1, none⟩) (lt_of_cell y1)).trans y1; have K2 := (HB7.out.cell (p := ⟨w.heap.size + 1 + 1, 0, none⟩) (lt_of_cell z0)).trans z0; have K3 := (HB7.out.cell (p := ⟨b', off' + k * 2, none⟩) (lt_of_cell d0)).trans d0; have K4 := (HB7.out.cell (p := ⟨b', off' + k * 2 + 1, none⟩) (lt_of_cell d1)).trans d1; clear hb7)
                    | fail)
                all_goals
                  go_wp2_with fail
                  go_ret
                  exact ⟨by rw [HTF.out]; rfl, HB0.out.trans (HB7.out.mono HB0.out.size)⟩
              · have HTF : Hid (th = false) := by
                  show _ = _
                  rw [HE.out]; exact decide_eq_false (fun e => hsn (by rw [← HSN.out, e]))
                have hsb : (sn == non) = false := by simpa using hsn
                clear hsn
                have hw0 := HW0'.out
                have hw1 := HW1'.out
                go_region_held3 (fun w' => w'.cell? ⟨w.heap.size + 1, 0, none⟩ = some (.int .i64 lf) ∧ w'.cell? ⟨w.heap.size + 1, 0 + 1, none⟩ = some (.slice (some ⟨b', off', none⟩) R.length cr) ∧ w'.cell? ⟨w.heap.size + 1 + 1, 0, none⟩ = some (.int .i64 ((k : Int) + 1)) ∧ w'.cell? ⟨b', off' + k * 2, none⟩ = some (.bool false) ∧ w'.cell? ⟨b', off' + k * 2 + 1, none⟩ = some (.int .i64 sn)) (first | go_keep | exact ⟨K0, K1, K2, K3, K4⟩ | fail)
                  (first
                    | (go_at_call 40; (with_reducible refine (HGN.out _).mono ?_); rintro e w7 ⟨rfl, hb7⟩; have HB7 : Hid (Below w0.heap.size w0 w7) := (Below.refl _ _).drew.trans hb7; have K0 := (HB7.out.cell (p := ⟨w.heap.size + 1, 0, none⟩) (lt_of_cell y0)).trans y0; have K1 := (HB7.out.cell (p := ⟨w.heap.size + 1, 0 + 1, none⟩) (lt_of_cell y1)).trans y1; have K2 := (HB7.out.cell (p := ⟨w.heap.size + 1 + 1, 0, none⟩) (lt_of_cell z0)).trans z0; have K3 := (HB7.out.cell (p := ⟨b', off' + k * 2, none⟩) (lt_of_cell d0)).trans d0; have K4 := (HB7.out.cell (p := ⟨b', off' + k * 2 + 1, none⟩) (lt_of_cell d1)).trans d1; clear hb7)
                    | fail)
                all_goals
                  go_wp2_with fail
                  go_ret
                  exact ⟨by rw [HTF.out]; rfl, HB0.out.trans (HB7.out.mono HB0.out.size)⟩
        · have h4' : R.length < k := by omega
          obtain rfl : th = false := HNO.out (.inr (.inr (.inr (by omega))))
          clear h1 h3
          go_wp2_with fail
          go_ret
          exact ⟨rfl, HB0.out⟩
    · have h2' : al.length ≤ j := by omega
      obtain rfl : th = false := HNO.out (.inr (.inl (by omega)))
      clear h1
      go_wp2_with fail
      go_ret
      exact ⟨rfl, HB0.out⟩
end At
end Go.Proofs.Ytiapfogckbkkpaa
