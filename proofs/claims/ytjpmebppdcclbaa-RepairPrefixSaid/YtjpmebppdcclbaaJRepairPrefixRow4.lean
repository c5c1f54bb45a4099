/- (*grid).list of parlref4. What parlref4.solve keeps, in plain Lean. A region that draws its order, that only loads what was there and calls what makes new memory only: one walk in the order of the text. A region that draws its order: a head that only loads what was there and calls what makes new memory only, then a tail in one forced order. The table of repair.Best in memory; (*corrector).symbol. What repair's rule reckons, in plain Lean. repair's rule and parlref4's list reckon the same: the best of all splits. repair's rule reckons what parlref4's list reckons. repair.hopeless, repair.then. (*corrector).rule of repair. What repair.Best keeps, in plain Lean. A measure of tables of corrections: the ranks of the cells. -/
import Derived.Test.YtjpmebppdcclbaaJRepairPrefixRow2
import Derived.Test.YtjpmebppdcclbaaJRepairPrefixRow3
import Derived.Test.YtjpmebppdcclbaaJRepairPrefixRow1
import Derived.BigQuiet
import Derived.StillTail
namespace Go.Proofs.Ytjpmebppdcclbaa
open Go.RowKit
namespace Rp
def OfFn (gb : Nat) (V : Sym → Nat → Nat → Option Val) (ok : Sym → Prop) (N : Nat) (P : Nat → Prop) (w : World) : Prop :=
  ∀ W (y : Sym) (i j : Nat), ok y → i ≤ j → j ≤ N → Below w.heap.size w W → Calls Try.prog 42 #[.pointer (some ⟨gb, 0, none⟩), .agg #[.bool y.term, .int .i64 y.n], .int .i64 (i : Nat), .int .i64 (j : Nat)] W fun e w' => ∃ x, e = .returned x ∧ VR (fun k => P k ∨ W.heap.size ≤ k) w' x (V y i j) ∧ Below W.heap.size W w'
theorem vr_form {P : Nat → Prop} {w : World} {x : Value} {o : Option Val} (h : VR P w x o) : ∃ a m k, x = .agg #[.bool o.isSome, .int .i64 (oC o), .int .i64 (oN o), .slice a m k] ∧ Rd P w (D.ints (oW o)) [.slice a m k] := by
  obtain ⟨u, rfl, h⟩ := h
  obtain ⟨a, k, rfl⟩ := (sl_rd h).form
  exact ⟨_, _, _, rfl, h⟩
theorem nv_form {w0 w : World} {P : Nat → Prop} {b : Nat} {o : Option Val} (h : NV w0 P b o w) : ∃ a m k, w.heap[b]? = some (.cells #[.bool o.isSome, .int .i64 (oC o), .int .i64 (oN o), .slice a m k] 36 (0, 0)) ∧ VR (fun k => P k ∧ k ≠ b) w (.agg #[.bool o.isSome, .int .i64 (oC o), .int .i64 (oN o), .slice a m k]) o := by
  obtain ⟨u, h1, h2⟩ := h.vr
  obtain ⟨a, m, k, e, h3⟩ := vr_form h2
  simp at e
  subst e
  exact ⟨a, m, k, h1, h2⟩
set_option maxHeartbeats 8000000 in
set_option maxRecDepth 100000 in
theorem listE (gb : Nat) (V : Sym → Nat → Nat → Option Val) (ok : Sym → Prop) (N M : Nat) (P : Nat → Prop) (w : World) (hof : OfFn gb V ok N P w) (hP : ∀ k, P k → k < w.heap.size) (hN : N ≤ 100) (hM : M ≤ 288230376151711744) (hV : ∀ s, ok s → ∀ i j, i ≤ j → j ≤ N → Bd M (V s i j)) :
    ∀ (l : List Sym), l ≠ [] → l.length ≤ 4 → (∀ s ∈ l, ok s) → ∀ (i j : Nat), i ≤ j → j ≤ N → ∀ (W : World), Below w.heap.size w W → ∀ (sv : Value), Rd AnyB W (.sl (l.map Sym.d)) [sv] →
    Calls Try.prog 77 #[.pointer (some ⟨gb, 0, none⟩), sv, .int .i64 (i : Nat), .int .i64 (j : Nat)] W fun e w' => ∃ x, e = .returned x ∧ VR (fun k => P k ∨ W.heap.size ≤ k) w' x (lstV V l i j) ∧ Below W.heap.size W w' := by
  intro l
  induction l with
  | nil => intro h; exact absurd rfl h
  | cons s l ih =>
  intro _ hl4 hok i j hij hjn W hw sv hs
  have hsok := hok s (by simp)
  obtain ⟨sb, so, cap, hsv, hc1, hc2⟩ := hs.headed (by simp) (syms_cells _) (by decide)
  rw [List.length_map] at hsv hc1
  subst hsv
  obtain ⟨b', off', e', -, -, x0, x1⟩ := hs.sym_at (i := 0) (by simp)
  simp at e'
  obtain ⟨rfl, rfl⟩ := e'
  simp only [List.getElem_cons_zero, Nat.zero_mul, Nat.add_zero] at x0 x1
  have hi' : (i : Int) ≤ 100 := by omega
  have hj' : (j : Int) ≤ 100 := by omega
  obtain ⟨m, HM⟩ := nameIt (s :: l).length
  have hs0 := hs
  rw [HM.out] at hs hc1 ⊢
  have hm4 : m ≤ 4 := by rw [← HM.out]; exact hl4
  unfold maxLen at hc2
  have hPW : Hid (∀ k, P k → k < W.heap.size) := fun k hk => Nat.lt_of_lt_of_le (hP k hk) hw.size
  obtain ⟨PST, HP⟩ := nameIt (fun (e : Ending) (w' : World) => ∃ x, e = .returned x ∧ VR (fun k => P k ∨ W.heap.size ≤ k) w' x (lstV V (s :: l) i j) ∧ Below W.heap.size W w')
  obtain ⟨r, HR⟩ := nameIt (lstV V (s :: l) i j)
  rw [HR.out] at HP ⊢
  obtain ⟨w8, HW8⟩ := nameIt (W.alloc (.cells #[.bool false, .int .i64 0, .int .i64 0, .slice none 0 0] 36))
  have hw8 : Below W.heap.size W w8 := by rw [← HW8.out]; exact (Below.refl _ _).alloc (Nat.le_refl _) _
  have HZ8 : Hid (w8.heap[W.heap.size]? = some (.cells #[.bool false, .int .i64 0, .int .i64 0, .slice none 0 0] 36 (0, 0))) := by rw [← HW8.out]; exact bx_new _ _ _ rfl
  have hsz8 : w8.heap.size = W.heap.size + 1 := by rw [← HW8.out]; simp
  have HSZ8 := Lib.hid hsz8
  have HB8 := Lib.hid hw8
  have HOF : Hid (∀ W' i' j', Below w8.heap.size w8 W' → i' ≤ j' → j' ≤ N → Calls Try.prog 42 #[.pointer (some ⟨gb, 0, none⟩), .agg #[.bool s.term, .int .i64 s.n], .int .i64 (i' : Nat), .int .i64 (j' : Nat)] W' fun e w' => ∃ x, e = .returned x ∧ VR (fun k => P k ∨ W'.heap.size ≤ k) w' x (V s i' j') ∧ Below W'.heap.size W' w') := fun W' i' j' hb h1 h2 => hof W' s i' j' hsok h1 h2 (hw.trans ((hw8.trans (hb.mono hw8.size)).mono hw.size))
  have HEND : Hid (∀ w3, Below w8.heap.size w8 w3 → ∀ (o : Option Val) u, VR (fun k => (P k ∨ W.heap.size ≤ k) ∧ k ≠ W.heap.size) w3 (.agg #[.bool o.isSome, .int .i64 (oC o), .int .i64 (oN o), u]) o → o = r →
      PST (.returned (.agg #[.bool o.isSome, .int .i64 (oC o), .int .i64 (oN o), u])) ((((w3.setCell ⟨W.heap.size, 0, none⟩ (.bool o.isSome)).setCell ⟨W.heap.size, 0 + 1, none⟩ (.int .i64 (oC o))).setCell ⟨W.heap.size, 0 + 2, none⟩ (.int .i64 (oN o))).setCell ⟨W.heap.size, 0 + 3, none⟩ u)) := by
    intro w3 hb3 o u hv e
    subst e
    have hg := grown_cell4 w3 W.heap.size (.bool o.isSome) (.int .i64 (oC o)) (.int .i64 (oN o)) u
    have hB : Below W.heap.size W w3 := HB8.out.trans (hb3.mono HB8.out.size)
    rw [← HP.out]
    refine ⟨_, rfl, (hv.grown hg ?_).mono (fun k h _ => h.1), hB.grown hg hB.size ?_⟩
    · intro k e h
      cases e
      exact h.2 rfl
    · intro k e
      cases e
      exact Nat.le_refl _
  obtain ⟨st, HST⟩ := nameIt s.term
  obtain ⟨sn, HSN⟩ := nameIt s.n
  rw [HST.out] at x0 HOF
  rw [HSN.out] at x1 HOF
  rw [HP.out]
  clear HP
  cases l with
  | nil =>
    have hm1 : m = 1 := by rw [← HM.out]; rfl
    subst hm1
    have HRE : Hid (V s i j = r) := HR.out
    have y0 : w8.cell? ⟨sb, so, none⟩ = some (.bool st) := (HB8.out.cell (lt_of_cell x0)).trans x0
    have y1 : w8.cell? ⟨sb, so + 1, none⟩ = some (.int .i64 sn) := (HB8.out.cell (lt_of_cell x1)).trans x1
    clear hs hs0 ih hok HR x0 x1
    go_enter Try.func77, Try.ntmps77
    go_upto_region 2 with fail
    rw [HW8.out]
    clear HW8
    go_wp2_with fail
    refine (HOF.out w8 i j (Below.refl _ _) hij hjn).mono ?_
    rintro e w2 ⟨x, rfl, hv, hb2⟩
    obtain ⟨a1, m1, k1, rfl, hrd⟩ := vr_form hv
    have HB2 := Lib.hid hb2
    have HV2 : Hid (VR (fun k => (P k ∨ W.heap.size ≤ k) ∧ k ≠ W.heap.size) w2 (.agg #[.bool (V s i j).isSome, .int .i64 (oC (V s i j)), .int .i64 (oN (V s i j)), .slice a1 m1 k1]) (V s i j)) := hv.mono (fun k hk _ => by
      have := HSZ8.out
      rcases hk with h | h
      · have := hPW.out k h
        exact ⟨.inl h, by omega⟩
      · exact ⟨.inr (by omega), by omega⟩)
    obtain ⟨z0, z1, z2, z3⟩ := bx_cells4 (bx_keep HZ8.out hb2)
    obtain ⟨f0, f1, f2, f3⟩ := bx_free4 (bx_keep HZ8.out hb2)
    obtain ⟨o, HO⟩ := nameIt (V s i j)
    rw [HO.out] at HV2 HRE ⊢
    clear hv hb2 hrd
    go_wp2_with fail
    refine bodyPost_ret (v := .agg #[.bool o.isSome, .int .i64 (oC o), .int .i64 (oN o), .slice a1 m1 k1]) (by simp [results, Try.results77, go_sem, z0, z1, z2, z3]) rfl ?_
    exact HEND.out _ HB2.out o _ HV2.out HRE.out
  | cons t l =>
    have hm2 : 2 ≤ m := by rw [← HM.out]; simp
    have hm1 : ((m : Int) == 1) = false := by simp; omega
    obtain ⟨rest, HRS⟩ := nameIt (fun q => lstV V (t :: l) q j)
    have HRE : Hid (bestCons V s rest i (j + 1 - i) = r) := by
      show _ = _
      rw [← HR.out, ← HRS.out]; rfl
    have HTL : Hid (Rd AnyB W (.sl ((t :: l).map Sym.d)) [.slice (some ⟨sb, so + 2, none⟩) (m - 1) (cap - 1)]) := by
      have := hs.tail (syms_cells _) (by omega)
      rw [if_neg (by omega)] at this
      exact this
    have hl3 : (t :: l).length ≤ 3 := by simp at hl4 ⊢; omega
    have HIH : Hid (∀ W' i' j', Below w8.heap.size w8 W' → i' ≤ j' → j' ≤ N → Calls Try.prog 77 #[.pointer (some ⟨gb, 0, none⟩), .slice (some ⟨sb, so + 2, none⟩) (m - 1) (cap - 1), .int .i64 (i' : Nat), .int .i64 (j' : Nat)] W' fun e w' => ∃ x, e = .returned x ∧ VR (fun k => P k ∨ W'.heap.size ≤ k) w' x (lstV V (t :: l) i' j') ∧ Below W'.heap.size W' w') := fun W' i' j' hb h1 h2 => ih (by simp) (by omega) (fun s hs => hok s (by simp [List.mem_cons] at hs ⊢; exact .inr hs)) i' j' h1 h2 W' (hw.trans ((hw8.trans (hb.mono hw8.size)).mono hw.size)) _ (HTL.out.below (hw8.trans (hb.mono hw8.size)))
    have HBV : Hid (∀ q, i ≤ q → q ≤ j → Bd M (V s i q)) := fun q h1 h2 => hV s hsok i q h1 (by omega)
    have HBR : Hid (∀ q, i ≤ q → q ≤ j → Bd (3 * M) (rest q)) := fun q h1 h2 => by
      rw [← HRS.out]
      exact (bd_lst (N := N) (fun s hs => hV s (hok s (by simp [List.mem_cons] at hs ⊢; exact .inr hs))) h2 hjn).mono (Nat.mul_le_mul_right _ hl3)
    have hslt : ∀ W, (Instr.slice 47 (.slice (some ⟨sb, so, none⟩) m cap) (some (.int .i64 1)) none none).run Try.prog W = .ok (.slice (some ⟨sb, so + 2, none⟩) (m - 1) (cap - 1)) W := fun W => by
      have hs := run_slice_l (P := Try.prog) W 47 (some ⟨sb, so, none⟩) m cap (by kernel_rfl) .i64 1 (by omega) (by omega)
      rw [hs]
      have hct : ¬ cap = 1 := by omega
      simp [go_sem, hct]
    obtain ⟨m1, HM1⟩ := nameIt (m - 1)
    obtain ⟨c1, HC1⟩ := nameIt (cap - 1)
    obtain ⟨so2, HS2⟩ := nameIt (so + 2)
    rw [HM1.out, HC1.out, HS2.out] at HIH hslt
    have HSLT := Lib.hid hslt
    have HN0 : Hid (NV w8 (fun k => (P k ∨ W.heap.size ≤ k) ∧ k ≠ W.heap.size) (W.heap.size + 1) (bestCons V s rest i 0) (w8.alloc (.cells #[.bool false, .int .i64 0, .int .i64 0, .slice none 0 0] 36))) := by
      rw [← hsz8]
      exact ⟨(Below.refl _ _).alloc (Nat.le_refl _) _, Nat.le_refl _, _, bx_new _ _ _ rfl, ⟨none, 0, [], rfl, Nat.le_refl _, by simp, fun _ => rfl, fun i hi => by simp [bestCons, oW] at hi, by simp [RdAll, bestCons, oW]⟩⟩
    have HX : Hid (∀ w', Below w8.heap.size w8 w' → w'.cell? ⟨sb, so, none⟩ = some (.bool st) ∧ w'.cell? ⟨sb, so + 1, none⟩ = some (.int .i64 sn)) := by
      intro w' hb
      have hb2 := hw8.trans (hb.mono hw8.size)
      have y0 := (hb2.cell (lt_of_cell x0)).trans x0
      have y1 := (hb2.cell (lt_of_cell x1)).trans x1
      exact ⟨by simpa using y0, by simpa using y1⟩
    clear hs hs0 ih hok HR HTL hslt x0 x1 HM hw8 hsz8 hV hsok HM1 HC1 HS2 hl4 hl3 HST HSN hof hw hP hN
    go_enter Try.func77, Try.ntmps77
    go_wp2_with fail
    rw [HW8.out]
    go_loopg [10, 11, 12] (j + 1 - i) (fun gg v10 v11 v12 wr => ∃ k : Nat, k ≤ j + 1 - i ∧ j + 1 - i - k ≤ gg ∧ v10 = .int .i64 ((i + k : Nat) : Int) ∧ Hid (NV w8 (fun k => (P k ∨ W.heap.size ≤ k) ∧ k ≠ W.heap.size) (W.heap.size + 1) (bestCons V s rest i k) wr))
    case atStart => exact ⟨0, by omega, by omega, rfl, HN0⟩
    case round =>
      clear HN0 HW8
      obtain ⟨k, hk, hgg, rfl, HN⟩ := hrel
      obtain ⟨w1, rfl⟩ : ∃ ww : World, ww = wr := ⟨_, rfl⟩
      obtain ⟨q, HQ⟩ := nameIt (i + k)
      obtain ⟨bo, HBO⟩ := nameIt (bestCons V s rest i k)
      rw [HBO.out] at HN
      rw [HQ.out]
      by_cases hq : q ≤ j
      · have hq' : (q : Int) ≤ (j : Int) := by omega
        have hiq : i ≤ q := by have := HQ.out; omega
        obtain ⟨x0, x1⟩ := HX.out w1 HN.out.1
        obtain ⟨a9, m9, k9, hb9, hv9⟩ := nv_form HN.out
        have HX9 := Lib.hid hb9
        have HV9 := Lib.hid hv9
        clear hb9 hv9
        go_wp2_with fail
        refine (HOF.out w1 i q HN.out.1 hiq (by omega)).mono ?_
        rintro e w2 ⟨x, rfl, hv, hb2⟩
        obtain ⟨a1, m2, k1, rfl, hrd⟩ := vr_form hv
        have HB12 := Lib.hid hb2
        have HBD1 := Lib.hid (HBV.out q hiq hq)
        obtain ⟨o, HO⟩ := nameIt (V s i q)
        rw [HO.out] at hv HBD1 hrd ⊢
        obtain ⟨w3, HW3⟩ := nameIt (w2.alloc (.cells #[.bool o.isSome, .int .i64 (oC o), .int .i64 (oN o), .slice a1 m2 k1] 36))
        have hw3 : Below w2.heap.size w2 w3 := by rw [← HW3.out]; exact (Below.refl _ _).alloc (Nat.le_refl _) _
        have HX11 : Hid (w3.heap[w2.heap.size]? = some (.cells #[.bool o.isSome, .int .i64 (oC o), .int .i64 (oN o), .slice a1 m2 k1] 36 (0, 0))) := by rw [← HW3.out]; exact bx_new _ _ _ rfl
        have HSZ3 : Hid (w3.heap.size = w2.heap.size + 1) := by show _ = _; rw [← HW3.out]; simp
        have HB13 := Lib.hid (hb2.trans (hw3.mono hb2.size))
        have HV3 := Lib.hid (hv.below hw3)
        have HN3 := Lib.hid (HN.out.keep HB13.out)
        obtain ⟨y0, y1, y2, y3⟩ := bx_cells4 HX11.out
        have HSEV : Hid (∀ b2, b2 = o.isSome → bestCons V s rest i (k + 1) = if b2 && lessB (bothO o (rest q)) bo then bothO o (rest q) else bo) := by
          intro b2 e
          rw [e]
          unfold bestCons
          rw [HQ.out, HO.out, HBO.out]
        clear hv hb2 hw3 hrd
        obtain ⟨b2, HB2⟩ := nameIt o.isSome
        have hb2 := HSEV.out b2 HB2.out.symm
        rw [HB2.out] at HX11 HV3 y0 HW3 ⊢
        cases b2 with
        | false =>
          have HBE : Hid (bestCons V s rest i (k + 1) = bo) := by show _ = _; simpa using hb2
          clear hb2
          go_wp2_with fail
          rw [HW3.out]
          go_roundg (j + 1 - i - (k + 1))
          case measure => have := HQ.out; omega
          case rel =>
            have := HQ.out
            refine ⟨k + 1, by omega, by omega, by go_num, ?_⟩
            rw [HBE.out]
            exact HN3
        | true =>
          have HBE : Hid (bestCons V s rest i (k + 1) = if lessB (bothO o (rest q)) bo then bothO o (rest q) else bo) := by show _ = _; simpa using hb2
          clear hb2
          have HBR9 := Lib.hid (HBR.out q hiq hq)
          have HIHq := Lib.hid (fun W' hb => HIH.out W' q j hb hq hjn)
          obtain ⟨p, HPQ⟩ := nameIt (rest q)
          have hpe : lstV V (t :: l) q j = p := by rw [← HPQ.out, ← HRS.out]
          rw [hpe] at HIHq
          clear hpe
          rw [HPQ.out] at HBR9 HBE
          go_upto_region 9 with fail
          rw [HW3.out]
          clear HW3
          obtain ⟨v, HVV⟩ := nameIt (bothO o p)
          go_cut [12] (fun t wx => ∃ b2, t = .pointer (some ⟨b2, 0, none⟩) ∧ Hid (NV w3 (fun k => w3.heap.size ≤ k) b2 v wx))
          case first =>
            have HCS : Hid (∀ w', Below w3.heap.size w3 w' → w'.cell? ⟨w2.heap.size, 0, none⟩ = some (.bool true) ∧ w'.cell? ⟨w2.heap.size, 0 + 1, none⟩ = some (.int .i64 (oC o)) ∧ w'.cell? ⟨w2.heap.size, 0 + 2, none⟩ = some (.int .i64 (oN o)) ∧ w'.cell? ⟨w2.heap.size, 0 + 3, none⟩ = some (.slice a1 m2 k1)) := fun w' hb => bx_cells4 (bx_keep HX11.out hb)
            refine wp_region_U (S := (fun w' => w'.cell? ⟨w2.heap.size, 0, none⟩ = some (.bool true) ∧ w'.cell? ⟨w2.heap.size, 0 + 1, none⟩ = some (.int .i64 (oC o)) ∧ w'.cell? ⟨w2.heap.size, 0 + 2, none⟩ = some (.int .i64 (oN o)) ∧ w'.cell? ⟨w2.heap.size, 0 + 3, none⟩ = some (.slice a1 m2 k1))) 9 (by kernel_rfl) (fun inv => ?_)
            refine wpU_take (i := 0) (v := .agg #[.bool true, .int .i64 (oC o), .int .i64 (oN o), .slice a1 m2 k1]) rfl inv (by kernel_rfl) (by kernel_rfl) (by decide) (by decide) (by kernel_rfl) (by kernel_rfl) (by kernel_rfl) (fun _ _ _ h => h) (Or.inl ⟨by rfl, fun w' hw' => ?_⟩) (HCS.out _ (Below.refl _ _).drew) (fun inv => ?_)
            · obtain ⟨h0, h1, h2, h3⟩ := hw'
              go_simp
            try simp only [Act.put, List.setIfInBounds_toArray, List.set_cons_zero, List.set_cons_succ]
            refine wpU_take (i := 1) (v := .pointer (some ⟨gb, 0, none⟩)) rfl inv (by kernel_rfl) (by kernel_rfl) (by decide) (by decide) (by kernel_rfl) (by kernel_rfl) (by kernel_rfl) (fun _ _ _ h => h) (Or.inl ⟨by rfl, fun w' hw' => ?_⟩) (HCS.out _ (Below.refl _ _).drew) (fun inv => ?_)
            · obtain ⟨h0, h1, h2, h3⟩ := hw'
              go_simp
            try simp only [Act.put, List.setIfInBounds_toArray, List.set_cons_zero, List.set_cons_succ]
            refine wpU_take (i := 2) (v := .slice (some ⟨sb, so, none⟩) m cap) rfl inv (by kernel_rfl) (by kernel_rfl) (by decide) (by decide) (by kernel_rfl) (by kernel_rfl) (by kernel_rfl) (fun _ _ _ h => h) (Or.inl ⟨by rfl, fun w' hw' => ?_⟩) (HCS.out _ (Below.refl _ _).drew) (fun inv => ?_)
            · obtain ⟨h0, h1, h2, h3⟩ := hw'
              go_simp
            try simp only [Act.put, List.setIfInBounds_toArray, List.set_cons_zero, List.set_cons_succ]
            refine wpU_take (i := 3) (v := .slice (some ⟨sb, so2, none⟩) m1 c1) rfl inv (by kernel_rfl) (by kernel_rfl) (by decide) (by decide) (by kernel_rfl) (by kernel_rfl) (by kernel_rfl) (fun _ _ _ h => h) (Or.inl ⟨by rfl, fun w' hw' => ?_⟩) (HCS.out _ (Below.refl _ _).drew) (fun inv => ?_)
            · obtain ⟨h0, h1, h2, h3⟩ := hw'
              have hsl := HSLT.out w'; go_simp
            try simp only [Act.put, List.setIfInBounds_toArray, List.set_cons_zero, List.set_cons_succ]
            refine wpU_take (i := 4) (v := .int .i64 (q : Nat)) rfl inv (by kernel_rfl) (by kernel_rfl) (by decide) (by decide) (by kernel_rfl) (by kernel_rfl) (by kernel_rfl) (fun _ _ _ h => h) (Or.inl ⟨by rfl, fun w' hw' => ?_⟩) (HCS.out _ (Below.refl _ _).drew) (fun inv => ?_)
            · obtain ⟨h0, h1, h2, h3⟩ := hw'
              go_simp
            try simp only [Act.put, List.setIfInBounds_toArray, List.set_cons_zero, List.set_cons_succ]
            refine wpU_take (i := 5) (v := .int .i64 (j : Nat)) rfl inv (by kernel_rfl) (by kernel_rfl) (by decide) (by decide) (by kernel_rfl) (by kernel_rfl) (by kernel_rfl) (fun _ _ _ h => h) (Or.inl ⟨by rfl, fun w' hw' => ?_⟩) (HCS.out _ (Below.refl _ _).drew) (fun inv => ?_)
            · obtain ⟨h0, h1, h2, h3⟩ := hw'
              go_simp
            try simp only [Act.put, List.setIfInBounds_toArray, List.set_cons_zero, List.set_cons_succ]
            have HB13n : Hid (Below w8.heap.size w8 w3) := HN.out.1.trans (HB13.out.mono HN.out.1.size)
            refine wpU_2 (i := 6) (j := 8) (by kernel_rfl) rfl rfl (fun K hK => ?_) (fun K hK => ?_)
            ·
              replace inv := inv_setc (i := 6) inv (by kernel_rfl) (by decide)
              go_simp
              refine (HIHq.out _ (HB13n.out.trans (((Below.refl w3.heap.size w3).drew).mono HB13n.out.size))).mono ?_
              rintro e w6 ⟨x6, rfl, hv6, hb6⟩
              obtain ⟨a6, m6, k6, rfl, hrd6⟩ := vr_form hv6
              have HB6 : Hid (Below w3.heap.size w3 w6) := ((Below.refl w3.heap.size w3).drew).trans (hb6.mono ((Below.refl w3.heap.size w3).drew).size)
              have HV6 := Lib.hid hv6
              have HBb6 := Lib.hid hb6
              clear hv6 hb6 hrd6
              refine hK.out _ _ (fun _ => HCS.out _ HB6.out) ?_
              clear hK K
              try simp only [Act.put, List.setIfInBounds_toArray, List.set_cons_zero, List.set_cons_succ]
              refine wpU_2 (i := 7) (j := 8) (by kernel_rfl) rfl rfl (fun K hK => ?_) (fun K hK => ?_)
              ·
                replace inv := inv_setc (i := 7) inv (by kernel_rfl) (by decide)
                go_simp
                refine (bothE _ _ o p _ _ _ (HV3.out.below HB6.out) HV6.out (by have h1 := HBD1.out.2.1; have h2 := HBR9.out.2.1; omega) (by have h1 := HBD1.out.2.2; have h2 := HBR9.out.2.2; omega) HBD1.out.w HBR9.out.w).mono ?_
                rintro e w7 ⟨x7, rfl, hv7, hb7⟩
                obtain ⟨a7, m7, k7, rfl, hrd7⟩ := vr_form hv7
                have HB7 : Hid (Below w3.heap.size w3 w7) := HB6.out.trans (hb7.mono HB6.out.size)
                have HRD7 := Lib.hid hrd7
                have HBb7 := Lib.hid hb7
                rw [HVV.out] at HRD7 ⊢
                clear hv7 hb7 hrd7
                refine hK.out _ _ (fun _ => HCS.out _ HB7.out) ?_
                clear hK K
                try simp only [Act.put, List.setIfInBounds_toArray, List.set_cons_zero, List.set_cons_succ]
                refine wpU_one (i := 8) (by kernel_rfl) rfl (fun K hK => ?_)
                replace inv := inv_setc (i := 8) inv (by kernel_rfl) (by decide)
                go_simp
                have HB8a : Hid (Below w3.heap.size w3 (w7.alloc (.cells #[.bool false, .int .i64 0, .int .i64 0, .slice none 0 0] 36))) := HB7.out.alloc HB7.out.size _
                refine hK.out _ _ (fun _ => HCS.out _ HB8a.out) ?_
                clear hK K
                try simp only [Act.put, List.setIfInBounds_toArray, List.set_cons_zero, List.set_cons_succ]
                refine wpU_one (i := 9) (by kernel_rfl) rfl (fun K hK => ?_)
                go_simp
                refine hK.out _ _ (fun h => absurd (show true = false from h) (by decide)) ?_
                clear hK K
                try simp only [Act.put, List.setIfInBounds_toArray, List.set_cons_zero, List.set_cons_succ]
                refine wpU_done (by kernel_rfl) ?_ _
                go_wp2_with fail
                go_meet
                have hs3 := HB7.out.size
                have hs6 := HB6.out.size
                refine ⟨w7.heap.size, rfl, ?_⟩
                show NV _ _ _ _ _
                have hsb := HBb7.out.size
                refine ⟨HB7.out.alloc (by omega) _, by omega, _, bx_new w7 _ _ rfl, (HRD7.out.mono (fun k hk hl => ?_)).below ((Below.refl _ _).alloc (Nat.le_refl _) _)⟩
                have hk2 : w6.heap.size ≤ k := hk
                exact ⟨by show w3.heap.size ≤ k; omega, by omega⟩
              ·
                replace inv := inv_setc (i := 8) inv (by kernel_rfl) (by decide)
                go_simp
                have HB8a : Hid (Below w3.heap.size w3 (w6.alloc (.cells #[.bool false, .int .i64 0, .int .i64 0, .slice none 0 0] 36))) := HB6.out.alloc HB6.out.size _
                refine hK.out _ _ (fun _ => HCS.out _ HB8a.out) ?_
                clear hK K
                try simp only [Act.put, List.setIfInBounds_toArray, List.set_cons_zero, List.set_cons_succ]
                refine wpU_one (i := 7) (by kernel_rfl) rfl (fun K hK => ?_)
                replace inv := inv_setc (i := 7) inv (by kernel_rfl) (by decide)
                go_simp
                refine (bothE _ _ o p _ _ _ (HV3.out.below HB8a.out) (HV6.out.below ((Below.refl _ _).alloc (Nat.le_refl _) _)) (by have h1 := HBD1.out.2.1; have h2 := HBR9.out.2.1; omega) (by have h1 := HBD1.out.2.2; have h2 := HBR9.out.2.2; omega) HBD1.out.w HBR9.out.w).mono ?_
                rintro e w7 ⟨x7, rfl, hv7, hb7⟩
                obtain ⟨a7, m7, k7, rfl, hrd7⟩ := vr_form hv7
                have HB7 : Hid (Below w3.heap.size w3 w7) := HB8a.out.trans (hb7.mono HB8a.out.size)
                have HRD7 := Lib.hid hrd7
                have HBb7 := Lib.hid hb7
                rw [HVV.out] at HRD7 ⊢
                clear hv7 hb7 hrd7
                have HZ7 : Hid (w7.heap[w6.heap.size]? = some (.cells #[.bool false, .int .i64 0, .int .i64 0, .slice none 0 0] 36 (0, 0))) := bx_keep (bx_new w6 _ _ rfl) HBb7.out
                refine hK.out _ _ (fun _ => HCS.out _ HB7.out) ?_
                clear hK K
                try simp only [Act.put, List.setIfInBounds_toArray, List.set_cons_zero, List.set_cons_succ]
                refine wpU_one (i := 9) (by kernel_rfl) rfl (fun K hK => ?_)
                obtain ⟨f0, f1, f2, f3⟩ := bx_free4 HZ7.out
                obtain ⟨e0, e1, e2, e3⟩ := bx_cells4 HZ7.out
                go_simp
                refine hK.out _ _ (fun h => absurd (show true = false from h) (by decide)) ?_
                clear hK K
                try simp only [Act.put, List.setIfInBounds_toArray, List.set_cons_zero, List.set_cons_succ]
                refine wpU_done (by kernel_rfl) ?_ _
                go_wp2_with fail
                go_meet
                have hs3 := HB7.out.size
                have hs6 := HB6.out.size
                refine ⟨w6.heap.size, rfl, ?_⟩
                show NV _ _ _ _ _
                refine nv_mk (o := v) HB7.out (by omega) HZ7.out (HRD7.out.mono (fun k hk hl => ?_))
                have hk2 : w6.heap.size + 1 ≤ k := by simpa using hk
                exact ⟨by show w3.heap.size ≤ k; omega, by omega⟩
            ·
              replace inv := inv_setc (i := 8) inv (by kernel_rfl) (by decide)
              go_simp
              have HB8a : Hid (Below w3.heap.size w3 (w3.drew.alloc (.cells #[.bool false, .int .i64 0, .int .i64 0, .slice none 0 0] 36))) := (Below.refl w3.heap.size w3).drew.alloc (Nat.le_refl _) _
              refine hK.out _ _ (fun _ => HCS.out _ HB8a.out) ?_
              clear hK K
              try simp only [Act.put, List.setIfInBounds_toArray, List.set_cons_zero, List.set_cons_succ]
              refine wpU_one (i := 6) (by kernel_rfl) rfl (fun K hK => ?_)
              replace inv := inv_setc (i := 6) inv (by kernel_rfl) (by decide)
              go_simp
              refine (HIHq.out _ (HB13n.out.trans (HB8a.out.mono HB13n.out.size))).mono ?_
              rintro e w6 ⟨x6, rfl, hv6, hb6⟩
              obtain ⟨a6, m6, k6, rfl, hrd6⟩ := vr_form hv6
              have HB6 : Hid (Below w3.heap.size w3 w6) := HB8a.out.trans (hb6.mono HB8a.out.size)
              have HV6 := Lib.hid hv6
              have HBb6 := Lib.hid hb6
              clear hv6 hb6 hrd6
              have HZ6 : Hid (w6.heap[w3.heap.size]? = some (.cells #[.bool false, .int .i64 0, .int .i64 0, .slice none 0 0] 36 (0, 0))) := bx_keep (bx_new w3.drew _ _ rfl) HBb6.out
              refine hK.out _ _ (fun _ => HCS.out _ HB6.out) ?_
              clear hK K
              try simp only [Act.put, List.setIfInBounds_toArray, List.set_cons_zero, List.set_cons_succ]
              refine wpU_one (i := 7) (by kernel_rfl) rfl (fun K hK => ?_)
              replace inv := inv_setc (i := 7) inv (by kernel_rfl) (by decide)
              go_simp
              refine (bothE _ _ o p _ _ _ (HV3.out.below HB6.out) HV6.out (by have h1 := HBD1.out.2.1; have h2 := HBR9.out.2.1; omega) (by have h1 := HBD1.out.2.2; have h2 := HBR9.out.2.2; omega) HBD1.out.w HBR9.out.w).mono ?_
              rintro e w7 ⟨x7, rfl, hv7, hb7⟩
              obtain ⟨a7, m7, k7, rfl, hrd7⟩ := vr_form hv7
              have HB7 : Hid (Below w3.heap.size w3 w7) := HB6.out.trans (hb7.mono HB6.out.size)
              have HRD7 := Lib.hid hrd7
              have HBb7 := Lib.hid hb7
              rw [HVV.out] at HRD7 ⊢
              clear hv7 hb7 hrd7
              have HZ7 : Hid (w7.heap[w3.heap.size]? = some (.cells #[.bool false, .int .i64 0, .int .i64 0, .slice none 0 0] 36 (0, 0))) := bx_keep HZ6.out HBb7.out
              refine hK.out _ _ (fun _ => HCS.out _ HB7.out) ?_
              clear hK K
              try simp only [Act.put, List.setIfInBounds_toArray, List.set_cons_zero, List.set_cons_succ]
              refine wpU_one (i := 9) (by kernel_rfl) rfl (fun K hK => ?_)
              obtain ⟨f0, f1, f2, f3⟩ := bx_free4 HZ7.out
              obtain ⟨e0, e1, e2, e3⟩ := bx_cells4 HZ7.out
              go_simp
              refine hK.out _ _ (fun h => absurd (show true = false from h) (by decide)) ?_
              clear hK K
              try simp only [Act.put, List.setIfInBounds_toArray, List.set_cons_zero, List.set_cons_succ]
              refine wpU_done (by kernel_rfl) ?_ _
              go_wp2_with fail
              go_meet
              have hs3 := HB7.out.size
              have hs6 := HB6.out.size
              refine ⟨w3.heap.size, rfl, ?_⟩
              show NV _ _ _ _ _
              have hz := (Array.getElem?_eq_some_iff.1 HZ6.out).1
              refine nv_mk (o := v) HB7.out (Nat.le_refl _) HZ7.out (HRD7.out.mono (fun k hk hl => ?_))
              have hk2 : w6.heap.size ≤ k := hk
              exact ⟨by show w3.heap.size ≤ k; omega, by omega⟩
          case rest =>
            obtain ⟨b2, rfl, HN4⟩ := hcut
            obtain ⟨w4, HW4⟩ := nameIt wc
            rw [HW4.out] at HN4 ⊢
            clear HW4
            have HB34 := Lib.hid HN4.out.1
            have HN9 := Lib.hid (HN3.out.keep HN4.out.1)
            obtain ⟨a12, m12, k12, hx12, hv12⟩ := nv_form HN4.out
            obtain ⟨a9', m9', k9', hx9, hv9⟩ := nv_form HN9.out
            have HX12 := Lib.hid hx12
            have HX9' := Lib.hid hx9
            have HV12 := Lib.hid hv12
            have HV9' := Lib.hid hv9
            clear hx12 hx9 hv12 hv9
            obtain ⟨p0, p1, p2, p3⟩ := bx_cells4 HX12.out
            obtain ⟨q0, q1, q2, q3⟩ := bx_cells4 HX9'.out
            go_wp2_with fail
            refine (lessE _ _ v bo _ _ _ HV12.out HV9'.out).mono ?_
            rintro e w5 ⟨rfl, hb5⟩
            have HB5 := Lib.hid hb5
            obtain ⟨ll, HLL⟩ := nameIt (lessB v bo)
            rw [HVV.out, HLL.out] at HBE
            rw [HLL.out]
            obtain ⟨p0, p1, p2, p3⟩ := bx_cells4 (bx_keep HX12.out hb5)
            obtain ⟨f0, f1, f2, f3⟩ := bx_free4 (bx_keep HX9'.out hb5)
            obtain ⟨q0, q1, q2, q3⟩ := bx_cells4 (bx_keep HX9'.out hb5)
            have HN5 := Lib.hid (HN9.out.keep hb5)
            have HV5 := Lib.hid (HV12.out.below hb5)
            have hlt : W.heap.size + 1 < w3.heap.size := by
              have h1 := HN.out.lt
              have h2 := HB13.out.size
              omega
            clear hb5
            cases ll with
            | false =>
              have HBE2 : Hid (bestCons V s rest i (k + 1) = bo) := by show _ = _; simpa using HBE.out
              go_wp2_with fail
              go_roundg (j + 1 - i - (k + 1))
              case measure => have := HQ.out; omega
              case rel =>
                have := HQ.out
                refine ⟨k + 1, by omega, by omega, by go_num, ?_⟩
                rw [HBE2.out]
                exact HN5
            | true =>
              have HBE2 : Hid (bestCons V s rest i (k + 1) = v) := by show _ = _; simpa using HBE.out
              have HN6 : Hid (NV w8 (fun k => (P k ∨ W.heap.size ≤ k) ∧ k ≠ W.heap.size) (W.heap.size + 1) v ((((w5.setCell ⟨W.heap.size + 1, 0, none⟩ (.bool v.isSome)).setCell ⟨W.heap.size + 1, 0 + 1, none⟩ (.int .i64 (oC v))).setCell ⟨W.heap.size + 1, 0 + 2, none⟩ (.int .i64 (oN v))).setCell ⟨W.heap.size + 1, 0 + 3, none⟩ (.slice a12 m12 k12))) := by
                obtain ⟨u', e, hrd⟩ := HV5.out
                simp at e
                subst e
                refine nv_mk HN5.out.1 (by have := HSZ8.out; omega) (bx_keep HX9'.out HB5.out) (hrd.mono (fun k hk hl => ?_))
                have hk2 : w3.heap.size ≤ k := hk.1
                exact ⟨⟨.inr (by omega), by omega⟩, by omega⟩
              go_wp2_with fail
              go_roundg (j + 1 - i - (k + 1))
              case measure => have := HQ.out; omega
              case rel =>
                have := HQ.out
                refine ⟨k + 1, by omega, by omega, by go_num, ?_⟩
                rw [HBE2.out]
                exact HN6
      · have hq' : ¬ (q : Int) ≤ (j : Int) := by omega
        have hke : k = j + 1 - i := by have := HQ.out; omega
        have HRE2 : Hid (bo = r) := by show _ = _; rw [← HBO.out, hke]; exact HRE.out
        obtain ⟨a9, m9, k9, hb9, hv9⟩ := nv_form HN.out
        have HV9 : Hid (VR (fun k => (P k ∨ W.heap.size ≤ k) ∧ k ≠ W.heap.size) w1 (.agg #[.bool bo.isSome, .int .i64 (oC bo), .int .i64 (oN bo), .slice a9 m9 k9]) bo) := hv9.mono (fun k hk _ => hk.1)
        obtain ⟨q0, q1, q2, q3⟩ := bx_cells4 hb9
        obtain ⟨z0, z1, z2, z3⟩ := bx_cells4 (bx_keep HZ8.out HN.out.1)
        obtain ⟨f0, f1, f2, f3⟩ := bx_free4 (bx_keep HZ8.out HN.out.1)
        clear hke hb9 hv9
        go_wp2_with fail
        refine bodyPost_ret (v := .agg #[.bool bo.isSome, .int .i64 (oC bo), .int .i64 (oN bo), .slice a9 m9 k9]) (by simp [results, Try.results77, go_sem, z0, z1, z2, z3]) rfl ?_
        exact HEND.out _ HN.out.1 bo _ HV9.out HRE2.out
end Rp
end Go.Proofs.Ytjpmebppdcclbaa
namespace Go.Proofs.Ytjpmebppdcclbaa
namespace Rp
abbrev Tb := Int → Nat → Nat → Option Val
def rvT (leafF : Sym → Nat → Nat → Option Val) (emF : Nat → Nat → Option Val) (T : Tb) (r : Rule) (i j : Nat) : Option Val := if r.right = [] then emF i j else lstV (ofT leafF T) r.right i j
def better (leafF : Sym → Nat → Nat → Option Val) (emF : Nat → Nat → Option Val) (T : Tb) (r : Rule) (i j : Nat) : Bool := lessB (rvT leafF emF T r i j) (T r.left i j)
structure Plan (K : List Rule) (leafF : Sym → Nat → Nat → Option Val) (emF : Nat → Nat → Option Val) (n : Nat) (ok : Sym → Prop) (M : Nat) (Inv : Nat → Nat → Nat → Tb → Prop) (mu : Tb → Nat) : Prop where
  start : Inv 0 0 0 (fun _ _ _ => none)
  no : ∀ a i j T r, K[a]? = some r → i ≤ j → j ≤ n → Inv a i j T → better leafF emF T r i j = false → Inv a i (j + 1) T
  yes : ∀ a i j T r, K[a]? = some r → i ≤ j → j ≤ n → Inv a i j T → better leafF emF T r i j = true → Inv a i (j + 1) (upd T r.left i j (rvT leafF emF T r i j)) ∧ mu (upd T r.left i j (rvT leafF emF T r i j)) < mu T
  row : ∀ a i T, i ≤ n → Inv a i (n + 1) T → Inv a (i + 1) (i + 1) T
  rule : ∀ a T, Inv a (n + 1) (n + 1) T → Inv (a + 1) 0 0 T
  round : ∀ T, Inv K.length 0 0 T → Inv 0 0 0 T
  bd : ∀ a i j T, Inv a i j T → ∀ s, ok s → ∀ i j, i ≤ j → j ≤ n → Bd M (ofT leafF T s i j)
section
variable {K : List Rule} {leafF : Sym → Nat → Nat → Option Val} {emF : Nat → Nat → Option Val} {n : Nat} {ok : Sym → Prop} {M : Nat} {Inv : Nat → Nat → Nat → Tb → Prop} {mu : Tb → Nat}
def Dn (K : List Rule) (leafF : Sym → Nat → Nat → Option Val) (emF : Nat → Nat → Option Val) (n a i j : Nat) (T : Tb) : Prop :=
  ∀ a' r i' j', K[a']? = some r → i' ≤ j' → j' ≤ n → (a' < a ∨ (a' = a ∧ (i' < i ∨ (i' = i ∧ j' < j)))) → better leafF emF T r i' j' = false
structure St (K : List Rule) (leafF : Sym → Nat → Nat → Option Val) (emF : Nat → Nat → Option Val) (n : Nat) (Inv : Nat → Nat → Nat → Tb → Prop) (mu : Tb → Nat) (m0 a i j : Nat) (b : Bool) (T : Tb) : Prop where
  inv : Inv a i j T
  le : mu T ≤ m0
  lt : b = true → mu T < m0
  dn : b = false → Dn K leafF emF n a i j T
variable {m0 a i j : Nat} {b : Bool} {T : Tb} {r : Rule}
theorem St.no (P : Plan K leafF emF n ok M Inv mu) (h : St K leafF emF n Inv mu m0 a i j b T) (hr : K[a]? = some r) (hij : i ≤ j) (hjn : j ≤ n) (hb : better leafF emF T r i j = false) : St K leafF emF n Inv mu m0 a i (j + 1) b T := by
  refine ⟨P.no a i j T r hr hij hjn h.inv hb, h.le, h.lt, fun e a' r' i' j' h1 h2 h3 h4 => ?_⟩
  by_cases e3 : a' = a ∧ i' = i ∧ j' = j
  · obtain ⟨rfl, rfl, rfl⟩ := e3
    rw [hr] at h1
    cases h1
    exact hb
  · exact h.dn e a' r' i' j' h1 h2 h3 (by omega)
theorem St.yes (P : Plan K leafF emF n ok M Inv mu) (h : St K leafF emF n Inv mu m0 a i j b T) (hr : K[a]? = some r) (hij : i ≤ j) (hjn : j ≤ n) (hb : better leafF emF T r i j = true) : St K leafF emF n Inv mu m0 a i (j + 1) true (upd T r.left i j (rvT leafF emF T r i j)) := by
  obtain ⟨h1, h2⟩ := P.yes a i j T r hr hij hjn h.inv hb
  have := h.le
  exact ⟨h1, by omega, fun _ => by omega, fun e => by cases e⟩
theorem St.row (P : Plan K leafF emF n ok M Inv mu) (h : St K leafF emF n Inv mu m0 a i (n + 1) b T) (hi : i ≤ n) : St K leafF emF n Inv mu m0 a (i + 1) (i + 1) b T :=
  ⟨P.row a i T hi h.inv, h.le, h.lt, fun e a' r' i' j' h1 h2 h3 h4 => h.dn e a' r' i' j' h1 h2 h3 (by omega)⟩
theorem St.rule (P : Plan K leafF emF n ok M Inv mu) (h : St K leafF emF n Inv mu m0 a (n + 1) (n + 1) b T) : St K leafF emF n Inv mu m0 (a + 1) 0 0 b T :=
  ⟨P.rule a T h.inv, h.le, h.lt, fun e a' r' i' j' h1 h2 h3 h4 => h.dn e a' r' i' j' h1 h2 h3 (by omega)⟩
theorem St.begin (h : Inv 0 0 0 T) : St K leafF emF n Inv mu (mu T) 0 0 0 false T :=
  ⟨h, Nat.le_refl _, fun e => (by cases e), fun _ a' r' i' j' h1 h2 h3 h4 => by omega⟩
theorem St.again (P : Plan K leafF emF n ok M Inv mu) (h : St K leafF emF n Inv mu m0 K.length 0 0 b T) : Inv 0 0 0 T := P.round T h.inv
def ClosedT (K : List Rule) (leafF : Sym → Nat → Nat → Option Val) (emF : Nat → Nat → Option Val) (n : Nat) (T : Tb) : Prop := ∀ r ∈ K, ∀ i j, i ≤ j → j ≤ n → better leafF emF T r i j = false
theorem St.closed (h : St K leafF emF n Inv mu m0 K.length 0 0 false T) : ClosedT K leafF emF n T := by
  intro r hr i j h1 h2
  obtain ⟨a, ha, e⟩ := List.mem_iff_getElem.1 hr
  exact h.dn rfl a r i j (by rw [List.getElem?_eq_getElem ha, e]) h1 h2 (.inl ha)
end
end Rp
end Go.Proofs.Ytjpmebppdcclbaa
namespace Go.Proofs.Ytjpmebppdcclbaa
open Go.RowKit
structure Aft (w0 : World) where
  w : World
  bel : Below w0.heap.size w0 w
instance (w0 : World) : Nonempty (Aft w0) := ⟨⟨w0, Below.refl _ _⟩⟩
theorem aft_cell {w0 : World} {p : Addr} {v : Value} (h : w0.cell? p = some v) : ∀ x : Aft w0, x.w.cell? p = some v := fun x => (x.bel.cell (lt_of_cell h)).trans h
theorem wp_region_after {P : Program} {id : Nat} {Q : Exit → Act → World → Prop} {a : Act} {w0 : World} {l : List Oper} (hm : P.follows .mixedOrders = true) (hB : Region.lexB .any l.toArray = true)
    (h : wpQuiet P l.toArray (fun w' => ∃ x : Aft w0, w' = x.w) (fun a' => ∀ w', (∃ x : Aft w0, w' = x.w) → Q .normal a' w') l a) : (Code.region id l.toArray true).wp P Q a w0 :=
  wp_region_quiet (C := fun w' => ∃ x : Aft w0, w' = x.w) hm hB ⟨⟨_, (Below.refl _ w0).drew⟩, rfl⟩ (by simpa using h)
theorem Calls.after {P : Program} {f : FuncId} {args : Array Value} {w0 : World} {x : Aft w0} {v : Value} (h : Calls P f args x.w fun e w' => e = .returned v ∧ Below x.w.heap.size x.w w') :
    Calls P f args x.w fun e w'' => e = .returned v ∧ ∃ y : Aft w0, w'' = y.w :=
  h.mono fun _ w'' ⟨he, hb⟩ => ⟨he, ⟨w'', x.bel.trans (hb.mono x.bel.size)⟩, rfl⟩
end Go.Proofs.Ytjpmebppdcclbaa
namespace Go.Proofs.Ytjpmebppdcclbaa
open Go.RowKit
section
variable {P : Program} {ops : Array Oper} {md : Region.Mode} {C : World → Prop}
def wpHd (P : Program) (md : Region.Mode) (ops : Array Oper) (C : World → Prop) (n : Nat) (L : Array Bool → Act → Prop) : Nat → Array Bool → Act → Prop
  | 0, ld, a => L ld a
  | f + 1, ld, a => Region.ready md ops ld ≠ [] ∧ ∀ i ∈ Region.ready md ops ld, i < n ∧ qOp P ops C i (wpHd P md ops C n L f (ld.setIfInBounds i true)) a
theorem wpAny_of_hd {n g : Nat} {L : Array Bool → Act → Prop} {Q : Exit → Act → World → Prop} (hL : ∀ ld a w, C w → L ld a → wpAny P md ops Q g ld a w) :
    ∀ (f : Nat) (ld : Array Bool) (a : Act) (w : World), C w → wpHd P md ops C n L f ld a → wpAny P md ops Q (f + g) ld a w
  | 0, ld, a, w, hw, h => by rw [Nat.zero_add]; exact hL ld a w hw h
  | f + 1, ld, a, w, hw, h => by
    rw [Nat.add_right_comm]
    exact ⟨fun e => absurd e h.1, fun i hi => wpOp_of_qOp hw (fun a' w' hw' h' => wpAny_of_hd hL f _ a' w' hw' h') (h.2 i hi).2⟩
theorem wpHd_first {n i : Nat} {oi : Oper} {v : Value} {L : Array Bool → Act → Prop} (hi : ops[i]? = some oi) (hsel : ∀ (j : Nat) (o : Oper) cs b, ops[j]? = some o → o.op ≠ .select cs b)
    (hs : Region.sinkB md ops n = true) (hc : Region.chainB md ops n = true) (hn : n < ops.size) (hin : i < n) (hend : ∀ ld a, L ld a → ∀ j ∈ Region.ready md ops ld, n ≤ j) :
    ∀ (f : Nat) (ld : Array Bool) (a : Act), HeadInv md ops n ld →
      (∀ j oj, ops[j]? = some oj → j ≠ i → ld.getD j true = false → (∀ e ∈ oj.after, Region.binds md e = true → e.on ≠ i) → oi.apart ops oj = true) →
      i ∈ Region.ready md ops ld → YieldsIn P ops C oi v a → wpHd P md ops C n L f (ld.setIfInBounds i true) (a.put oi.dst v) → wpHd P md ops C n L (f + 1) ld a := by
  intro f
  induction f with
  | zero =>
    intro ld a inv _ hr hy H
    refine ⟨fun e => (by rw [e] at hr; cases hr), fun j hj => ?_⟩
    have hjn : j < n := Nat.lt_of_not_le fun h => tail_waits hs hc hn inv _ i rfl hin (mem_ready.1 hr).1 j h hj
    by_cases e : j = i
    · subst e; exact ⟨hjn, hy.qOp hi H⟩
    · have := hend _ _ H j (ready_mono hj e)
      omega
  | succ f ih =>
    intro ld a inv hfree hr hy H
    refine ⟨fun e => (by rw [e] at hr; cases hr), fun j hj => ?_⟩
    have hjn : j < n := Nat.lt_of_not_le fun h => tail_waits hs hc hn inv _ i rfl hin (mem_ready.1 hr).1 j h hj
    refine ⟨hjn, ?_⟩
    by_cases e : j = i
    · subst e; exact hy.qOp hi H
    obtain ⟨hju, oj, hoj, hall⟩ := mem_ready.1 hj
    have hno : ∀ e ∈ oj.after, Region.binds md e = true → e.on ≠ i := fun x hx hb he => by
      have h1 := hall x hx hb
      rw [he, getD_both (mem_ready.1 hr).1] at h1
      cases h1
    have h2 := qOp_put hoj (hfree j oj hoj e hju hno) (fun cs b => hsel i oi cs b hi) (fun cs b => hsel j oj cs b hoj) hy (H.2 j (ready_mono hj e)).2
    refine qOp_mono (fun a' h3 => ih _ a' (inv.set hj hjn) ?_ (ready_mono hr (Ne.symm e)) h3.1 ?_) h2
    · intro k ok hk hki hu hn'
      by_cases hjk : j = k
      · subst hjk; exact hfree j ok hk hki hju hn'
      · exact hfree k ok hk hki (by rwa [getD_set_ne true hjk] at hu) hn'
    · rw [Array.setIfInBounds_comm _ _ e]
      exact h3.2
theorem wpHd_lex {n g : Nat} {R : Act → Prop} (hsel : Region.noSelect ops = true) (hs : Region.sinkB md ops n = true) (hc : Region.chainB md ops n = true) (hn : n < ops.size) :
    ∀ (l : List Oper) (k : Nat) (ld : Array Bool) (a : Act), (∀ j, j < l.length → l[j]? = ops[k + j]?) → k + l.length = n → HeadInv md ops n ld →
    Region.lexHead md ops g l.length k ld = true → wpQuiet P ops C R l a → wpHd P md ops C n (fun ld' a' => Region.seqB md ops g n ld' = true ∧ R a') l.length ld a
  | [], k, ld, a, _, hk, _, hB, h => by
    obtain rfl : k = n := by simpa using hk
    exact ⟨by simpa [Region.lexHead] using hB, h⟩
  | o :: l, k, ld, a, hl, hk, inv, hB, h => by
    have h0 : ops[k]? = some o := by simpa using (hl 0 (by simp)).symm
    simp only [List.length_cons, Region.lexHead, Bool.and_eq_true] at hB
    have hkn : k < n := by rw [List.length_cons] at hk; omega
    have hr : k ∈ Region.ready md ops ld := by simpa using hB.1.1
    obtain ⟨v, hy, hK⟩ := yieldsIn_of_qOp h0 (show qOp P ops C k (wpQuiet P ops C R l) a by unfold qOp; simp only [h0]; exact h)
    refine wpHd_first h0 (Region.noSelect_spec hsel) hs hc hn hkn (fun _ _ hL => seqB_ready hL.1) l.length ld a inv (Region.free_spec h0 hB.1.2) hr hy ?_
    exact wpHd_lex hsel hs hc hn l (k + 1) _ _ (fun j hj => by have := hl (j + 1) (by simp; omega); simpa [Nat.add_assoc, Nat.add_comm 1 j] using this) (by rw [List.length_cons] at hk; omega) (inv.set hr hkn) hB.2 hK
theorem wp_region_after_tail {id : Nat} {Q : Exit → Act → World → Prop} {a : Act} {w0 : World} {l : List Oper} (n : Nat) (hm : P.follows .mixedOrders = true) (hB : Region.lexTailB .any l.toArray n = true)
    (h : wpQuiet P l.toArray (fun w' => ∃ x : Aft w0, w' = x.w) (fun a' => ∀ w', (∃ x : Aft w0, w' = x.w) → wpList P l.toArray Q (l.drop n) a' w') (l.take n) a) : (Code.region id l.toArray true).wp P Q a w0 := by
  simp only [Region.lexTailB, Bool.and_eq_true, decide_eq_true_eq] at hB
  obtain ⟨⟨⟨⟨hsel, hn⟩, hs⟩, hc⟩, hlex⟩ := hB
  have hn' : n < l.length := by simpa using hn
  have htl : (l.take n).length = n := by simp; omega
  have hdl : (l.drop n).length = l.toArray.size - n := by simp
  have H := wpHd_lex (C := fun w' => ∃ x : Aft w0, w' = x.w) (md := .any) (g := l.toArray.size - n) hsel hs hc hn (l.take n) 0 (Array.replicate l.toArray.size false) a (fun j hj => by
    have hj' : j < n := by rw [htl] at hj; exact hj
    simp [hj']) (by simpa using htl) ⟨by simp, fun j oj _ hl => (by rw [getD_replicate_false] at hl; cases hl), fun t _ ht => getD_in (by simpa using ht) (getD_replicate_false _ _)⟩ (by rw [htl]; exact hlex) h
  refine wp_region_any hm ?_
  have h3 := wpAny_of_hd (Q := Q) (g := l.toArray.size - n) (fun ld a' w' hw hL => by
    have h4 := wpAny_of_seq (md := .any) (Q' := Q) (l.drop n) n ld a' w' (fun j => by simp [List.getElem?_drop]) (by rw [hdl]; exact hL.1) (hL.2 w' hw)
    rwa [hdl] at h4) _ _ _ w0.drew ⟨⟨_, (Below.refl _ w0).drew⟩, rfl⟩ H
  rw [htl, show n + (l.toArray.size - n) = l.toArray.size by omega] at h3
  exact h3
end
end Go.Proofs.Ytjpmebppdcclbaa
namespace Go.Proofs.Ytjpmebppdcclbaa
open Go.RowKit
namespace Rp
def leafR (c : Co) (w : List Int) (y : Sym) (i j : Nat) : Option Val := if y.term then some ⟨oneC c w y.n i j, 1, [y.n]⟩ else none
theorem of_leafR (c : Co) (w : List Int) (T : Tb) (y : Sym) (i j : Nat) : ofT (leafR c w) T y i j = if y.term then some ⟨oneC c w y.n i j, 1, [y.n]⟩ else T y.n i j := by
  unfold ofT leafR
  cases h : y.term with
  | true => simp
  | false =>
    simp
    cases T y.n i j with
    | none => simp [lessB, lessX]
    | some v => simp [lessB, lessX]
structure BT (P : Nat → Prop) (lo bb : Nat) (ra : Nat → Nat) (rb : Nat → Nat → Nat) (N n : Nat) (T : Tb) (w : World) : Prop where
  top : ∀ a, a < N → w.cell? ⟨bb, a, none⟩ = some (.slice (some ⟨ra a, 0, none⟩) (n + 1) (n + 1))
  mid : ∀ a, a < N → ∀ i, i ≤ n → w.cell? ⟨ra a, i, none⟩ = some (.slice (some ⟨rb a i, 0, none⟩) (n + 1) (n + 1))
  row : ∀ a, a < N → ∀ i, i ≤ n → WRow P (rb a i) (n + 1) (T (a : Int) i) w
  lb : ∀ a, a < N → ∀ i, i ≤ n → lo ≤ rb a i
  inj : ∀ a a' i i', a < N → a' < N → i ≤ n → i' ≤ n → rb a i = rb a' i' → a = a' ∧ i = i'
  ne : ∀ a i, a < N → i ≤ n → rb a i ≠ bb ∧ ∀ a', a' < N → rb a i ≠ ra a'
  no : ∀ a i, a < N → i ≤ n → ¬ P (rb a i)
section
variable {P P' : Nat → Prop} {lo bb : Nat} {ra : Nat → Nat} {rb : Nat → Nat → Nat} {N n : Nat} {T : Tb} {w w' : World}
theorem BT.keep (h : BT P lo bb ra rb N n T w) (hb : Below w.heap.size w w') : BT P lo bb ra rb N n T w' :=
  ⟨fun a ha => (hb.cell (p := ⟨bb, a, none⟩) (lt_of_cell (h.top a ha))).trans (h.top a ha), fun a ha i hi => (hb.cell (p := ⟨ra a, i, none⟩) (lt_of_cell (h.mid a ha i hi))).trans (h.mid a ha i hi), fun a ha i hi => (h.row a ha i hi).keep hb, h.lb, h.inj, h.ne, h.no⟩
theorem BT.mono (h : BT P lo bb ra rb N n T w) (hp : ∀ k, P k → k < w.heap.size → P' k) (hno : ∀ a i, a < N → i ≤ n → ¬ P' (rb a i)) : BT P' lo bb ra rb N n T w :=
  ⟨h.top, h.mid, fun a ha i hi => (h.row a ha i hi).mono hp, h.lb, h.inj, h.ne, hno⟩
theorem cell_grown {row : Option Nat} {p : Addr} {v : Value} (h : w.cell? p = some v) (hg : w.grownBy w' row) (hr : row ≠ some p.block) : w'.cell? p = some v := by
  have hl := lt_of_cell h
  rw [← h]
  unfold World.cell?
  rw [hg.block p.block hl (fun e => hr e.symm)]
theorem BT.set (h : BT P lo bb ra rb N n T w) {a i j : Nat} (ha : a < N) (hi : i ≤ n) (hj : j ≤ n) {o : Option Val} {u : Value} (hu : Rd P w (D.ints (oW o)) [u]) :
    BT P lo bb ra rb N n (upd T (a : Int) i j o) ((((w.setCell ⟨rb a i, j * 4, none⟩ (.int .i64 (oC o))).setCell ⟨rb a i, j * 4 + 1, none⟩ (.int .i64 (oN o))).setCell ⟨rb a i, j * 4 + 2, none⟩ u).setCell ⟨rb a i, j * 4 + 3, none⟩ (.bool o.isSome)) := by
  have hg := grown_cellsAt w (rb a i) (j * 4) (j * 4 + 1) (j * 4 + 2) (j * 4 + 3) (.int .i64 (oC o)) (.int .i64 (oN o)) u (.bool o.isSome)
  refine ⟨fun a' ha' => cell_grown (h.top a' ha') hg (by simp; exact (h.ne a i ha hi).1), fun a' ha' i' hi' => cell_grown (h.mid a' ha' i' hi') hg (by simp; exact (h.ne a i ha hi).2 a' ha'), fun a' ha' i' hi' => ?_, h.lb, h.inj, h.ne, h.no⟩
  by_cases e : a' = a ∧ i' = i
  · obtain ⟨rfl, rfl⟩ := e
    refine (h.row a' ha' i' hi').set (by omega) hu (h.no _ _ ha' hi') (fun k hk => ?_)
    unfold upd
    by_cases e : k = j
    · rw [if_pos e, if_pos ⟨rfl, rfl, e⟩]
    · rw [if_neg e, if_neg (fun h => e h.2.2)]
  · have hne : rb a i ≠ rb a' i' := fun h' => e (by obtain ⟨e1, e2⟩ := h.inj a a' i i' ha ha' hi hi' h'; exact ⟨e1.symm, e2.symm⟩)
    refine ((h.row a' ha' i' hi').grown hg (by simpa using hne) (fun k e => by cases e; exact h.no _ _ ha hi)).eq (fun k hk => ?_)
    unfold upd
    rw [if_neg (fun h' => e ⟨by omega, h'.2.1⟩)]
end
set_option maxHeartbeats 4000000 in
set_option maxRecDepth 100000 in
theorem symE (cb : Nat) (gt gn gs : Int) (gr : Value) (c : Co) (hc : c.ok) (w : List Int) (hw : w.length ≤ 12) (P : Nat → Prop) (lo bb : Nat) (ra : Nat → Nat) (rb : Nat → Nat → Nat) (N bk : Nat) (hNk : N ≤ 100) (T : Tb) (y : Sym) (hy : y.term = false → 0 ≤ y.n ∧ y.n < N) (i j : Nat) (hij : i ≤ j) (hj : j ≤ w.length)
    (W : World) (hm : CM cb gt gn gs gr (.slice (some ⟨bb, 0, none⟩) N bk) c w W) (ht : BT P lo bb ra rb N w.length T W) (hP : ∀ k, P k → k < W.heap.size) :
    Calls Try.prog 67 #[.pointer (some ⟨cb, 0, none⟩), .agg #[.bool y.term, .int .i64 y.n], .int .i64 (i : Nat), .int .i64 (j : Nat)] W fun e w' => ∃ x, e = .returned x ∧ WR (fun k => P k ∨ W.heap.size ≤ k) w' x (ofT (leafR c w) T y i j) ∧ Below W.heap.size W w' := by
  rw [of_leafR]
  obtain ⟨bt, yn⟩ := y
  simp only at hy ⊢
  obtain ⟨w0, HW⟩ := nameIt ((W.alloc (.cells #[.bool bt, .int .i64 yn] 44)).alloc (.cells #[.int .i64 0, .int .i64 0, .slice none 0 0, .bool false] 72))
  have hw0 : Below W.heap.size W w0 := by
    rw [← HW.out]
    exact ((Below.refl _ _).alloc (Nat.le_refl _) _).alloc (by simp) _
  have HSZ : Hid (w0.heap.size = W.heap.size + 1 + 1) := by show _ = _; rw [← HW.out]; simp
  have HZ0 : Hid (w0.heap[W.heap.size + 1]? = some (.cells #[.int .i64 0, .int .i64 0, .slice none 0 0, .bool false] 72 (0, 0))) := by
    rw [← HW.out]; exact bx_new _ _ _ (by simp)
  have HY0 : Hid (w0.heap[W.heap.size]? = some (.cells #[.bool bt, .int .i64 yn] 44 (0, 0))) := by
    rw [← HW.out]; exact bx_keep (bx_new _ _ _ rfl) ((Below.refl _ _).alloc (Nat.le_refl _) _)
  have HB0 := Lib.hid hw0
  have HEND : Hid (∀ w3, Below w0.heap.size w0 w3 → ∀ (o : Option Val) u, WR (fun k => (P k ∨ W.heap.size ≤ k) ∧ k ≠ W.heap.size + 1) w3 (.agg #[.int .i64 (oC o), .int .i64 (oN o), u, .bool o.isSome]) o → 
      ∃ x, Ending.returned (.agg #[.int .i64 (oC o), .int .i64 (oN o), u, .bool o.isSome]) = .returned x ∧ WR (fun k => P k ∨ W.heap.size ≤ k) ((((w3.setCell ⟨W.heap.size + 1, 0, none⟩ (.int .i64 (oC o))).setCell ⟨W.heap.size + 1, 0 + 1, none⟩ (.int .i64 (oN o))).setCell ⟨W.heap.size + 1, 0 + 2, none⟩ u).setCell ⟨W.heap.size + 1, 0 + 3, none⟩ (.bool o.isSome)) x o ∧ Below W.heap.size W ((((w3.setCell ⟨W.heap.size + 1, 0, none⟩ (.int .i64 (oC o))).setCell ⟨W.heap.size + 1, 0 + 1, none⟩ (.int .i64 (oN o))).setCell ⟨W.heap.size + 1, 0 + 2, none⟩ u).setCell ⟨W.heap.size + 1, 0 + 3, none⟩ (.bool o.isSome))) := by
    intro w3 hb3 o u hv
    have hg := grown_cell4 w3 (W.heap.size + 1) (.int .i64 (oC o)) (.int .i64 (oN o)) u (.bool o.isSome)
    have hB : Below W.heap.size W w3 := HB0.out.trans (hb3.mono HB0.out.size)
    refine ⟨_, rfl, (hv.grown hg ?_).mono (fun k h _ => h.1), hB.grown hg hB.size ?_⟩
    · intro k e h
      cases e
      exact h.2 rfl
    · intro k e
      cases e
      omega
  cases bt with
  | true =>
    simp only [if_true]
    have HCM := Lib.hid (hm.keep hw0)
    obtain ⟨o, HO⟩ := nameIt (some (⟨oneC c w yn i j, 1, [yn]⟩ : Val))
    rw [HO.out]
    obtain ⟨y0, y1⟩ := bx_cells2 HY0.out
    clear hm ht hy
    go_enter Try.func67, Try.ntmps67
    go_upto_region 1 with fail
    rw [HW.out]
    clear HW hw0
    go_wp2_with fail
    refine (oneE cb gt gn gs gr _ c hc w yn i j hij hj hw w0 HCM.out).mono ?_
    rintro e w2 ⟨x, rfl, hv, hb2⟩
    rw [HO.out] at hv
    obtain ⟨a1, m1, k1, rfl, hrd⟩ := hv.form
    have HB2 := Lib.hid hb2
    have HV2 : Hid (WR (fun k => (P k ∨ W.heap.size ≤ k) ∧ k ≠ W.heap.size + 1) w2 (.agg #[.int .i64 (oC o), .int .i64 (oN o), .slice a1 m1 k1, .bool o.isSome]) o) := hv.mono (fun k hk _ => by
      have := HSZ.out
      have hk2 : w0.heap.size ≤ k := hk
      exact ⟨.inr (by omega), by omega⟩)
    obtain ⟨z0, z1, z2, z3⟩ := bx_cells4 (bx_keep HZ0.out hb2)
    obtain ⟨f0, f1, f2, f3⟩ := bx_free4 (bx_keep HZ0.out hb2)
    clear hv hb2 hrd
    go_wp2_with fail
    refine bodyPost_ret (v := .agg #[.int .i64 (oC o), .int .i64 (oN o), .slice a1 m1 k1, .bool o.isSome]) (by simp [results, Try.results67, go_sem, z0, z1, z2, z3]) rfl ?_
    exact HEND.out _ HB2.out o _ HV2.out
  | false =>
    simp only [Bool.false_eq_true, if_false]
    obtain ⟨hy1, hy2⟩ := hy rfl
    obtain ⟨a, rfl⟩ : ∃ a : Nat, yn = (a : Int) := ⟨yn.toNat, by omega⟩
    have haN : a < N := by omega
    have haN' : (a : Int) < (N : Int) := by omega
    obtain ⟨wn, HWN⟩ := nameIt w.length
    have hcm := hm.keep hw0
    have hbt := ht.keep hw0
    rw [HWN.out] at hbt hj hw
    obtain ⟨wa, wk, hbx, -⟩ := hcm.box
    have t0 := hbt.top a haN
    have t1 := hbt.mid a haN i (by omega)
    obtain ⟨au, mu, ku, hgc, hwr⟩ := (hbt.row a haN i (by omega)).get (j := j) (by omega)
    have hrl := (hbt.row a haN i (by omega)).lt
    obtain ⟨o, HO⟩ := nameIt (T (a : Int) i j)
    rw [HO.out] at hgc hwr ⊢
    obtain ⟨A, HA⟩ := nameIt (ra a)
    obtain ⟨B, HB⟩ := nameIt (rb a i)
    rw [HA.out] at t0 t1
    rw [HB.out] at t1 hgc hrl
    have hi' : (i : Int) < ((wn + 1 : Nat) : Int) := by omega
    have hj' : (j : Int) < ((wn + 1 : Nat) : Int) := by omega
    obtain ⟨m1, HM1⟩ := nameIt (wn + 1)
    rw [HM1.out] at t0 t1 hi' hj'
    have HBX := Lib.hid hbx
    have HGC := Lib.hid hgc
    have HWR := Lib.hid hwr
    have HRL := Lib.hid hrl
    have HT0 := Lib.hid t0
    have HT1 := Lib.hid t1
    have HCS : Hid (∀ w', Below w0.heap.size w0 w' → w'.cell? ⟨cb, 0 + 8, none⟩ = some (.slice (some ⟨bb, 0, none⟩) N bk) ∧ w'.cell? ⟨W.heap.size, 0 + 1, none⟩ = some (.int .i64 (a : Int)) ∧ w'.cell? ⟨bb, a, none⟩ = some (.slice (some ⟨A, 0, none⟩) m1 m1) ∧ w'.cell? ⟨A, i, none⟩ = some (.slice (some ⟨B, 0, none⟩) m1 m1) ∧
        w'.cell? ⟨B, j * 4, none⟩ = some (.int .i64 (oC o)) ∧ w'.cell? ⟨B, j * 4 + 1, none⟩ = some (.int .i64 (oN o)) ∧ w'.cell? ⟨B, j * 4 + 2, none⟩ = some (.slice au mu ku) ∧ w'.cell? ⟨B, j * 4 + 3, none⟩ = some (.bool o.isSome)) := by
      intro w' hb'
      obtain ⟨h1, h2, h3, h4, h5⟩ := bx_cells9r (bx_keep HBX.out hb')
      obtain ⟨h6, h7, h8, h9⟩ := HGC.out w' (hb'.block B HRL.out)
      exact ⟨h5, (bx_cells2 (bx_keep HY0.out hb')).2, (hb'.cell (lt_of_cell HT0.out)).trans HT0.out, (hb'.cell (lt_of_cell HT1.out)).trans HT1.out, h6, h7, h8, h9⟩
    obtain ⟨y0, y1⟩ := bx_cells2 HY0.out
    have HPP := Lib.hid hP
    clear hbx hgc hwr hrl t0 t1 hcm hbt hm ht hy hy1 hy2 HA HB HWN hP
    go_enter Try.func67, Try.ntmps67
    go_upto_region 1 with fail
    rw [HW.out]
    clear HW hw0
    go_upto_region 3 with fail
    obtain ⟨c0, c1, c2, c3, c4, c5, c6, c7⟩ := HCS.out w0 (Below.refl _ _)
    have i0 := aft_cell c0
    have i1 := aft_cell c1
    have i2 := aft_cell c2
    have i3 := aft_cell c3
    have i4 := aft_cell c4
    have i5 := aft_cell c5
    have i6 := aft_cell c6
    have i7 := aft_cell c7
    clear c0 c1 c2 c3 c4 c5 c6 c7 y0 y1
    refine wp_region_after_tail 14 (by kernel_rfl) (by kernel_rfl) ?_
    simp only [List.take_succ_cons, List.take_zero, List.drop_succ_cons, List.drop_zero]
    repeat (go_big_quiet_step (fail))
    refine wpQuiet_nil ?_
    rintro w9 ⟨⟨_, hb9⟩, rfl⟩
    have HB9 := Lib.hid hb9
    obtain ⟨z0, z1, z2, z3⟩ := bx_cells4 (bx_keep HZ0.out hb9)
    obtain ⟨f0, f1, f2, f3⟩ := bx_free4 (bx_keep HZ0.out hb9)
    have HV9 : Hid (WR (fun k => (P k ∨ W.heap.size ≤ k) ∧ k ≠ W.heap.size + 1) w9 (.agg #[.int .i64 (oC o), .int .i64 (oN o), .slice au mu ku, .bool o.isSome]) o) := (HWR.out.below hb9).mono (fun k hk _ => by
      have := HPP.out k hk
      exact ⟨.inl hk, by omega⟩)
    clear hb9 i0 i1 i2 i3 i4 i5 i6 i7
    go_wp2_with fail
    refine bodyPost_ret (v := .agg #[.int .i64 (oC o), .int .i64 (oN o), .slice au mu ku, .bool o.isSome]) (by simp [results, Try.results67, go_sem, z0, z1, z2, z3]) rfl ?_
    exact HEND.out _ HB9.out o _ HV9.out
end Rp
end Go.Proofs.Ytjpmebppdcclbaa
namespace Go.Proofs.Ytjpmebppdcclbaa
namespace Rp
def emR (c : Co) (i j : Nat) : Option Val := some ⟨(j - i) * c.c1, 0, []⟩
def stepK (V : Sym → Nat → Nat → Option Val) (s : Sym) (at' : Nat → Option Val) (k : Nat) (next : Nat → Option Val) (j : Nat) : Option Val :=
  if k ≤ j && lessB (bothO (at' k) (V s k j)) (next j) then bothO (at' k) (V s k j) else next j
def symF (V : Sym → Nat → Nat → Option Val) (s : Sym) (at' : Nat → Option Val) (i : Nat) : Nat → Nat → Option Val
  | 0 => fun _ => none
  | m + 1 => stepK V s at' (i + m) (symF V s at' i m)
def foldF (V : Sym → Nat → Nat → Option Val) (i n : Nat) : List Sym → (Nat → Option Val) → Nat → Option Val
  | [], at' => at'
  | s :: l, at' => foldF V i n l (symF V s at' i (n + 1 - i))
def startF (i : Nat) (j : Nat) : Option Val := if j = i then some zero else none
def ruleF (V : Sym → Nat → Nat → Option Val) (c : Co) (r : Rule) (i n : Nat) (j : Nat) : Option Val :=
  if r.right = [] then (if i ≤ j then emR c i j else none) else foldF V i n r.right (startF i) j
end Rp
end Go.Proofs.Ytjpmebppdcclbaa
namespace Go.Proofs.Ytjpmebppdcclbaa
namespace Rp
theorem cmpL_lx : ∀ (l m : List Int), cmpL l m < 0 ↔ lx l m
  | [], [] => by simp [cmpL, lx]
  | [], _ :: _ => by simp [cmpL, lx]
  | _ :: _, [] => by simp [cmpL, lx]
  | x :: l, y :: m => by
    unfold cmpL lx
    by_cases h : cmp3 x y = 0
    · have := cmp3_zero h
      subst this
      rw [if_pos h]
      constructor
      · intro h1; exact .inr ⟨rfl, (cmpL_lx l m).1 h1⟩
      · rintro (h1 | ⟨_, h1⟩)
        · omega
        · exact (cmpL_lx l m).2 h1
    · rw [if_neg h]
      have hne : x ≠ y := fun e => h (by rw [e]; exact cmp3_self y)
      unfold cmp3
      constructor
      · intro h1
        by_cases h2 : x < y
        · exact .inl h2
        · rw [if_neg h2] at h1
          split at h1 <;> omega
      · rintro (h1 | ⟨h1, _⟩)
        · rw [if_pos h1]; decide
        · exact absurd h1 hne
theorem less_some {a b : Val} (ha : Wf a) (hb : Wf b) : lessB (some a) (some b) = true ↔ lt a b := by
  rw [lt_iff, ← cmpL_lx]
  show lessX true a.c a.n a.w true b.c b.n b.w = true ↔ _
  rw [lessX_tt]
  by_cases h1 : a.c = b.c
  · by_cases h2 : a.n = b.n
    · by_cases hl : b.n ≤ 2000
      · simp [h1, h2, hl]
      · have e1 : a.w = [] := by
          rcases ha with ⟨h, _⟩ | ⟨_, h⟩
          · unfold maxL at h; omega
          · exact h
        have e2 : b.w = [] := by
          rcases hb with ⟨h, _⟩ | ⟨_, h⟩
          · unfold maxL at h; omega
          · exact h
        simp [h1, h2, hl, e1, e2, cmpL]
    · simp [h1, h2]
  · simp [h1]
theorem less_none {o : Option Val} : lessB none o = false := by cases o <;> rfl
theorem less_some_none {a : Val} : lessB (some a) none = true := rfl
theorem best_add {S S' : Val → Prop} {cur new : Option Val} (hS : ∀ v, S' v ↔ S v ∨ new = some v) (hw : WfO cur) (hw' : WfO new) (h : Best S cur) : Best S' (if lessB new cur then new else cur) := by
  cases new with
  | none =>
    rw [less_none]
    exact h.eq (fun v => by rw [hS]; simp)
  | some a =>
    cases cur with
    | none =>
      rw [less_some_none, if_pos rfl]
      refine ⟨(hS a).2 (.inr rfl), fun u hu => ?_⟩
      rcases (hS u).1 hu with h1 | h1
      · exact absurd h1 (h u)
      · cases h1; exact le_refl _
    | some b =>
      by_cases hl : lessB (some a) (some b) = true
      · rw [if_pos hl]
        have hlt := (less_some (hw' a rfl) (hw b rfl)).1 hl
        refine ⟨(hS a).2 (.inr rfl), fun u hu => ?_⟩
        rcases (hS u).1 hu with h1 | h1
        · exact le_trans (.inr hlt) (h.2 u h1)
        · cases h1; exact le_refl _
      · rw [if_neg hl]
        have hle : le b a := le_of_not (fun h' => hl ((less_some (hw' a rfl) (hw b rfl)).2 h'))
        refine ⟨(hS b).2 (.inl h.1), fun u hu => ?_⟩
        rcases (hS u).1 hu with h1 | h1
        · exact h.2 u h1
        · cases h1; exact hle
theorem wf_both {o p : Option Val} (h : WfO o) (h' : WfO p) : WfO (bothO o p) := by
  cases o with
  | none => intro v e; cases e
  | some a =>
    cases p with
    | none => intro v e; cases e
    | some b => intro v e; cases e; exact wf_thn (h a rfl) (h' b rfl)
theorem wf_pick {o p : Option Val} {b : Bool} (h : WfO o) (h' : WfO p) : WfO (if b then o else p) := by split <;> assumption
theorem both_eq {o p : Option Val} {v : Val} : bothO o p = some v ↔ ∃ a b, o = some a ∧ p = some b ∧ v = thn a b := by
  cases o with
  | none => simp [bothO]
  | some a =>
    cases p with
    | none => simp [bothO]
    | some b =>
      constructor
      · intro h; cases h; exact ⟨a, b, rfl, rfl, rfl⟩
      · rintro ⟨a', b', h1, h2, rfl⟩; cases h1; cases h2; rfl
def VP (V : Sym → Nat → Nat → Option Val) (n : Nat) (s : Sym) (i j : Nat) (v : Val) : Prop := i ≤ j ∧ j ≤ n ∧ V s i j = some v
theorem best_bestCons {V : Sym → Nat → Nat → Option Val} {s : Sym} {rest : Nat → Option Val} {i : Nat} : ∀ k, (∀ m, i ≤ m → m < i + k → WfO (V s i m) ∧ WfO (rest m)) →
    WfO (bestCons V s rest i k) ∧ Best (fun v => ∃ m a b, i ≤ m ∧ m < i + k ∧ V s i m = some a ∧ rest m = some b ∧ v = thn a b) (bestCons V s rest i k)
  | 0, _ => ⟨fun v h => (by cases h), fun v ⟨m, a, b, h1, h2, _⟩ => by omega⟩
  | k + 1, hw => by
    obtain ⟨h1, h2⟩ := best_bestCons (V := V) (s := s) (rest := rest) (i := i) k (fun m h3 h4 => hw m h3 (by omega))
    obtain ⟨w1, w2⟩ := hw (i + k) (by omega) (by omega)
    have e : bestCons V s rest i (k + 1) = if lessB (bothO (V s i (i + k)) (rest (i + k))) (bestCons V s rest i k) then bothO (V s i (i + k)) (rest (i + k)) else bestCons V s rest i k := by
      show (if (V s i (i + k)).isSome && _ then _ else _) = _
      cases hv : V s i (i + k) with
      | none => simp [bothO, less_none]
      | some a => simp
    rw [e]
    refine ⟨wf_pick (wf_both w1 w2) h1, best_add (fun v => ?_) h1 (wf_both w1 w2) h2⟩
    rw [both_eq]
    constructor
    · rintro ⟨m, a, b, h3, h4, h5, h6, h7⟩
      rcases Nat.lt_or_ge m (i + k) with h8 | h8
      · exact .inl ⟨m, a, b, h3, h8, h5, h6, h7⟩
      · have : m = i + k := by omega
        subst this
        exact .inr ⟨a, b, h5, h6, h7⟩
    · rintro (⟨m, a, b, h3, h4, h5, h6, h7⟩ | ⟨a, b, h5, h6, h7⟩)
      · exact ⟨m, a, b, h3, by omega, h5, h6, h7⟩
      · exact ⟨i + k, a, b, by omega, by omega, h5, h6, h7⟩
theorem best_lstV {V : Sym → Nat → Nat → Option Val} {n : Nat} : ∀ {l : List Sym} {i j : Nat}, l ≠ [] → (∀ s ∈ l, ∀ i j, i ≤ j → j ≤ n → WfO (V s i j)) → i ≤ j → j ≤ n → WfO (lstV V l i j) ∧ Best (Row0 (VP V n) l i j) (lstV V l i j)
  | [], _, _, h, _, _, _ => absurd rfl h
  | [s], i, j, _, hw, hij, hj => by
    refine ⟨hw s (by simp) i j hij hj, ?_⟩
    show Best _ (V s i j)
    cases e : V s i j with
    | none =>
      rintro v ⟨m, a, b, h1, h2, ⟨h3, h4, h5⟩, ⟨rfl, rfl⟩, rfl⟩
      rw [e] at h5; cases h5
    | some a =>
      have wa := hw s (by simp) i j hij hj a e
      refine ⟨⟨j, a, zero, hij, Nat.le_refl _, ⟨hij, hj, e⟩, ⟨rfl, rfl⟩, (thn_zero wa).symm⟩, ?_⟩
      rintro u ⟨m, a', b, h1, h2, ⟨h3, h4, h5⟩, ⟨rfl, rfl⟩, rfl⟩
      rw [e] at h5; cases h5
      rw [thn_zero wa]; exact le_refl _
  | s :: t :: l, i, j, _, hw, hij, hj => by
    have hr : ∀ m, i ≤ m → m ≤ j → WfO (lstV V (t :: l) m j) ∧ Best (Row0 (VP V n) (t :: l) m j) (lstV V (t :: l) m j) := fun m h1 h2 => best_lstV (by simp) (fun s hs => hw s (by simp [List.mem_cons] at hs ⊢; exact .inr hs)) h2 hj
    obtain ⟨h1, h2⟩ := best_bestCons (V := V) (s := s) (rest := fun m => lstV V (t :: l) m j) (i := i) (j + 1 - i) (fun m h3 h4 => ⟨hw s (by simp) i m h3 (by omega), (hr m h3 (by omega)).1⟩)
    refine ⟨h1, best_cons (rest := fun m => lstV V (t :: l) m j) (fun m h3 h4 => (hr m h3 h4).2) (h2.eq (fun v => ?_))⟩
    constructor
    · rintro ⟨m, a, b, h3, h4, h5, h6, h7⟩
      exact ⟨m, a, b, h3, by omega, ⟨h3, by omega, h5⟩, h6, h7⟩
    · rintro ⟨m, a, b, h3, h4, ⟨_, _, h5⟩, h6, h7⟩
      exact ⟨m, a, b, h3, by omega, h5, h6, h7⟩
end Rp
end Go.Proofs.Ytjpmebppdcclbaa
namespace Go.Proofs.Ytjpmebppdcclbaa
namespace Rp
theorem vp_ok {V : Sym → Nat → Nat → Option Val} {n : Nat} (hv : ∀ s i j, i ≤ j → j ≤ n → WfO (V s i j)) : ∀ s i j v, VP V n s i j v → i ≤ j ∧ Wf v := fun s i j v h => ⟨h.1, hv s i j h.1 h.2.1 v h.2.2⟩
end Rp
end Go.Proofs.Ytjpmebppdcclbaa
namespace Go.Proofs.Ytjpmebppdcclbaa
open Go.RowKit
namespace Rp
end Rp
end Go.Proofs.Ytjpmebppdcclbaa
namespace Go.Proofs.Ytjpmebppdcclbaa
open Go.RowKit
namespace Rp
def NW (w0 : World) (P : Nat → Prop) (b : Nat) (o : Option Val) (w : World) : Prop :=
  Below w0.heap.size w0 w ∧ w0.heap.size ≤ b ∧ ∃ a m k, w.heap[b]? = some (.cells #[.int .i64 (oC o), .int .i64 (oN o), .slice a m k, .bool o.isSome] 72 (0, 0)) ∧ Rd (fun k => P k ∧ k ≠ b) w (D.ints (oW o)) [.slice a m k]
theorem NW.keep {w0 w w' : World} {P : Nat → Prop} {b : Nat} {o : Option Val} (h : NW w0 P b o w) (hb : Below w.heap.size w w') : NW w0 P b o w' := by
  obtain ⟨h1, h2, a, m, k, h3, h4⟩ := h
  exact ⟨h1.trans (hb.mono h1.size), h2, a, m, k, bx_keep h3 hb, h4.below hb⟩
end Rp
end Go.Proofs.Ytjpmebppdcclbaa
namespace Go.Proofs.Ytjpmebppdcclbaa
namespace Rp
def betR (c : Co) (w : List Int) (n : Nat) (T : Tb) (r : Rule) (i j : Nat) : Bool := lessB (ruleF (ofT (leafR c w) T) c r i n j) (T r.left i j)
def rowU (c : Co) (w : List Int) (n : Nat) (T : Tb) (r : Rule) (i j : Nat) : Tb := fun A x y => if A = r.left ∧ x = i ∧ y < j ∧ betR c w n T r i y = true then ruleF (ofT (leafR c w) T) c r i n y else T A x y
theorem rowU_zero (c : Co) (w : List Int) (n : Nat) (T : Tb) (r : Rule) (i : Nat) : rowU c w n T r i 0 = T := by
  funext A x y
  unfold rowU
  rw [if_neg (fun h => by omega)]
theorem rowU_no {c : Co} {w : List Int} {n : Nat} {T : Tb} {r : Rule} {i j : Nat} (h : betR c w n T r i j = false) : rowU c w n T r i (j + 1) = rowU c w n T r i j := by
  funext A x y
  unfold rowU
  by_cases e : A = r.left ∧ x = i ∧ y < j ∧ betR c w n T r i y = true
  · rw [if_pos e, if_pos ⟨e.1, e.2.1, by omega, e.2.2.2⟩]
  · rw [if_neg e, if_neg (fun h' => e ⟨h'.1, h'.2.1, by
      rcases Nat.lt_or_ge y j with h1 | h1
      · exact h1
      · have : y = j := by omega
        rw [this, h] at h'
        simp at h', h'.2.2.2⟩)]
structure Plan2 (K : List Rule) (c : Co) (w : List Int) (n : Nat) (ok : Sym → Prop) (M : Nat) (Inv : Nat → Nat → Tb → Prop) (mu : Tb → Nat) : Prop where
  start : Inv 0 0 (fun _ _ _ => none)
  step : ∀ a i T r, K[a]? = some r → i ≤ n → Inv a i T → Inv a (i + 1) (rowU c w n T r i (n + 1))
  dec : ∀ a i j T r, K[a]? = some r → i ≤ n → j ≤ n → Inv a i T → betR c w n T r i j = true → mu (rowU c w n T r i (j + 1)) < mu (rowU c w n T r i j)
  rule : ∀ a T, Inv a (n + 1) T → Inv (a + 1) 0 T
  round : ∀ T, Inv K.length 0 T → Inv 0 0 T
  bd : ∀ a i T, Inv a i T → ∀ s, ok s → ∀ i j, i ≤ j → j ≤ n → Bd M (ofT (leafR c w) T s i j)
  wf : ∀ a i T, Inv a i T → ∀ A x y, WfO (T A x y)
section
variable {K : List Rule} {c : Co} {w : List Int} {n : Nat} {ok : Sym → Prop} {M : Nat} {Inv : Nat → Nat → Tb → Prop} {mu : Tb → Nat}
def Dn2 (K : List Rule) (c : Co) (w : List Int) (n a i : Nat) (T : Tb) : Prop := ∀ a' r i' j', K[a']? = some r → i' ≤ n → j' ≤ n → (a' < a ∨ (a' = a ∧ i' < i)) → betR c w n T r i' j' = false
structure St2 (K : List Rule) (c : Co) (w : List Int) (n : Nat) (Inv : Nat → Nat → Tb → Prop) (mu : Tb → Nat) (m0 a i : Nat) (b : Bool) (T : Tb) : Prop where
  inv : Inv a i T
  le : mu T ≤ m0
  lt : b = true → mu T < m0
  dn : b = false → Dn2 K c w n a i T
structure Sr2 (K : List Rule) (c : Co) (w : List Int) (n : Nat) (Inv : Nat → Nat → Tb → Prop) (mu : Tb → Nat) (m0 a i : Nat) (T : Tb) (r : Rule) (j : Nat) (b : Bool) : Prop where
  inv : Inv a i T
  le : mu (rowU c w n T r i j) ≤ m0
  lt : b = true → mu (rowU c w n T r i j) < m0
  dn : b = false → Dn2 K c w n a i T ∧ ∀ y, y < j → betR c w n T r i y = false
variable {m0 a i j : Nat} {b : Bool} {T : Tb} {r : Rule}
theorem Sr2.begin (h : St2 K c w n Inv mu m0 a i b T) (r : Rule) : Sr2 K c w n Inv mu m0 a i T r 0 b :=
  ⟨h.inv, by rw [rowU_zero]; exact h.le, fun e => by rw [rowU_zero]; exact h.lt e, fun e => ⟨h.dn e, fun y hy => by omega⟩⟩
theorem Sr2.no (h : Sr2 K c w n Inv mu m0 a i T r j b) (hb : betR c w n T r i j = false) : Sr2 K c w n Inv mu m0 a i T r (j + 1) b := by
  refine ⟨h.inv, by rw [rowU_no hb]; exact h.le, fun e => by rw [rowU_no hb]; exact h.lt e, fun e => ⟨(h.dn e).1, fun y hy => ?_⟩⟩
  rcases Nat.lt_or_ge y j with h1 | h1
  · exact (h.dn e).2 y h1
  · rw [show y = j by omega]; exact hb
theorem Sr2.yes (P : Plan2 K c w n ok M Inv mu) (hr : K[a]? = some r) (hi : i ≤ n) (hj : j ≤ n) (h : Sr2 K c w n Inv mu m0 a i T r j b) (hb : betR c w n T r i j = true) : Sr2 K c w n Inv mu m0 a i T r (j + 1) true := by
  have h1 := P.dec a i j T r hr hi hj h.inv hb
  have h2 := h.le
  exact ⟨h.inv, by omega, fun _ => by omega, fun e => (by cases e)⟩
theorem Sr2.done (P : Plan2 K c w n ok M Inv mu) (hr : K[a]? = some r) (hi : i ≤ n) (h : Sr2 K c w n Inv mu m0 a i T r (n + 1) b) : St2 K c w n Inv mu m0 a (i + 1) b (rowU c w n T r i (n + 1)) := by
  refine ⟨P.step a i T r hr hi h.inv, h.le, h.lt, fun e => ?_⟩
  obtain ⟨h1, h2⟩ := h.dn e
  have e1 : rowU c w n T r i (n + 1) = T := by
    funext A x y
    unfold rowU
    rw [if_neg (fun h' => by rw [h2 y h'.2.2.1] at h'; simp at h')]
  rw [e1]
  intro a' r' i' j' h3 h4 h5 h6
  by_cases e2 : a' = a ∧ i' = i
  · obtain ⟨rfl, rfl⟩ := e2
    rw [hr] at h3
    cases h3
    exact h2 j' (by omega)
  · exact h1 a' r' i' j' h3 h4 h5 (by omega)
theorem St2.rule (P : Plan2 K c w n ok M Inv mu) (h : St2 K c w n Inv mu m0 a (n + 1) b T) : St2 K c w n Inv mu m0 (a + 1) 0 b T :=
  ⟨P.rule a T h.inv, h.le, h.lt, fun e a' r' i' j' h1 h2 h3 h4 => h.dn e a' r' i' j' h1 h2 h3 (by omega)⟩
theorem St2.begin (h : Inv 0 0 T) : St2 K c w n Inv mu (mu T) 0 0 false T :=
  ⟨h, Nat.le_refl _, fun e => (by cases e), fun _ a' r' i' j' h1 h2 h3 h4 => by omega⟩
theorem St2.again (P : Plan2 K c w n ok M Inv mu) (h : St2 K c w n Inv mu m0 K.length 0 b T) : Inv 0 0 T := P.round T h.inv
def ClosedR (K : List Rule) (c : Co) (w : List Int) (n : Nat) (T : Tb) : Prop := ∀ r ∈ K, ∀ i j, i ≤ n → j ≤ n → betR c w n T r i j = false
theorem St2.closed (h : St2 K c w n Inv mu m0 K.length 0 false T) : ClosedR K c w n T := by
  intro r hr i j h1 h2
  obtain ⟨a, ha, e⟩ := List.mem_iff_getElem.1 hr
  exact h.dn rfl a r i j (by rw [List.getElem?_eq_getElem ha, e]) h1 h2 (.inl ha)
end
end Rp
end Go.Proofs.Ytjpmebppdcclbaa
namespace Go.Proofs.Ytjpmebppdcclbaa
namespace Rp
def wordsU (t : Nat) : Nat → List (List Int)
  | 0 => [[]]
  | L + 1 => [] :: (wordsU t L).flatMap fun w => (List.range t).map fun (x : Nat) => (x : Int) :: w
theorem mem_wordsU (t : Nat) : ∀ (L : Nat) (w : List Int), w.length ≤ L → (∀ x ∈ w, 0 ≤ x ∧ x < (t : Int)) → w ∈ wordsU t L
  | 0, w, h, _ => by
    have : w = [] := List.eq_nil_of_length_eq_zero (by omega)
    simp [wordsU, this]
  | L + 1, [], _, _ => by simp [wordsU]
  | L + 1, x :: w, h, hx => by
    simp only [wordsU, List.mem_cons, List.mem_flatMap, List.mem_map, List.mem_range]
    right
    have := hx x (by simp)
    exact ⟨w, mem_wordsU t L w (by simp at h; omega) (fun y hy => hx y (by simp [hy])), x.toNat, by omega, by rw [show ((x.toNat : Nat) : Int) = x by omega]⟩
def valsU (t C S : Nat) : List Val := (List.range (C + 1)).flatMap fun c => (List.range (S + 1)).flatMap fun n => (wordsU t 2000).map fun w => ⟨c, n, w⟩
theorem mem_valsU {t C S : Nat} {v : Val} (hc : v.c ≤ C) (hn : v.n ≤ S) (hw : Wf v) (hx : ∀ x ∈ v.w, 0 ≤ x ∧ x < (t : Int)) : v ∈ valsU t C S := by
  unfold valsU
  rw [List.mem_flatMap]
  refine ⟨v.c, by simp; omega, ?_⟩
  rw [List.mem_flatMap]
  refine ⟨v.n, by simp; omega, ?_⟩
  rw [List.mem_map]
  refine ⟨v.w, mem_wordsU t 2000 v.w ?_ hx, rfl⟩
  rcases hw with ⟨h1, h2⟩ | ⟨_, h2⟩
  · unfold maxL at h1; omega
  · rw [h2]; simp
noncomputable def ltd (u v : Val) : Bool := @decide (lt u v) (Classical.propDecidable _)
theorem ltd_iff {u v : Val} : ltd u v = true ↔ lt u v := @decide_eq_true_iff _ (Classical.propDecidable _)
noncomputable def rank (U : List Val) : Option Val → Nat
  | none => U.length + 1
  | some v => (U.filter fun u => ltd u v).length
theorem filter_lt {α : Type} (p q : α → Bool) : ∀ (l : List α), (∀ x, p x = true → q x = true) → (∃ x ∈ l, p x = false ∧ q x = true) → (l.filter p).length < (l.filter q).length
  | [], _, ⟨x, hx, _⟩ => by cases hx
  | y :: l, h, ⟨x, hx, h1, h2⟩ => by
    have hle : ∀ l : List α, (l.filter p).length ≤ (l.filter q).length := by
      intro l
      induction l with
      | nil => simp
      | cons z l ih =>
        simp only [List.filter_cons]
        by_cases hp : p z = true
        · rw [if_pos hp, if_pos (h z hp)]; simp; omega
        · rw [if_neg hp]
          split
          · simp only [List.length_cons]; omega
          · omega
    simp only [List.filter_cons]
    rcases List.mem_cons.1 hx with rfl | hx
    · rw [if_neg (by rw [h1]; simp), if_pos h2]
      have := hle l
      simp; omega
    · have := filter_lt p q l h ⟨x, hx, h1, h2⟩
      by_cases hp : p y = true
      · rw [if_pos hp, if_pos (h y hp)]; simp; omega
      · rw [if_neg hp]
        split
        · simp only [List.length_cons]; omega
        · omega
theorem rank_lt {U : List Val} {v : Val} {o : Option Val} (hv : v ∈ U) (hwv : Wf v) (ho : WfO o) (h : lessB (some v) o = true) : rank U (some v) < rank U o := by
  cases o with
  | none =>
    have := List.length_filter_le (fun u => ltd u v) U
    show (U.filter fun u => ltd u v).length < U.length + 1
    omega
  | some a =>
    have hlt := (less_some hwv (ho a rfl)).1 h
    refine filter_lt _ _ U (fun x hx => ?_) ⟨v, hv, ?_, ?_⟩
    · exact ltd_iff.2 (lt_trans (ltd_iff.1 hx) hlt)
    · cases e : ltd v v with
      | false => rfl
      | true => exact absurd (ltd_iff.1 e) (lt_irr v)
    · exact ltd_iff.2 hlt
def cellsU (N n : Nat) : List (Nat × Nat × Nat) := (List.range N).flatMap fun a => (List.range (n + 1)).flatMap fun x => (List.range (n + 1)).map fun y => (a, x, y)
noncomputable def muU (U : List Val) (N n : Nat) (T : Tb) : Nat := ((cellsU N n).map fun p => rank U (T (p.1 : Int) p.2.1 p.2.2)).sum
theorem mem_cellsU {N n a x y : Nat} (ha : a < N) (hx : x ≤ n) (hy : y ≤ n) : (a, x, y) ∈ cellsU N n := by
  unfold cellsU
  rw [List.mem_flatMap]
  refine ⟨a, by simpa using ha, ?_⟩
  rw [List.mem_flatMap]
  refine ⟨x, by simp; omega, ?_⟩
  rw [List.mem_map]
  exact ⟨y, by simp; omega, rfl⟩
theorem sum_lt {α : Type} (f g : α → Nat) : ∀ (l : List α), (∀ p, f p ≤ g p) → (∃ p ∈ l, f p < g p) → (l.map f).sum < (l.map g).sum
  | [], _, ⟨p, hp, _⟩ => by cases hp
  | q :: l, h, ⟨p, hp, h1⟩ => by
    have hle : ∀ l : List α, (l.map f).sum ≤ (l.map g).sum := by
      intro l
      induction l with
      | nil => simp
      | cons z l ih => have := h z; simp; omega
    simp only [List.map_cons, List.sum_cons]
    rcases List.mem_cons.1 hp with rfl | hp
    · have := hle l; omega
    · have := sum_lt f g l h ⟨p, hp, h1⟩
      have := h q
      omega
theorem mu_upd {U : List Val} {N n a i j : Nat} {T : Tb} {v : Val} (ha : a < N) (hi : i ≤ n) (hj : j ≤ n) (hv : v ∈ U) (hwv : Wf v) (ho : WfO (T (a : Int) i j)) (h : lessB (some v) (T (a : Int) i j) = true) : muU U N n (upd T (a : Int) i j (some v)) < muU U N n T := by
  have hr := rank_lt hv hwv ho h
  unfold muU
  refine sum_lt _ _ _ (fun p => ?_) ⟨(a, i, j), mem_cellsU ha hi hj, ?_⟩
  · unfold upd
    split
    · rename_i e
      obtain ⟨e1, e2, e3⟩ := e
      rw [e1, e2, e3]
      exact Nat.le_of_lt hr
    · exact Nat.le_refl _
  · unfold upd
    rw [if_pos ⟨rfl, rfl, rfl⟩]
    exact hr
end Rp
end Go.Proofs.Ytjpmebppdcclbaa
