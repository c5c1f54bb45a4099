/- The contract of Least. -/
import Derived.Test.YtjehmleckcmilaaSmallR
import Derived.Test.YtjehmleckcmilaaShrinkT
namespace Go.Proofs.Ytjehmleckcmilaa
open Go.RowKit

def TreePostS (S0 : Nat → Prop) (t : Tree) (w : World) (e : Ending) (w' : World) : Prop :=
  ∃ v, e = .returned (.agg #[.int .i64 t.rule, .int .i64 t.term, v]) ∧ Rd (fun k => S0 k ∨ w.heap.size ≤ k) w' (.sl (t.kids.map Tree.d)) [v] ∧ Below w.heap.size w w'

set_option maxHeartbeats 2000000 in
set_option maxRecDepth 100000 in
theorem leastE (g : Gram) (ar : Option Addr) (cr : Nat) (gf : Nat) (lb : Array Value) (F : Tree → Bool) (eg : ∀ args w, (callFunc gf args).run Try.prog w = .ok (.enter gf args) w) : ∀ (m : Nat) (S0 : Nat → Prop) (t : Tree) (v : Value) (w : World), (∀ k, S0 k → k < w.heap.size) →
    t.size ≤ m → t.size ≤ 60 → good g t → FailsT gf lb F w → Rd AnyB w (.sl (g.rules.map Rule.d)) [.slice ar g.rules.length cr] → Rd S0 w (.sl (t.kids.map Tree.d)) [v] →
    Calls Try.prog 77 #[.agg #[.int .i64 g.terms, .int .i64 g.nons, .int .i64 g.start, .slice ar g.rules.length cr], .agg #[.int .i64 t.rule, .int .i64 t.term, v], .func (.func gf) #[] lb] w (TreePostS S0 (least g F m t) w) := by
  intro m
  induction m with
  | zero => intro S0 t v w hS hm; have := t.size_pos; omega
  | succ m ih =>
  intro S0 t v w hS hm hs hgd hf hr hv
  obtain ⟨a, nk, cap, rfl⟩ := treeBox hv.any
  have HS := Lib.hid hS
  have HV := Lib.hid hv
  have HF := Lib.hid hf
  have HGD := Lib.hid hgd
  have IH := Lib.hid (fun S0 t v w h0 h1 h2 h3 h4 (hb : Rd AnyB w (.sl (g.rules.map Rule.d)) [.slice ar g.rules.length cr]) h5 => ih S0 t v w h0 h1 h2 h3 h4 hb h5)
  obtain ⟨r, HRr⟩ := nameIt t.rule
  obtain ⟨tm, HRt⟩ := nameIt t.term
  obtain ⟨w0, HW0⟩ := nameIt (((w.alloc (.cells #[.int .i64 g.terms, .int .i64 g.nons, .int .i64 g.start, .slice ar g.rules.length cr] 77)).alloc (.cells #[.int .i64 r, .int .i64 tm, .slice a nk cap] 43)).alloc (.cells #[.int .i64 0, .int .i64 0, .slice none 0 0] 43))
  have HB0 : Hid (Below w.heap.size w w0) := by rw [← HW0.out]; exact (((Below.refl _ _).alloc (Nat.le_refl _) _).alloc (by simp) _).alloc (by simp; omega) _
  have X1 : Hid (w0.heap[w.heap.size]? = some (.cells #[.int .i64 g.terms, .int .i64 g.nons, .int .i64 g.start, .slice ar g.rules.length cr] 77 (0, 0))) := by
    rw [← HW0.out]; exact bx_keep (bx_keep (bx_new _ _ _ rfl) ((Below.refl _ _).alloc (Nat.le_refl _) _)) ((Below.refl _ _).alloc (Nat.le_refl _) _)
  have X2 : Hid (w0.heap[w.heap.size + 1]? = some (.cells #[.int .i64 r, .int .i64 tm, .slice a nk cap] 43 (0, 0))) := by
    rw [← HW0.out]; exact bx_keep (bx_new _ _ _ (by simp)) ((Below.refl _ _).alloc (Nat.le_refl _) _)
  have X3 : Hid (w0.heap[w.heap.size + 1 + 1]? = some (.cells #[.int .i64 0, .int .i64 0, .slice none 0 0] 43 (0, 0))) := by
    rw [← HW0.out]; exact bx_new _ _ _ (by simp)
  have hsm := smallRE S0 g ar cr t _ w0 (fun k hk => by have := hS k hk; have := HB0.out.size; omega) hgd (hr.below HB0.out) (hv.below HB0.out) hs
  have HRG := Lib.hid hr
  have HMEM : Hid (∀ x ∈ smallerR g t, good g x ∧ x.size < t.size) := fun x hx => small_mem HGD.out (by rw [small_agree HGD.out]; exact hx)
  have HHIT := Lib.hid (fun i hi hF hn => least_hit (g := g) (F := F) (m := m) (i := i) (t := t) hi hF hn)
  have HEND := Lib.hid (fun hn => least_end (g := g) (F := F) (m := m) (t := t) hn)
  obtain ⟨R, HRN⟩ := nameIt (smallerR g t)
  simp only [HRN.out] at hsm HMEM HHIT HEND
  have HSS := Lib.hid hs
  have HMM := Lib.hid hm
  obtain ⟨gt, HGT⟩ := nameIt g.terms
  obtain ⟨gn, HGN⟩ := nameIt g.nons
  obtain ⟨gs, HGS⟩ := nameIt g.start
  obtain ⟨nr, HNR⟩ := nameIt g.rules.length
  rw [HGT.out, HGN.out, HGS.out, HNR.out] at HW0 X1
  rw [HGT.out, HGN.out, HGS.out, HNR.out, HRr.out, HRt.out] at hsm
  rw [HGT.out, HGN.out, HGS.out, HNR.out] at IH
  rw [HNR.out] at HRG
  rw [HGT.out, HGN.out, HGS.out, HNR.out, HRr.out, HRt.out]
  have HSM := Lib.hid hsm
  obtain ⟨x0, x1, x2, x3, y0, y1, y2⟩ := cells7' (Below.refl w0.heap.size w0) X1.out X2.out
  clear hr hv hf hgd ih hm hs hsm hS
  obtain ⟨E, HE⟩ := nameIt (least g F (m + 1) t)
  rw [HE.out]
  go_enter Try.func77, Try.ntmps77
  go_upto_region 1 with fail
  rw [HW0.out]
  go_wp2_with fail
  refine HSM.out.mono ?_
  rintro e w1 ⟨v1, rfl, hr1, hb1⟩
  obtain ⟨a1, c1, rfl, h11, h12⟩ := hr1.form
  rw [List.length_map] at h11 hr1
  rw [List.length_map]
  unfold maxLen at h12
  have HR1 := Lib.hid hr1
  have HB1 := Lib.hid hb1
  clear hr1 hb1 x0 x1 x2 x3 y0 y1 y2
  go_wp2_with fail
  go_loopg [13] R.length (fun gg v13 wr => ∃ i : Nat, i ≤ R.length ∧ R.length - i ≤ gg ∧ v13 = .int .i64 i ∧ Hid (Below w1.heap.size w1 wr) ∧ Hid (∀ j (h : j < R.length), j < i → F R[j] = false))
  case atStart => exact ⟨0, by omega, by omega, rfl, Below.refl _ _, fun j _ hj => by omega⟩
  case round =>
    obtain ⟨i, hi, hg, rfl, HB, HA⟩ := hrel
    have HB0r : Hid (Below w0.heap.size w0 wr) := HB1.out.trans (HB.out.mono HB1.out.size)
    by_cases hlt : i < R.length
    · have hlt' : (i : Int) < (R.length : Int) := by omega
      obtain ⟨b, off, v, hae, -, hbl, k0, k1, k2, hkid⟩ := (HR1.out.below HB.out).kid hlt
      obtain ⟨av, nv, cv, rfl⟩ := treeBox hkid.any
      have hmem := HMEM.out R[i] (List.getElem_mem hlt)
      obtain ⟨x, HX⟩ := nameIt (R[i]'hlt)
      rw [HX.out] at k0 k1 hkid hmem
      obtain ⟨q0, HQ0⟩ := nameIt x.rule
      obtain ⟨q1, HQ1⟩ := nameIt x.term
      obtain ⟨w2, HW2⟩ := nameIt (wr.alloc (.cells #[.int .i64 q0, .int .i64 q1, .slice av nv cv] 43))
      have HB2 : Hid (Below w0.heap.size w0 w2) := by rw [← HW2.out]; exact HB0r.out.alloc HB0r.out.size _
      have HBr2 : Hid (Below w1.heap.size w1 w2) := by rw [← HW2.out]; exact HB.out.alloc HB.out.size _
      have X4 : Hid (w2.heap[wr.heap.size]? = some (.cells #[.int .i64 q0, .int .i64 q1, .slice av nv cv] 43 (0, 0))) := by rw [← HW2.out]; exact bx_new _ _ _ rfl
      have HKD : Hid (Rd (fun k => S0 k ∨ w0.heap.size ≤ k) w2 (.sl (x.kids.map Tree.d)) [.slice av nv cv]) := by rw [← HW2.out]; exact hkid.below ((Below.refl _ _).alloc (Nat.le_refl _) _)
      have HBW2 : Hid (Below w.heap.size w w2) := HB0.out.trans (HB2.out.mono HB0.out.size)
      have hcf := HF.out w2 x _ HBW2.out HKD.out.any (by have := HSS.out; omega)
      obtain ⟨B, HBn⟩ := nameIt (F x)
      rw [HQ0.out] at k0 hcf
      rw [HQ1.out] at k1 hcf
      rw [HBn.out] at hcf
      have HCF := Lib.hid hcf
      have hsz0 := HB0.out.size
      obtain ⟨y0, y1, y2⟩ := bx_cells3 X4.out
      subst hae
      clear hcf hkid
      go_upto_region 4 with fail
      rw [HW2.out]
      go_wp2_with fail
      refine HCF.out.mono ?_
      rintro e w3 ⟨rfl, hb3⟩
      have HB3 : Hid (Below w0.heap.size w0 w3) := HB2.out.trans (hb3.mono HB2.out.size)
      have HBr3 : Hid (Below w1.heap.size w1 w3) := HBr2.out.trans (hb3.mono HBr2.out.size)
      have HBW3 : Hid (Below w.heap.size w w3) := HBW2.out.trans (hb3.mono HBW2.out.size)
      have X5 := Lib.hid (bx_keep X4.out hb3)
      have HKD3 := Lib.hid (HKD.out.below hb3)
      clear hb3 k0 k1 k2 y0 y1 y2
      cases B with
      | true =>
        have HEE : Hid (E = least g F m x) := by
          show _ = _
          rw [← HE.out, HHIT.out i hlt (by rw [HX.out]; exact HBn.out) (fun j hj => HA.out j (by omega) hj), HX.out]
        have hih := IH.out (fun k => (S0 k ∨ w0.heap.size ≤ k) ∧ k < w3.heap.size) x _ w3 (fun k hk => hk.2) (by have := HMM.out; omega) (by have := HSS.out; omega) hmem.1 (HF.out.later HBW3.out) (HRG.out.below HBW3.out) (HKD3.out.mono fun k hk hlt => ⟨hk, hlt⟩)
        rw [← HEE.out, HQ0.out, HQ1.out] at hih
        have HIH := Lib.hid hih
        obtain ⟨x0, x1, x2, x3, y0, y1, y2⟩ := cells7' (Below.refl w3.heap.size w3) (bx_keep X1.out HB3.out) X5.out
        clear hih
        go_wp2_with fail
        refine HIH.out.mono ?_
        rintro e w4 ⟨v4, rfl, hr4, hb4⟩
        obtain ⟨a4, n4, c4, rfl⟩ := treeBox hr4.any
        obtain ⟨e0, HE0⟩ := nameIt E.rule
        obtain ⟨e1, HE1⟩ := nameIt E.term
        rw [HE0.out, HE1.out]
        have hx4 := bx_keep (bx_keep X3.out HB3.out) hb4
        obtain ⟨r0, r1, r2⟩ := bx_cells3 hx4
        obtain ⟨f0, f1, f2⟩ := bx_free3 hx4
        have hlt4 := (Array.getElem?_eq_some_iff.1 hx4).1
        have hlt3 := (Array.getElem?_eq_some_iff.1 (bx_keep X3.out HB3.out)).1
        have hlt0 := (Array.getElem?_eq_some_iff.1 X3.out).1
        have HR4 := Lib.hid hr4
        have HB4 : Hid (Below w.heap.size w w4) := HBW3.out.trans (hb4.mono HBW3.out.size)
        have hw3 := HB3.out.size
        clear hr4 hb4 hx4 x0 x1 x2 x3 y0 y1 y2
        go_wp2_with fail
        refine bodyPost_ret (v := .agg #[.int .i64 e0, .int .i64 e1, .slice a4 n4 c4]) (by simp [results, Try.results77, go_sem, r0, r1, r2]) rfl ?_
        refine ⟨.slice a4 n4 c4, by rw [HE0.out, HE1.out], ?_, below_box3 HB4.out (by omega) _ _ _⟩
        refine (HR4.out.box3 (b := w.heap.size + 1 + 1) ?_ _ _ _).mono fun k hk _ => ?_
        · rintro (h | h)
          · rcases h.1 with h | h
            · have := HS.out _ h; omega
            · omega
          · omega
        · rcases hk with h | h
          · rcases h.1 with h | h
            · exact .inl h
            · exact .inr (by omega)
          · exact .inr (by omega)
      | false =>
        have HA2 : Hid (∀ j (h : j < R.length), j < i + 1 → F R[j] = false) := by
          intro j h hj
          by_cases e : j = i
          · subst e; rw [HX.out]; exact HBn.out
          · exact HA.out j h (by omega)
        go_wp2_with fail
        go_roundg (R.length - (i + 1))
        case measure => omega
        case rel => exact ⟨i + 1, by omega, by omega, by go_num, HBr3, HA2⟩
    · have hlt' : ¬ (i : Int) < (R.length : Int) := by omega
      have HEE : Hid (E = t) := by
        show _ = _
        rw [← HE.out, HEND.out fun j h => HA.out j h (by omega)]
      have hx4 := bx_keep X3.out HB0r.out
      obtain ⟨r0, r1, r2⟩ := bx_cells3 hx4
      obtain ⟨f0, f1, f2⟩ := bx_free3 hx4
      obtain ⟨y0, y1, y2⟩ := bx_cells3 (bx_keep X2.out HB0r.out)
      have hlt4 := (Array.getElem?_eq_some_iff.1 hx4).1
      have HB4 : Hid (Below w.heap.size w wr) := HB0.out.trans (HB0r.out.mono HB0.out.size)
      clear hx4
      go_wp2_with fail
      refine bodyPost_ret (v := .agg #[.int .i64 r, .int .i64 tm, .slice a nk cap]) (by simp [results, Try.results77, go_sem, r0, r1, r2]) rfl ?_
      refine ⟨.slice a nk cap, by rw [HEE.out, HRr.out, HRt.out], ?_, below_box3 HB4.out (by omega) _ _ _⟩
      rw [HEE.out]
      refine ((HV.out.below HB4.out).box3 (b := w.heap.size + 1 + 1) ?_ _ _ _).mono fun k hk _ => .inl hk
      intro h
      have := HS.out _ h
      omega
end Go.Proofs.Ytjehmleckcmilaa
