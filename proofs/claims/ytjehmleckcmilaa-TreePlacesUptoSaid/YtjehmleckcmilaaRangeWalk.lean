/- The contract of Range. -/
import Derived.Test.YtjehmleckcmilaaLeafWalk
import Derived.Test.YtjehmleckcmilaaYield
namespace Go.Proofs.Ytjehmleckcmilaa
open Go.RowKit

theorem rangeT_nil (t : Tree) : rangeT t [] = (0, lv t) := by rw [rangeT]
theorem below_kid {c x : Tree} {i : Int} {p : List Int} (h : belowT c (i :: p) = some x) : ∃ (j : Nat), i = (j : Int) ∧ c.rule ≠ -1 ∧ ∃ hj : j < c.kids.length, belowT c.kids[j] p = some x := by
  rw [belowT] at h
  cases hk : kidAt c i with
  | none => rw [hk] at h; simp at h
  | some k =>
    rw [hk] at h
    unfold kidAt at hk
    by_cases e1 : c.rule = -1
    · simp [e1] at hk
    · by_cases e2 : i < 0
      · simp [e2] at hk
      · simp [e1, e2] at hk
        obtain ⟨h3, h4⟩ := List.getElem?_eq_some_iff.1 hk
        exact ⟨i.toNat, by omega, e1, h3, by rw [h4]; simpa using h⟩
theorem lv_kid_le {c : Tree} (hr : c.rule ≠ -1) {i : Nat} (h : i < c.kids.length) : lvs (c.kids.take i) + lv c.kids[i] ≤ lv c := by
  rw [lv_inner hr, ← lvs_take_succ h]
  conv => rhs; rw [← List.take_append_drop (i + 1) c.kids, lvs_append]
  omega

structure RangeRel (t x : Tree) (p : List Int) (w : World) (i : Nat) (c : Tree) (n : Nat) (cv : Value) (wr : World) : Prop where
  box : wr.heap[w.heap.size]? = some (.cells #[.int .i64 c.rule, .int .i64 c.term, cv] 43 (0, 0))
  kid : Rd AnyB w (.sl (c.kids.map Tree.d)) [cv]
  bel : Below w.heap.size w wr
  ex : belowT c (p.drop i) = some x
  eq : shift n (rangeT c (p.drop i)) = rangeT t p
  lt : n + lv c ≤ lv t
  sz : (nodes c).length ≤ (nodes t).length
def RangePost (t : Tree) (p : List Int) (w : World) (e : Ending) (w' : World) : Prop := e = .returned (.tuple #[.int .i64 (rangeT t p).1, .int .i64 (rangeT t p).2]) ∧ Below w.heap.size w w'

set_option maxHeartbeats 2000000 in
set_option maxRecDepth 100000 in
theorem rangeE (t x : Tree) (v : Value) (ap : Option Addr) (cp : Nat) (p : List Int) (w : World) (hv : Rd AnyB w (.sl (t.kids.map Tree.d)) [v]) (hp : Sl w (.slice ap p.length cp) (ints p)) (hx : belowT t p = some x) (hN : (nodes t).length ≤ 1099511627776) :
    Calls Try.prog 26 #[.agg #[.int .i64 t.rule, .int .i64 t.term, v], .slice ap p.length cp] w (RangePost t p w) := by
  obtain ⟨a, nk, cap, rfl⟩ := treeBox hv
  have HNN := Lib.hid hN
  have HP := Lib.hid hp
  have hpl := hp.len
  unfold maxLen at hpl
  obtain ⟨-, hp1, hp2⟩ := hpl
  obtain ⟨w0, HW0⟩ := nameIt (w.alloc (.cells #[.int .i64 t.rule, .int .i64 t.term, .slice a nk cap] 43))
  have HR0 : Hid (RangeRel t x p w 0 t 0 (.slice a nk cap) w0) := by
    rw [← HW0.out]
    exact ⟨bx_new _ _ _ rfl, hv, (Below.refl _ _).alloc (Nat.le_refl _) _, by simpa using hx, by simp [shift], by omega, Nat.le_refl _⟩
  have HLV := Lib.hid (Nat.le_trans (lv_le t) hN)
  clear hv hp hx hN
  go_enter Try.func26, Try.ntmps26
  go_wp2_with fail
  rw [HW0.out]
  go_loopg [6, 13] p.length (fun gg v6 v13 wr => ∃ (i : Nat) (c : Tree) (n : Nat) (cv : Value), i ≤ p.length ∧ p.length - i ≤ gg ∧ v13 = .int .i64 i ∧ v6 = .int .i64 n ∧ Hid (RangeRel t x p w i c n cv wr))
  case atStart => exact ⟨0, t, 0, _, by omega, by omega, rfl, rfl, HR0⟩
  case round =>
    clear HR0 HW0
    obtain ⟨wo, rfl⟩ : ∃ wo : World, wo = wr := ⟨_, rfl⟩
    obtain ⟨i, c, n, cv, hi, hg, rfl, rfl, HR⟩ := hrel
    obtain ⟨ac, nc, cc, rfl⟩ := treeBox HR.out.kid
    have hbox := HR.out.box
    have HNC : Hid (c.kids.length = nc) := by show _ = _; have := HR.out.kid.bounds.1; simpa using this.symm
    have hncb : nc ≤ cc ∧ cc ≤ 9223372036854775807 := by have := HR.out.kid.bounds; unfold maxLen at this; omega
    obtain ⟨hnc1, hnc2⟩ := hncb
    obtain ⟨r, HXr⟩ := nameIt c.rule
    obtain ⟨tm, HXt⟩ := nameIt c.term
    rw [HXr.out, HXt.out] at hbox
    obtain ⟨x0, x1, x2⟩ := bx_cells3 hbox
    have hwo : w.heap.size < wo.heap.size := (Array.getElem?_eq_some_iff.1 hbox).1
    clear hbox
    by_cases hlt : i < p.length
    · have hlt' : (i : Int) < (p.length : Int) := by omega
      have hex := HR.out.ex
      have heq := HR.out.eq
      rw [List.drop_eq_getElem_cons hlt] at hex heq
      obtain ⟨j, hj, hcr, hjl, hbk⟩ := below_kid hex
      obtain ⟨ba, oa, hae, hca⟩ := (HP.out.keep HR.out.bel).at hlt
      have c1 := hca i (by rw [ints_len]; exact hlt)
      rw [ints_get, hj] at c1
      rw [hj, rangeT_cons (k := c.kids[j]) (by simp), shift_shift] at heq
      have HBK := Lib.hid hbk
      have HEQ := Lib.hid heq
      have HCR := Lib.hid hcr
      have HLK := Lib.hid (lv_kid_le hcr hjl)
      have HJL := Lib.hid hjl
      have hjn : j < nc := by rw [← HNC.out]; exact hjl
      have hjn' : (j : Int) < (nc : Int) := by omega
      have hjcc : j ≤ cc := by omega
      have HSZ := Lib.hid (kid_nodes_lt hcr hjl)
      subst hae
      clear hca hex heq hj hcr hbk
      go_wp2_with fail
      go_loopg [6, 22] j (fun gg' v6 v22 wr => ∃ (k : Nat), k ≤ j ∧ j - k ≤ gg' ∧ v22 = .int .i64 k ∧ v6 = .int .i64 (n + lvs (c.kids.take k) : Nat) ∧ Hid (Below wo.heap.size wo wr))
      case atStart => exact ⟨0, by omega, by omega, rfl, by simp [lvs], Below.refl _ _⟩
      case round =>
        obtain ⟨k, hk, hgk, rfl, rfl, HM⟩ := hrel
        have hsl : n + lvs (c.kids.take k) ≤ 1099511627776 := by
          have h1 := HR.out.lt
          have h2 := HLV.out
          have h3 := lv_inner HCR.out
          have h4 : lvs (c.kids.take k) ≤ lvs c.kids := by
            conv => rhs; rw [← List.take_append_drop k c.kids, lvs_append]
            omega
          omega
        obtain ⟨s, HS⟩ := nameIt (n + lvs (c.kids.take k))
        rw [HS.out] at hsl
        rw [HS.out]
        by_cases hkj : k < j
        · have hkj' : (k : Int) < (j : Int) := by omega
          have hkl : k < c.kids.length := by omega
          obtain ⟨b, off, v, hae, -, hbl, k0, k1, k2, hkid⟩ := HR.out.kid.kid hkl
          obtain ⟨av, nv, cv, rfl⟩ := treeBox hkid
          have HBW := Lib.hid (HR.out.bel.trans (HM.out.mono HR.out.bel.size))
          have e0 := (HBW.out.cell (p := ⟨b, off + k * 3, none⟩) hbl).trans k0
          have e1 := (HBW.out.cell (p := ⟨b, off + k * 3 + 1, none⟩) hbl).trans k1
          have e2 := (HBW.out.cell (p := ⟨b, off + k * 3 + 2, none⟩) hbl).trans k2
          have HTS := Lib.hid (lvs_take_succ hkl)
          have hnk := kid_nodes_lt HCR.out hkl
          have hlvk := lv_le c.kids[k]
          obtain ⟨y, HX⟩ := nameIt (c.kids[k]'hkl)
          rw [HX.out] at e0 e1 hkid hnk hlvk HTS
          obtain ⟨q0, HQ0⟩ := nameIt y.rule
          obtain ⟨q1, HQ1⟩ := nameIt y.term
          have hb3 := (Below.refl wr.heap.size wr).alloc (Nat.le_refl _) (.cells #[.int .i64 q0, .int .i64 q1, .slice av nv cv] 43)
          have hy := yieldE y _ _ ((hkid.below HBW.out).below hb3) (by have := HR.out.sz; have := HNN.out; omega)
          rw [HQ0.out] at e0 hy
          rw [HQ1.out] at e1 hy
          have HY := Lib.hid hy
          have HB3 := Lib.hid hb3
          have HLE : Hid ((ints (leavesOf (nodes y))).length = lv y) := by show _ = _; rw [ints_len]; rfl
          have hlk : lv y ≤ 1099511627776 := by have := HR.out.sz; have := HNN.out; omega
          obtain ⟨ly, HLY⟩ := nameIt (lv y)
          rw [HLY.out] at HLE hlk HTS
          have HSE : Hid (n + lvs (c.kids.take (k + 1)) = s + ly) := by show _ = _; rw [HTS.out, ← HS.out]; omega
          subst hae
          clear k0 k1 k2 hkid hb3 hy hnk hlvk x0 x1 x2
          go_wp2_with fail
          refine HY.out.mono ?_
          rintro e w1 ⟨v1, rfl, hs1, hb1⟩
          obtain ⟨a1, c1', rfl⟩ := hs1.form
          rw [HLE.out]
          have HM' := Lib.hid (HM.out.trans ((HB3.out.trans (hb1.mono HB3.out.size)).mono HM.out.size))
          clear hs1 hb1 e0 e1 e2 HY
          go_wp2_with fail
          go_roundg (j - (k + 1))
          case measure => omega
          case rel => exact ⟨k + 1, by omega, by omega, by go_num, by rw [HSE.out]; go_num, HM'⟩
        · have hkj' : ¬ (k : Int) < (j : Int) := by omega
          obtain rfl : k = j := by omega
          obtain ⟨b, off, v, hae, -, hbl, k0, k1, k2, hkid⟩ := HR.out.kid.kid hjl
          obtain ⟨av, nv, cv, rfl⟩ := treeBox hkid
          have HBW := Lib.hid (HR.out.bel.trans (HM.out.mono HR.out.bel.size))
          have hbx := bx_keep HR.out.box HM.out
          have HBX := Lib.hid hbx
          rw [HXr.out, HXt.out] at hbx
          have e0 := (HBW.out.cell (p := ⟨b, off + k * 3, none⟩) hbl).trans k0
          have e1 := (HBW.out.cell (p := ⟨b, off + k * 3 + 1, none⟩) hbl).trans k1
          have e2 := (HBW.out.cell (p := ⟨b, off + k * 3 + 2, none⟩) hbl).trans k2
          clear x0 x1 x2
          obtain ⟨x0, x1, x2⟩ := bx_cells3 hbx
          obtain ⟨f0, f1, f2⟩ := bx_free3 hbx
          have HR' : Hid (RangeRel t x p w (i + 1) (c.kids[k]'hjl) s (.slice av nv cv) (((wr.setCell ⟨w.heap.size, 0, none⟩ (.int .i64 (c.kids[k]'hjl).rule)).setCell ⟨w.heap.size, 1, none⟩ (.int .i64 (c.kids[k]'hjl).term)).setCell ⟨w.heap.size, 2, none⟩ (.slice av nv cv))) := by
            refine ⟨bx_set3 HBX.out _ _ _, hkid, below_box3 HBW.out (Nat.le_refl _) _ _ _, HBK.out, by rw [← HS.out]; exact HEQ.out, ?_, ?_⟩
            · have h1 := HLK.out
              have h2 := HR.out.lt
              have h3 := HS.out
              omega
            · have h1 := HSZ.out
              have h2 := HR.out.sz
              omega
          obtain ⟨y, HX⟩ := nameIt (c.kids[k]'hjl)
          rw [HX.out] at e0 e1 HR'
          obtain ⟨q0, HQ0⟩ := nameIt y.rule
          obtain ⟨q1, HQ1⟩ := nameIt y.term
          rw [HQ0.out] at e0 HR'
          rw [HQ1.out] at e1 HR'
          have hbne : ¬ w.heap.size = b := by omega
          subst hae
          clear k0 k1 k2 hkid hbx
          go_wp2_with fail
          go_roundg (p.length - (i + 1))
          case measure => omega
          case rel => exact ⟨i + 1, y, s, _, by omega, by omega, by go_num, rfl, HR'⟩
    · have hlt' : ¬ (i : Int) < (p.length : Int) := by omega
      have hd : p.drop i = [] := List.drop_of_length_le (by omega)
      have HE : Hid (rangeT t p = (n, n + lv c)) := by show _ = _; rw [← HR.out.eq, hd, rangeT_nil]; simp [shift]
      have hy := yieldE c _ wo (HR.out.kid.below HR.out.bel) (by have := HR.out.sz; have := HNN.out; omega)
      rw [HXr.out, HXt.out] at hy
      have HY := Lib.hid hy
      have hlv : n + lv c ≤ 1099511627776 := by have := HR.out.lt; have := HLV.out; omega
      have HLE : Hid ((ints (leavesOf (nodes c))).length = lv c) := by show _ = _; rw [ints_len]; rfl
      obtain ⟨lc, HLC⟩ := nameIt (lv c)
      rw [HLC.out] at HE hlv HLE
      clear hy hd
      go_wp2_with fail
      refine HY.out.mono ?_
      rintro e w1 ⟨v1, rfl, hs1, hb1⟩
      obtain ⟨a1, c1, rfl⟩ := hs1.form
      rw [HLE.out]
      have HB1 := Lib.hid (HR.out.bel.trans (hb1.mono HR.out.bel.size))
      clear hs1 hb1
      go_wp2_with fail
      refine bodyPost_ret (results_tmp2 Try.results26 _ _ _) rfl ?_
      refine ⟨?_, HB1.out⟩
      rw [HE.out]
      simp
end Go.Proofs.Ytjehmleckcmilaa
