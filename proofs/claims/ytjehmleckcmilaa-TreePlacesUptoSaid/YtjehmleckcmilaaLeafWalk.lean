/- The contracts of tree.leaves and tree.Leaf. -/
import Derived.Test.YtjehmleckcmilaaPlacesWalk
namespace Go.Proofs.Ytjehmleckcmilaa
open Go.RowKit

set_option maxHeartbeats 400000 in
theorem leavesE (t : Tree) (v : Value) (w : World) (hv : Rd AnyB w (.sl (t.kids.map Tree.d)) [v]) (hN : (nodes t).length ≤ 1099511627776) :
    Calls Try.prog 101 #[.agg #[.int .i64 t.rule, .int .i64 t.term, v]] w fun e w' => e = .returned (.int .i64 (lv t)) ∧ Below w.heap.size w w' := by
  obtain ⟨a, n, cap, rfl⟩ := treeBox hv
  have hb := (Below.refl w.heap.size w).alloc (Nat.le_refl _) (.cells #[.int .i64 t.rule, .int .i64 t.term, .slice a n cap] 43)
  have HC := Lib.hid (wordT t _ _ (hv.below hb) (by omega))
  have HB := Lib.hid hb
  clear hv hN hb
  go_enter Try.func101, Try.ntmps101
  go_wp2_with fail
  refine HC.out.mono ?_
  rintro e w1 ⟨v1, rfl, hs, hb1⟩
  obtain ⟨a1, c1, rfl⟩ := hs.form
  have HB1 := Lib.hid (HB.out.trans (hb1.mono HB.out.size))
  obtain ⟨N, HN⟩ := nameIt (ints (leavesOf (nodes t))).length
  rw [HN.out]
  clear hs hb1
  go_wp2_with fail
  go_ret
  refine ⟨?_, HB1.out⟩
  rw [← HN.out, ints_len]; rfl

mutual
/-- the path of the leaf with the number n -/
def leafP : Tree → Nat → List Int
  | .node r _ ks, n => if r = -1 then [] else leafPL 0 ks n
def leafPL : Nat → List Tree → Nat → List Int
  | _, [], _ => []
  | i, k :: ks, n => if n < lv k then (i : Int) :: leafP k n else leafPL (i + 1) ks (n - lv k)
end
theorem leafP_inner {t : Tree} (h : t.rule ≠ -1) (n : Nat) : leafP t n = leafPL 0 t.kids n := by
  cases t; simp only [Tree.rule] at h; simp [leafP, Tree.kids, h]
theorem leafP_leaf {t : Tree} (h : t.rule = -1) (n : Nat) : leafP t n = [] := by
  cases t; simp only [Tree.rule] at h; simp [leafP, h]
theorem leafPL_drop {ks : List Tree} {i n : Nat} (h : i < ks.length) : leafPL i (ks.drop i) n = if n < lv ks[i] then (i : Int) :: leafP ks[i] n else leafPL (i + 1) (ks.drop (i + 1)) (n - lv ks[i]) := by
  rw [List.drop_eq_getElem_cons h, leafPL]

theorem kid_nodes_lt {t : Tree} (hr : t.rule ≠ -1) {i : Nat} (h : i < t.kids.length) : (nodes t.kids[i]).length < (nodes t).length := by
  have e : kidsOf t = t.kids := by simp [kidsOf, hr]
  have := nodesL_kid h
  rw [nodes_eq t, e]
  simp; omega

structure LeafRel (t : Tree) (n0 : Nat) (w : World) (c : Tree) (n : Nat) (P : List Int) (cv pv : Value) (wr : World) : Prop where
  box : wr.heap[w.heap.size]? = some (.cells #[.int .i64 c.rule, .int .i64 c.term, cv] 43 (0, 0))
  kid : Rd AnyB w (.sl (c.kids.map Tree.d)) [cv]
  own : wr.ownsRow (w.heap.size + 1) 3 1 pv P.length (ints P)
  bel : Below w.heap.size w wr
  eq : P ++ leafP c n = leafP t n0
  lt : n < lv c
  len : P.length + (nodes c).length ≤ (nodes t).length
def LeafPost (t : Tree) (n : Int) (w : World) (e : Ending) (w' : World) : Prop :=
  Below w.heap.size w w' ∧ if 0 ≤ n ∧ n < lv t then ∃ v, e = .returned (.tuple #[v, .int .i64 0]) ∧ Sl w' v (ints (leafP t n.toNat)) else e = .returned (.tuple #[.slice none 0 0, .int .i64 5])

set_option maxHeartbeats 2000000 in
set_option maxRecDepth 100000 in
theorem leafE (t : Tree) (v : Value) (n : Int) (w : World) (hv : Rd AnyB w (.sl (t.kids.map Tree.d)) [v]) (hN : (nodes t).length ≤ 1099511627776) :
    Calls Try.prog 28 #[.agg #[.int .i64 t.rule, .int .i64 t.term, v], .int .i64 n] w (LeafPost t n w) := by
  obtain ⟨a, nk, cap, rfl⟩ := treeBox hv
  have HV := Lib.hid hv
  have HNN := Lib.hid hN
  obtain ⟨w0, HW0⟩ := nameIt (w.alloc (.cells #[.int .i64 t.rule, .int .i64 t.term, .slice a nk cap] 43))
  have HB0 : Hid (Below w.heap.size w w0) := by rw [← HW0.out]; exact (Below.refl _ _).alloc (Nat.le_refl _) _
  have X0 : Hid (w0.heap[w.heap.size]? = some (.cells #[.int .i64 t.rule, .int .i64 t.term, .slice a nk cap] 43 (0, 0))) := by rw [← HW0.out]; exact bx_new _ _ _ rfl
  have HC := Lib.hid (fun W (hb : Below w0.heap.size w0 W) => leavesE t _ W ((hv.below HB0.out).below hb) hN)
  obtain ⟨x0, x1, x2⟩ := bx_cells3 X0.out
  have hlvt := Nat.le_trans (lv_le t) hN
  obtain ⟨lt, HLT⟩ := nameIt (lv t)
  rw [HLT.out] at HC hlvt
  clear hv hN
  go_enter Try.func28, Try.ntmps28
  go_upto_region 1 with fail
  rw [HW0.out]
  go_cut [17] (fun p wx => Hid (p = .bool (decide (n < 0 ∨ (lt : Int) ≤ n)) ∧ Below w0.heap.size w0 wx))
  case first =>
    by_cases hn : n < 0
    · have hnb : decide (n < 0) = true := by simpa using hn
      go_wp2_with fail
      go_meet
      exact ⟨by simp [hn], Below.refl _ _⟩
    · have hnb : decide (n < 0) = false := by simpa using hn
      go_wp2_with fail
      refine (HC.out _ (Below.refl _ _)).mono ?_
      rintro e w1 ⟨rfl, hb1⟩
      have HB1 := Lib.hid hb1
      clear hb1
      go_wp2_with fail
      go_meet
      exact ⟨by congr 1; exact decide_eq_decide.2 ⟨.inr, fun h => h.resolve_left (by omega)⟩, HB1.out⟩
  case rest =>
    obtain ⟨rfl, hb1⟩ := hcut.out
    have HB1 := Lib.hid hb1
    clear hcut hb1 x0 x1 x2
    by_cases hn : n < 0 ∨ (lt : Int) ≤ n
    · rw [decide_eq_true hn]
      have HN := Lib.hid hn
      clear hn
      go_wp2_with fail
      refine bodyPost_ret (results_tmp2 Try.results28 _ _ _) rfl ?_
      refine ⟨HB0.out.trans (HB1.out.mono HB0.out.size), ?_⟩
      rw [if_neg (by have := HN.out; rw [HLT.out]; omega)]
      rfl
    · rw [decide_eq_false hn]
      obtain ⟨n0, rfl⟩ : ∃ k : Nat, n = (k : Int) := ⟨n.toNat, by omega⟩
      have hn0 : n0 < lt := by omega
      have HR0 : Hid (LeafRel t n0 w t n0 [] (.slice a nk cap) (.slice none 0 0) wc) := ⟨bx_keep X0.out HB1.out, HV.out, World.ownsRow_nil _ _ _ _, HB0.out.trans (HB1.out.mono HB0.out.size), rfl, by rw [HLT.out]; exact hn0, by simp⟩
      have HFIN : Hid (∀ w' v, Sl w' v (ints (leafP t n0)) → Below w.heap.size w w' → LeafPost t n0 w (.returned (.tuple #[v, .int .i64 0])) w') := by
        intro w' v h1 h2
        refine ⟨h2, ?_⟩
        rw [if_pos (by rw [HLT.out]; omega)]
        exact ⟨v, rfl, h1⟩
      clear hn HB1 HC
      go_wp2_with fail
      go_loopg [1, 6] (nodes t).length (fun gg v1 v6 wr => ∃ (c : Tree) (k : Nat) (P : List Int) (cv : Value), v1 = .int .i64 k ∧ (nodes c).length ≤ gg ∧ Hid (LeafRel t n0 w c k P cv v6 wr))
      case atStart => exact ⟨t, n0, [], _, rfl, Nat.le_refl _, HR0⟩
      case round =>
        clear HR0
        obtain ⟨wo, rfl⟩ : ∃ wo : World, wo = wr := ⟨_, rfl⟩
        obtain ⟨c, k, P, cv, rfl, hg, HR⟩ := hrel
        obtain ⟨ac, nc, cc, rfl⟩ := treeBox HR.out.kid
        have hbox := HR.out.box
        obtain ⟨r, HXr⟩ := nameIt c.rule
        obtain ⟨tm, HXt⟩ := nameIt c.term
        rw [HXr.out, HXt.out] at hbox
        obtain ⟨x0, x1, x2⟩ := bx_cells3 hbox
        clear hbox
        by_cases hr : r = -1
        · have hrb : (r != -1) = false := by simp [hr]
          have HE : Hid (P = leafP t n0) := by show _ = _; rw [← HR.out.eq, leafP_leaf (by rw [HXr.out]; exact hr)]; simp
          clear hr
          obtain ⟨ap, cp, rfl, -, -⟩ := own_len HR.out.own
          go_wp2_with fail
          refine bodyPost_ret (results_tmp2 Try.results28 _ _ _) rfl ?_
          have h := sl_of_own HR.out.own
          rw [HE.out] at h ⊢
          exact HFIN.out _ _ h HR.out.bel
        · have hrb : (r != -1) = true := by simpa using hr
          have HRN := Lib.hid hr
          have HCR : Hid (c.rule ≠ -1) := by show _ ≠ _; rw [HXr.out]; exact hr
          clear hr
          have HNC : Hid (c.kids.length = nc) := by show _ = _; have := HR.out.kid.bounds.1; simpa using this.symm
          have HLV := Lib.hid (lv_inner HCR.out)
          have hcap : nc ≤ 9223372036854775807 := by have := HR.out.kid.bounds; unfold maxLen at this; omega
          have hkc := HR.out.lt
          have hkk : k ≤ 1099511627776 := by
            have h1 := lv_le c
            have h2 := HR.out.len
            have h3 := HNN.out
            omega
          clear hkc
          have HOW := Lib.hid HR.out.own
          obtain ⟨ap, cp, rfl, hp1, hp2⟩ := own_len HR.out.own
          unfold maxLen at hp2
          go_wp2_with fail
          go_loopg [1, 6, 24] nc (fun gg' v1 v6 v24 wr => ∃ (i m : Nat), i ≤ nc ∧ nc - i ≤ gg' ∧ v24 = .int .i64 i ∧ v1 = .int .i64 m ∧ v6 = .slice ap P.length cp ∧ Hid (m + lvs (c.kids.take i) = k ∧ leafPL i (c.kids.drop i) m = leafPL 0 c.kids k ∧ Below wo.heap.size wo wr))
          case atStart => exact ⟨0, k, by omega, by omega, rfl, rfl, rfl, by simp [lvs], by simp, Below.refl _ _⟩
          case round =>
            obtain ⟨i, m, hi, hgi, rfl, rfl, rfl, HM⟩ := hrel
            clear x0 x1 x2
            by_cases hlt : i < nc
            · have hlt' : (i : Int) < (nc : Int) := by omega
              have hik : i < c.kids.length := by rw [HNC.out]; exact hlt
              obtain ⟨b, off, v, hae, -, hbl, k0, k1, k2, hkid⟩ := HR.out.kid.kid hik
              obtain ⟨av, nv, cv, rfl⟩ := treeBox hkid
              have HBW := Lib.hid (HR.out.bel.trans (HM.out.2.2.mono HR.out.bel.size))
              have e0 := (HBW.out.cell (p := ⟨b, off + i * 3, none⟩) hbl).trans k0
              have e1 := (HBW.out.cell (p := ⟨b, off + i * 3 + 1, none⟩) hbl).trans k1
              have e2 := (HBW.out.cell (p := ⟨b, off + i * 3 + 2, none⟩) hbl).trans k2
              have HD := Lib.hid (leafPL_drop (n := m) hik)
              have hlvk := lv_le c.kids[i]
              have hnk := kid_nodes_lt HCR.out hik
              have hlen := HR.out.len
              have hNN := HNN.out
              have hpl := nodes_pos c
              have HTS := Lib.hid (lvs_take_succ hik)
              obtain ⟨x, HX⟩ := nameIt (c.kids[i]'hik)
              rw [HX.out] at e0 e1 hkid HD hlvk hnk HTS
              obtain ⟨q0, HQ0⟩ := nameIt x.rule
              obtain ⟨q1, HQ1⟩ := nameIt x.term
              obtain ⟨lk, HLK⟩ := nameIt (lv x)
              have hb3 := (Below.refl wr.heap.size wr).alloc (Nat.le_refl _) (.cells #[.int .i64 q0, .int .i64 q1, .slice av nv cv] 43)
              have hlc := leavesE x _ _ ((hkid.below HBW.out).below hb3) (by omega)
              rw [HQ0.out] at e0 hlc
              rw [HQ1.out] at e1 hlc
              rw [HLK.out] at hlc HD hlvk HTS
              have hlk : lk ≤ 1099511627776 := by omega
              have HLC := Lib.hid hlc
              have HB3 := Lib.hid hb3
              have HKID := Lib.hid hkid
              have HNX := Lib.hid hnk
              have HPL : Hid (P.length + 1 ≤ 1099511627776) := by show _ ≤ _; omega
              subst hae
              clear k0 k1 k2 hkid hlc hb3 hnk hlvk hlen hNN hpl
              go_wp2_with fail
              refine HLC.out.mono ?_
              rintro e w1 ⟨rfl, hb1⟩
              have HB1 : Hid (Below wr.heap.size wr w1) := HB3.out.trans (hb1.mono HB3.out.size)
              have HX1 : Hid (w1.heap[wr.heap.size]? = some (.cells #[.int .i64 q0, .int .i64 q1, .slice av nv cv] 43 (0, 0))) := bx_keep (bx_new _ _ _ rfl) hb1
              clear hb1 HLC e0 e1 e2
              by_cases hm : m < lk
              · have hmi : (m : Int) < (lk : Int) := by omega
                have HBO : Hid (Below wo.heap.size wo w1) := HM.out.2.2.trans (HB1.out.mono HM.out.2.2.size)
                have hpl := HPL.out
                have hwo : w.heap.size + 1 ≤ wo.heap.size := (Array.getElem?_eq_some_iff.1 HR.out.box).1
                have hwr : wo.heap.size ≤ wr.heap.size := HM.out.2.2.size
                have hw1 : wr.heap.size < w1.heap.size := (Array.getElem?_eq_some_iff.1 HX1.out).1
                have HEQ : Hid ((P ++ [(i : Int)]) ++ leafP x m = leafP t n0) := by
                  show _ = _
                  have h1 := HD.out
                  rw [if_pos hm] at h1
                  rw [← HR.out.eq, leafP_inner HCR.out, ← HM.out.2.1, h1]
                  simp
                clear HD
                go_wp2_with (at_builtin; refine wp_app1at elInt rfl _ _ rfl (own_keep HOW.out HBO.out) rfl rfl (by simp) rfl rfl (by omega) (by unfold maxLen; omega) (by omega) ?_)
                intro v' w' ho hg2 hat
                obtain ⟨g', c', rfl, -, -, -, hgl, -⟩ := own_at ho hat
                have hn1 : ∀ z, z ≤ w.heap.size ∨ wo.heap.size ≤ z → (Value.slice ap P.length cp).ownBlock ≠ some z := fun z hz e => by have := HOW.out.lt _ e; omega
                have hbx : w'.heap[wr.heap.size]? = some (.cells #[.int .i64 q0, .int .i64 q1, .slice av nv cv] 43 (0, 0)) := by rw [hg2.block _ (by omega) (fun e => hn1 _ (.inr hwr) e.symm)]; exact HX1.out
                have htb : w'.heap[w.heap.size]? = some (.cells #[.int .i64 c.rule, .int .i64 c.term, .slice (some ⟨b, off, none⟩) nc cc] 43 (0, 0)) := by rw [hg2.block _ (by omega) (fun e => hn1 _ (.inl (Nat.le_refl _)) e.symm)]; exact bx_keep HR.out.box HBO.out
                obtain ⟨y0, y1, y2⟩ := bx_cells3 hbx
                obtain ⟨z0, z1, z2⟩ := bx_cells3 htb
                obtain ⟨f0, f1, f2⟩ := bx_free3 htb
                have HBW' : Hid (Below w.heap.size w w') := (HR.out.bel.trans (HBO.out.mono HR.out.bel.size)).grown hg2 (by have := HR.out.bel.size; omega) (fun z e => by have := (HOW.out.lt _ e).1; omega)
                have HR' : Hid (LeafRel t n0 w x m (P ++ [(i : Int)]) (.slice av nv cv) (.slice (some ⟨g', 0, none⟩) (P.length + 1) c') (((w'.setCell ⟨w.heap.size, 0, none⟩ (.int .i64 q0)).setCell ⟨w.heap.size, 1, none⟩ (.int .i64 q1)).setCell ⟨w.heap.size, 2, none⟩ (.slice av nv cv))) := by
                  refine ⟨by rw [HQ0.out, HQ1.out]; exact bx_set3 htb _ _ _, HKID.out, ?_, below_box3 HBW'.out (Nat.le_refl _) _ _ _, HEQ.out, by rw [HLK.out]; exact hm, ?_⟩
                  · have hne : (Value.slice (some ⟨g', 0, none⟩) (P.length + 1) c').ownBlock ≠ some w.heap.size := by
                      intro e; simp [Value.ownBlock] at e; omega
                    have ho' : w'.ownsRow (w.heap.size + 1) 3 1 (.slice (some ⟨g', 0, none⟩) (P.length + 1) c') (P ++ [(i : Int)]).length (ints (P ++ [(i : Int)])) := by rw [ints_append, List.length_append]; exact ho
                    exact ownsRow_setCell_other (ownsRow_setCell_other (ownsRow_setCell_other ho' hne _) hne _) hne _
                  · have h1 := HNX.out
                    have h2 := HR.out.len
                    simp; omega
                clear ho hg2 hat hbx htb hn1
                go_wp2_with fail
                go_roundg (nodes x).length
                case measure => have := HNX.out; omega
                case rel => exact ⟨x, m, _, _, rfl, Nat.le_refl _, HR'⟩
              · have hmi : ¬ (m : Int) < (lk : Int) := by omega
                have HM' : Hid ((m - lk) + lvs (c.kids.take (i + 1)) = k ∧ leafPL (i + 1) (c.kids.drop (i + 1)) (m - lk) = leafPL 0 c.kids k ∧ Below wo.heap.size wo w1) := by
                  refine ⟨?_, ?_, HM.out.2.2.trans (HB1.out.mono HM.out.2.2.size)⟩
                  · rw [HTS.out]; have := HM.out.1; omega
                  · have h := HD.out
                    rw [if_neg hm] at h
                    rw [← h]; exact HM.out.2.1
                have hmk : m ≤ 1099511627776 := by have := HM.out.1; omega
                have hmc : (m : Int) - (lk : Int) = ((m - lk : Nat) : Int) := by omega
                go_wp2_with fail
                go_roundg (nc - (i + 1))
                case measure => omega
                case rel => exact ⟨i + 1, m - lk, by omega, by omega, by go_num, by rw [← hmc], rfl, HM'⟩
            · have h1 := HM.out.1
              have h2 := HR.out.lt
              rw [HLV.out] at h2
              rw [List.take_of_length_le (by have := HNC.out; omega)] at h1
              omega
end Go.Proofs.Ytjehmleckcmilaa
