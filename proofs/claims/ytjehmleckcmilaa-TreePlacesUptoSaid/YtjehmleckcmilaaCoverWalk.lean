/- The contract of tree.Cover. -/
import Derived.Test.YtjehmleckcmilaaLeafWalk
namespace Go.Proofs.Ytjehmleckcmilaa
open Go.RowKit

mutual
/-- the path to the lowest node that contains leaves, if n leaves come before -/
def coverP : Tree → Nat → Nat → Nat → List Int
  | .node r _ ks, n, f, t => if r = -1 then [] else coverPL 0 ks n f t
def coverPL : Nat → List Tree → Nat → Nat → Nat → List Int
  | _, [], _, _, _ => []
  | i, k :: ks, n, f, t => if n ≤ f ∧ t ≤ n + lv k then (i : Int) :: coverP k n f t else coverPL (i + 1) ks (n + lv k) f t
end
theorem coverP_eq (c : Tree) (n f t : Nat) : coverP c n f t = coverPL 0 (kidsOf c) n f t := by
  cases c with
  | node r tm ks => by_cases h : r = -1 <;> simp [coverP, kidsOf, Tree.rule, Tree.kids, h, coverPL]
theorem coverPL_drop {ks : List Tree} {i n f t : Nat} (h : i < ks.length) : coverPL i (ks.drop i) n f t = if n ≤ f ∧ t ≤ n + lv ks[i] then (i : Int) :: coverP ks[i] n f t else coverPL (i + 1) (ks.drop (i + 1)) (n + lv ks[i]) f t := by
  rw [List.drop_eq_getElem_cons h, coverPL]
theorem lvs_take_le (ks : List Tree) (i : Nat) : lvs (ks.take i) ≤ lvs ks := by
  conv => rhs; rw [← List.take_append_drop i ks, lvs_append]
  omega
theorem lv_kids (t : Tree) : lvs (kidsOf t) ≤ lv t := by
  by_cases h : t.rule = -1
  · simp [kidsOf, h, lvs]
  · rw [lv_inner h]; simp [kidsOf, h]

structure CoverRel (t : Tree) (f tz : Nat) (w : World) (c : Tree) (n : Nat) (P : List Int) (cv pv : Value) (wr : World) : Prop where
  box : wr.heap[w.heap.size]? = some (.cells #[.int .i64 c.rule, .int .i64 c.term, cv] 43 (0, 0))
  kid : Rd AnyB w (.sl (c.kids.map Tree.d)) [cv]
  own : wr.ownsRow (w.heap.size + 1) 3 1 pv P.length (ints P)
  bel : Below w.heap.size w wr
  eq : P ++ coverP c n f tz = coverP t 0 f tz
  lt : n + lv c ≤ lv t
  len : P.length + (nodes c).length ≤ (nodes t).length
def CoverPost (t : Tree) (f tz : Int) (w : World) (e : Ending) (w' : World) : Prop :=
  Below w.heap.size w w' ∧ if f < 0 ∨ tz < f ∨ (lv t : Int) < tz then e = .returned (.tuple #[.slice none 0 0, .int .i64 1]) else ∃ v, e = .returned (.tuple #[v, .int .i64 0]) ∧ Sl w' v (ints (coverP t 0 f.toNat tz.toNat))

set_option maxHeartbeats 2000000 in
set_option maxRecDepth 100000 in
theorem coverE (t : Tree) (v : Value) (f tz : Int) (w : World) (hv : Rd AnyB w (.sl (t.kids.map Tree.d)) [v]) (hN : (nodes t).length ≤ 1099511627776) :
    Calls Try.prog 29 #[.agg #[.int .i64 t.rule, .int .i64 t.term, v], .int .i64 f, .int .i64 tz] w (CoverPost t f tz w) := by
  obtain ⟨a, nk, cap, rfl⟩ := treeBox hv
  have HV := Lib.hid hv
  have HNN := Lib.hid hN
  obtain ⟨w0, HW0⟩ := nameIt (w.alloc (.cells #[.int .i64 t.rule, .int .i64 t.term, .slice a nk cap] 43))
  have HB0 : Hid (Below w.heap.size w w0) := by rw [← HW0.out]; exact (Below.refl _ _).alloc (Nat.le_refl _) _
  have X0 : Hid (w0.heap[w.heap.size]? = some (.cells #[.int .i64 t.rule, .int .i64 t.term, .slice a nk cap] 43 (0, 0))) := by rw [← HW0.out]; exact bx_new _ _ _ rfl
  have HC := Lib.hid (fun W (hb : Below w0.heap.size w0 W) => leavesE t _ W ((hv.below HB0.out).below hb) hN)
  obtain ⟨x0, x1, x2⟩ := bx_cells3 X0.out
  have hlvt := Nat.le_trans (lv_le t) hN
  obtain ⟨lt, HLT⟩ := nameIt (lv t)
  rw [HLT.out] at HC hlvt
  clear hv hN
  go_enter Try.func29, Try.ntmps29
  go_upto_region 1 with fail
  rw [HW0.out]
  go_cut [27] (fun p wx => Hid (p = .bool (decide (f < 0 ∨ tz < f ∨ (lt : Int) < tz)) ∧ Below w0.heap.size w0 wx))
  case first =>
    by_cases hf : f < 0
    · have hnb : decide (f < 0) = true := by simpa using hf
      go_wp2_with fail
      go_meet
      exact ⟨by simp [hf], Below.refl _ _⟩
    · have hnb : decide (f < 0) = false := by simpa using hf
      by_cases ht : tz < f
      · have htb : decide (tz < f) = true := by simpa using ht
        go_wp2_with fail
        go_meet
        exact ⟨by simp [ht], Below.refl _ _⟩
      · have htb : decide (tz < f) = false := by simpa using ht
        go_wp2_with fail
        refine (HC.out _ (Below.refl _ _)).mono ?_
        rintro e w1 ⟨rfl, hb1⟩
        have HB1 := Lib.hid hb1
        clear hb1
        go_wp2_with fail
        go_meet
        exact ⟨by congr 1; exact decide_eq_decide.2 ⟨fun h => .inr (.inr h), fun h => by omega⟩, HB1.out⟩
  case rest =>
    obtain ⟨rfl, hb1⟩ := hcut.out
    have HB1 := Lib.hid hb1
    clear hcut hb1 x0 x1 x2
    by_cases hn : f < 0 ∨ tz < f ∨ (lt : Int) < tz
    · rw [decide_eq_true hn]
      have HN := Lib.hid hn
      clear hn
      go_wp2_with fail
      refine bodyPost_ret (results_tmp2 Try.results29 _ _ _) rfl ?_
      refine ⟨HB0.out.trans (HB1.out.mono HB0.out.size), ?_⟩
      rw [if_pos (by rw [HLT.out]; exact HN.out)]
      rfl
    · rw [decide_eq_false hn]
      obtain ⟨f0, rfl⟩ : ∃ k : Nat, f = (k : Int) := ⟨f.toNat, by omega⟩
      obtain ⟨t0, rfl⟩ : ∃ k : Nat, tz = (k : Int) := ⟨tz.toNat, by omega⟩
      have HR0 : Hid (CoverRel t f0 t0 w t 0 [] (.slice a nk cap) (.slice none 0 0) wc) := ⟨bx_keep X0.out HB1.out, HV.out, World.ownsRow_nil _ _ _ _, HB0.out.trans (HB1.out.mono HB0.out.size), rfl, by omega, by simp⟩
      have HFIN : Hid (∀ w' v, Sl w' v (ints (coverP t 0 f0 t0)) → Below w.heap.size w w' → CoverPost t f0 t0 w (.returned (.tuple #[v, .int .i64 0])) w') := by
        intro w' v h1 h2
        refine ⟨h2, ?_⟩
        rw [if_neg (by rw [HLT.out]; exact hn)]
        exact ⟨v, rfl, h1⟩
      clear hn HB1 HC
      go_wp2_with fail
      go_loopg [8, 9] (nodes t).length (fun gg v8 v9 wr => ∃ (c : Tree) (n : Nat) (P : List Int) (cv : Value), v9 = .int .i64 n ∧ (nodes c).length ≤ gg ∧ Hid (CoverRel t f0 t0 w c n P cv v8 wr))
      case atStart => exact ⟨t, 0, [], _, rfl, Nat.le_refl _, HR0⟩
      case round =>
        clear HR0
        obtain ⟨c, n, P, cv, rfl, hg, HR⟩ := hrel
        obtain ⟨ac, nc, cc, rfl⟩ := treeBox HR.out.kid
        have hbox := HR.out.box
        have hk := fun W => kidsE w c _ W HR.out.kid
        obtain ⟨r, HXr⟩ := nameIt c.rule
        obtain ⟨tm, HXt⟩ := nameIt c.term
        rw [HXr.out, HXt.out] at hbox hk
        obtain ⟨x0, x1, x2⟩ := bx_cells3 hbox
        have HK := Lib.hid hk
        obtain ⟨ap, cp, rfl, hp1, hp2⟩ := own_len HR.out.own
        unfold maxLen at hp2
        clear hbox hk
        go_wp2_with fail
        refine (HK.out wr).mono ?_
        rintro e wo ⟨ak, ck, rfl, hrk, hb2⟩
        have HRK := Lib.hid hrk
        have HBO := Lib.hid hb2
        obtain ⟨K, HKN⟩ := nameIt (kidsOf c)
        have hkl := hrk.bounds
        rw [HKN.out] at hkl
        rw [HKN.out] at HRK
        rw [HKN.out]
        unfold maxLen at hkl
        obtain ⟨-, hkl1, hkl2⟩ := hkl
        have HCE : Hid (coverP c n f0 t0 = coverPL 0 K n f0 t0) := by show _ = _; rw [coverP_eq, HKN.out]
        have HLK : Hid (n + lvs K ≤ 1099511627776) := by
          show _ ≤ _
          have h1 := HR.out.lt
          have h2 := lv_kids c
          rw [HKN.out] at h2
          rw [HLT.out] at h1
          omega
        clear hrk hb2 x0 x1 x2 HK
        go_wp2_with fail
        go_loopg [10, 11, 32] K.length (fun gg' v10 v11 v32 wr => ∃ (i : Nat), i ≤ K.length ∧ K.length - i ≤ gg' ∧ v32 = .int .i64 i ∧ v10 = .int .i64 (-1) ∧ v11 = .int .i64 (n + lvs (K.take i) : Nat) ∧ Hid (coverPL i (K.drop i) (n + lvs (K.take i)) f0 t0 = coverPL 0 K n f0 t0 ∧ Below wo.heap.size wo wr))
        case atStart => exact ⟨0, by omega, by omega, rfl, rfl, by simp [lvs], by simp [lvs], Below.refl _ _⟩
        case round =>
          obtain ⟨wi, rfl⟩ : ∃ wi : World, wi = wr := ⟨_, rfl⟩
          obtain ⟨i, hi, hgi, rfl, rfl, rfl, HM⟩ := hrel
          obtain ⟨s, HS⟩ := nameIt (n + lvs (K.take i))
          rw [HS.out] at HM
          rw [HS.out]
          have hsl : s ≤ 1099511627776 := by have := HLK.out; have := lvs_take_le K i; have := HS.out; omega
          have hwo : wr.heap.size ≤ wo.heap.size := HBO.out.size
          by_cases hlt : i < K.length
          · have hlt' : (i : Int) < (K.length : Int) := by omega
            have hcr : c.rule ≠ -1 := by
              intro h
              have : kidsOf c = [] := by rw [kidsOf, if_pos h]
              rw [HKN.out] at this
              rw [this] at hlt
              simp at hlt
            have HKC : Hid (c.kids = K) := by show _ = _; rw [← HKN.out, kidsOf, if_neg hcr]
            obtain ⟨b, off, v, hae, -, hbl, k0, k1, k2, hkid⟩ := HRK.out.kid hlt
            obtain ⟨av, nv, cv, rfl⟩ := treeBox hkid
            have HBW := Lib.hid ((HR.out.bel.trans (HBO.out.mono HR.out.bel.size)).trans (HM.out.2.mono (Nat.le_trans HR.out.bel.size HBO.out.size)))
            have e0 := (HBW.out.cell (p := ⟨b, off + i * 3, none⟩) hbl).trans k0
            have e1 := (HBW.out.cell (p := ⟨b, off + i * 3 + 1, none⟩) hbl).trans k1
            have e2 := (HBW.out.cell (p := ⟨b, off + i * 3 + 2, none⟩) hbl).trans k2
            have HK0 := Lib.hid k0
            have HK1 := Lib.hid k1
            have HK2 := Lib.hid k2
            have HD := Lib.hid (coverPL_drop (n := s) (f := f0) (t := t0) hlt)
            have hlvk := lv_le K[i]
            have hnk := kid_nodes_lt hcr (i := i) (by rw [HKC.out]; exact hlt)
            simp only [HKC.out] at hnk
            have hlen := HR.out.len
            have hNN := HNN.out
            have HTS := Lib.hid (lvs_take_succ hlt)
            have HLL := Lib.hid (lvs_take_le K (i + 1))
            obtain ⟨x, HX⟩ := nameIt (K[i]'hlt)
            rw [HX.out] at e0 e1 hkid HD hlvk hnk HTS HK0 HK1
            obtain ⟨q0, HQ0⟩ := nameIt x.rule
            obtain ⟨q1, HQ1⟩ := nameIt x.term
            obtain ⟨lk, HLX⟩ := nameIt (lv x)
            have hb3 := (Below.refl wi.heap.size wi).alloc (Nat.le_refl _) (.cells #[.int .i64 q0, .int .i64 q1, .slice av nv cv] 43)
            have hlc := leavesE x _ _ ((hkid.below HBW.out).below hb3) (by omega)
            rw [HQ0.out] at e0 hlc HK0
            rw [HQ1.out] at e1 hlc HK1
            rw [HLX.out] at hlc HD hlvk HTS
            have hlk : lk ≤ 1099511627776 := by omega
            have HLC := Lib.hid hlc
            have HB3 := Lib.hid hb3
            have HKID := Lib.hid hkid
            have HNX := Lib.hid hnk
            have HPL : Hid (P.length + 1 ≤ 1099511627776) := by show _ ≤ _; have := nodes_pos c; omega
            have HBL := Lib.hid hbl
            have HSE : Hid (n + lvs (K.take (i + 1)) = s + lk) := by show _ = _; rw [HTS.out, ← HS.out]; omega
            subst hae
            clear k0 k1 k2 hkid hlc hb3 hnk hlvk hlen hNN
            go_wp2_with fail
            refine HLC.out.mono ?_
            rintro e w1 ⟨rfl, hb1⟩
            have HB1 : Hid (Below wi.heap.size wi w1) := HB3.out.trans (hb1.mono HB3.out.size)
            clear hb1 HLC e0 e1 e2
            by_cases hm : s ≤ f0 ∧ t0 ≤ s + lk
            · have hm1 : (s : Int) ≤ (f0 : Int) := by omega
              have hm2 : (t0 : Int) ≤ (s : Int) + (lk : Int) := by omega
              have hxe : c.kids[i]'(by rw [HKC.out]; exact hlt) = x := by rw [← HX.out]; simp only [HKC.out]
              obtain ⟨b2, off2, v2, hae2, -, hbl2, m0, m1, m2, hkid2⟩ := HR.out.kid.kid (i := i) (by rw [HKC.out]; exact hlt)
              rw [hxe] at m0 m1 hkid2
              rw [HQ0.out] at m0
              rw [HQ1.out] at m1
              obtain ⟨av2, nv2, cv2, rfl⟩ := treeBox hkid2
              have hnc : i < nc := by
                have h1 := HR.out.kid.bounds.1
                simp at h1
                have h2 := HKC.out
                rw [h2] at h1
                omega
              have hnc' : (i : Int) < (nc : Int) := by omega
              have hncm : nc ≤ 9223372036854775807 := by have := HR.out.kid.bounds; unfold maxLen at this; omega
              have HBX : Hid (Below wr.heap.size wr w1) := (HBO.out.trans (HM.out.2.mono HBO.out.size)).trans (HB1.out.mono (Nat.le_trans HBO.out.size HM.out.2.size))
              have hpl := HPL.out
              have hwr : w.heap.size + 1 ≤ wr.heap.size := (Array.getElem?_eq_some_iff.1 HR.out.box).1
              have hw1 : wr.heap.size ≤ w1.heap.size := HBX.out.size
              have HEQ : Hid ((P ++ [(i : Int)]) ++ coverP x s f0 t0 = coverP t 0 f0 t0) := by
                show _ = _
                have h1 := HD.out
                rw [if_pos hm] at h1
                rw [← HR.out.eq, HCE.out, ← HM.out.1, h1]
                simp
              have HKD2 := Lib.hid hkid2
              have HM0 := Lib.hid m0
              have HM1 := Lib.hid m1
              have HM2 := Lib.hid m2
              subst hae2
              clear HD hkid2 m0 m1 m2
              go_wp2_with (at_builtin; refine wp_app1at elInt rfl _ _ rfl (own_keep HR.out.own HBX.out) rfl rfl (by simp) rfl rfl (by omega) (by unfold maxLen; omega) (by omega) ?_)
              intro v' w' ho hg2 hat
              obtain ⟨g', c', rfl, -, -, -, hgl, -⟩ := own_at ho hat
              have htb : w'.heap[w.heap.size]? = some (.cells #[.int .i64 c.rule, .int .i64 c.term, .slice (some ⟨b2, off2, none⟩) nc cc] 43 (0, 0)) := by rw [hg2.block _ (by omega) (fun e => by have := HR.out.own.lt _ e.symm; omega)]; exact bx_keep HR.out.box HBX.out
              have HBW' : Hid (Below w.heap.size w w') := (HR.out.bel.trans (HBX.out.mono HR.out.bel.size)).grown hg2 (by have := HR.out.bel.size; omega) (fun z e => by have := (HR.out.own.lt _ e).1; omega)
              obtain ⟨z0, z1, z2⟩ := bx_cells3 htb
              obtain ⟨ff0, ff1, ff2⟩ := bx_free3 htb
              have e0 := (HBW'.out.cell (p := ⟨b2, off2 + i * 3, none⟩) hbl2).trans HM0.out
              have e1 := (HBW'.out.cell (p := ⟨b2, off2 + i * 3 + 1, none⟩) hbl2).trans HM1.out
              have e2 := (HBW'.out.cell (p := ⟨b2, off2 + i * 3 + 2, none⟩) hbl2).trans HM2.out
              have HR' : Hid (CoverRel t f0 t0 w x s (P ++ [(i : Int)]) (.slice av2 nv2 cv2) (.slice (some ⟨g', 0, none⟩) (P.length + 1) c') (((w'.setCell ⟨w.heap.size, 0, none⟩ (.int .i64 q0)).setCell ⟨w.heap.size, 1, none⟩ (.int .i64 q1)).setCell ⟨w.heap.size, 2, none⟩ (.slice av2 nv2 cv2))) := by
                refine ⟨by rw [HQ0.out, HQ1.out]; exact bx_set3 htb _ _ _, HKD2.out, ?_, below_box3 HBW'.out (Nat.le_refl _) _ _ _, HEQ.out, ?_, ?_⟩
                · have hne : (Value.slice (some ⟨g', 0, none⟩) (P.length + 1) c').ownBlock ≠ some w.heap.size := by
                    intro e; simp [Value.ownBlock] at e; omega
                  have ho' : w'.ownsRow (w.heap.size + 1) 3 1 (.slice (some ⟨g', 0, none⟩) (P.length + 1) c') (P ++ [(i : Int)]).length (ints (P ++ [(i : Int)])) := by rw [ints_append, List.length_append]; exact ho
                  exact ownsRow_setCell_other (ownsRow_setCell_other (ownsRow_setCell_other ho' hne _) hne _) hne _
                · have h1 := HSE.out
                  have h2 := HLL.out
                  have h3 := HR.out.lt
                  have h4 := lv_kids c
                  rw [HKN.out] at h4
                  rw [HLX.out]
                  omega
                · have h1 := HNX.out
                  have h2 := HR.out.len
                  simp; omega
              clear ho hg2 hat htb
              go_wp2_with fail
              go_roundg (nodes x).length
              case measure => have := HNX.out; omega
              case rel => exact ⟨x, s, _, _, rfl, Nat.le_refl _, HR'⟩
            · have HM' : Hid (coverPL (i + 1) (K.drop (i + 1)) (n + lvs (K.take (i + 1))) f0 t0 = coverPL 0 K n f0 t0 ∧ Below wo.heap.size wo w1) := by
                refine ⟨?_, HM.out.2.trans (HB1.out.mono HM.out.2.size)⟩
                rw [HSE.out, ← HM.out.1, HD.out, if_neg hm]
              by_cases hm1 : (s : Int) ≤ (f0 : Int)
              · have hm2 : ¬ (t0 : Int) ≤ (s : Int) + (lk : Int) := by omega
                go_wp2_with fail
                go_roundg (K.length - (i + 1))
                case measure => omega
                case rel => exact ⟨i + 1, by omega, by omega, by go_num, rfl, by rw [HSE.out]; go_num, HM'⟩
              · go_wp2_with fail
                go_roundg (K.length - (i + 1))
                case measure => omega
                case rel => exact ⟨i + 1, by omega, by omega, by go_num, rfl, by rw [HSE.out]; go_num, HM'⟩
          · have hlt' : ¬ (i : Int) < (K.length : Int) := by omega
            have HE : Hid (P = coverP t 0 f0 t0) := by
              show _ = _
              rw [← HR.out.eq, HCE.out, ← HM.out.1, List.drop_of_length_le (by omega), coverPL]
              simp
            go_wp2_with fail
            refine bodyPost_ret (results_tmp2 Try.results29 _ _ _) rfl ?_
            have h := sl_of_own (own_keep (own_keep HR.out.own HBO.out) HM.out.2)
            rw [HE.out] at h ⊢
            exact HFIN.out _ _ h ((HR.out.bel.trans (HBO.out.mono HR.out.bel.size)).trans (HM.out.2.mono (Nat.le_trans HR.out.bel.size HBO.out.size)))
end Go.Proofs.Ytjehmleckcmilaa
