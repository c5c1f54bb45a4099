/- The contract of changed. -/
import Derived.Test.YtjehmleckcmilaaSmall
import Derived.Deep.DeepCutAuto
namespace Go.Proofs.Ytjehmleckcmilaa
open Go.RowKit

mutual
theorem chg_bound : ∀ (t : Tree) (n : Int) (b : Tree), 0 ≤ n → -1 ≤ (chg t n b).2 ∧ (chg t n b).2 ≤ n
  | .node r tm ks, n, b, h => by
    rw [chg]
    by_cases h0 : n = 0
    · rw [if_pos h0]; simp; omega
    · rw [if_neg h0]
      have := chgL_bound ks (n - 1) b (by omega)
      simp only; omega
theorem chgL_bound : ∀ (ks : List Tree) (n : Int) (b : Tree), -1 ≤ n → -1 ≤ (chgL ks n b).2 ∧ (chgL ks n b).2 ≤ n
  | [], n, b, h => by simp [chgL]; omega
  | k :: ks, n, b, h => by
    rw [chgL]
    by_cases h0 : 0 ≤ n
    · rw [if_pos h0]
      have h1 := chg_bound k n b h0
      have h2 := chgL_bound ks _ b h1.1
      simp only; omega
    · rw [if_neg h0]
      exact chgL_bound ks n b h
end
theorem chgL_pre (ks : List Tree) (i : Nat) (n : Int) (b : Tree) : (chgL ks n b).1.take i = (chgL (ks.take i) n b).1 := by
  have h := chgL_append (ks.take i) (ks.drop i) n b
  rw [List.take_append_drop] at h
  rw [h]
  simp only
  by_cases hi : i ≤ ks.length
  · rw [List.take_append_of_le_length (by rw [chgL_len]; simp; omega), List.take_of_length_le (by rw [chgL_len]; simp; omega)]
  · rw [List.drop_of_length_le (by omega)]
    rw [List.take_of_length_le (show ks.length ≤ i by omega)]
    simp only [chgL, List.append_nil]
    exact List.take_of_length_le (by rw [chgL_len]; omega)

def ChgPost (S0 : Nat → Prop) (x : Tree × Int) (w : World) (e : Ending) (w' : World) : Prop :=
  ∃ v, e = .returned (.tuple #[.agg #[.int .i64 x.1.rule, .int .i64 x.1.term, v], .int .i64 x.2]) ∧ Rd (fun k => S0 k ∨ w.heap.size ≤ k) w' (.sl (x.1.kids.map Tree.d)) [v] ∧ Below w.heap.size w w'

set_option maxHeartbeats 4000000 in
set_option maxRecDepth 100000 in
theorem changedE (S0 : Nat → Prop) : ∀ (M : Nat) (t : Tree) (v : Value) (n : Int) (s : Tree) (vs : Value) (w : World), t.size ≤ M → (∀ k, S0 k → k < w.heap.size) → Rd S0 w (.sl (t.kids.map Tree.d)) [v] → Rd S0 w (.sl (s.kids.map Tree.d)) [vs] → 0 ≤ n → n ≤ 1000000 → t.size ≤ 1000000 →
    Calls Try.prog 145 #[.agg #[.int .i64 t.rule, .int .i64 t.term, v], .int .i64 n, .agg #[.int .i64 s.rule, .int .i64 s.term, vs]] w (ChgPost S0 (chg t n s) w) := by
  intro M
  induction M with
  | zero => intro t v n s vs w hm; have := t.size_pos; omega
  | succ M ih =>
  intro t v n s vs w hMs hS hv hs hn0 hn1 hsz
  by_cases hnz : n = 0
  · obtain ⟨a, cap, rfl, -, -⟩ := hv.form
    obtain ⟨ax, cx, rfl, -, -⟩ := hs.form
    obtain ⟨k, HN⟩ := nameIt (t.kids.map Tree.d).length
    obtain ⟨m, HM⟩ := nameIt (s.kids.map Tree.d).length
    rw [HM.out] at hs
    rw [HN.out, HM.out]
    have HS := Lib.hid hs
    have HE : Hid (chg t n s = (s, -1)) := by show _ = _; rw [hnz]; exact chg_zero t s
    subst hnz
    clear hv hs hS ih
    go_enter Try.func145, Try.ntmps145
    go_wp2_with fail
    refine bodyPost_ret (v := .tuple #[.agg #[.int .i64 s.rule, .int .i64 s.term, .slice ax m cx], .int .i64 (-1)]) (by simp [results, Try.results145, go_sem]) rfl ?_
    have hb : Below w.heap.size w (((w.alloc (.cells #[.int .i64 t.rule, .int .i64 t.term, .slice a k cap] 43)).alloc (.cells #[.int .i64 s.rule, .int .i64 s.term, .slice ax m cx] 43)).alloc (.cells #[.int .i64 s.rule, .int .i64 s.term, .slice ax m cx] 43)) := (((Below.refl _ _).alloc (Nat.le_refl _) _).alloc (by simp) _).alloc (by simp; omega) _
    rw [HE.out]
    exact ⟨_, rfl, (HS.out.below hb).mono (fun k hk _ => .inl hk), hb⟩
  · have hnb : (n == 0) = false := by simpa using hnz
    have HNZ := Lib.hid (chg_eq t n s hnz)
    have hnp : 0 < n := by omega
    clear hnz
    obtain ⟨a, cap, rfl, hc1, hc2⟩ := hv.form
    obtain ⟨ax, cx, rfl, -, -⟩ := hs.form
    obtain ⟨m, HM⟩ := nameIt (s.kids.map Tree.d).length
    rw [HM.out] at hs
    rw [HM.out]
    have hlen : t.kids.length ≤ 1000000 := by have := sizeL_len t.kids; rw [Tree.size_eq] at hsz; omega
    have HV := Lib.hid hv
    have HS := Lib.hid hs
    have HSZ := Lib.hid hsz
    have HMS := Lib.hid hMs
    have IH := Lib.hid ih
    have HS0 := Lib.hid hS
    obtain ⟨K', HK'⟩ := nameIt (chgL t.kids (n - 1) s).1
    have hkl : K'.length = t.kids.length := by rw [← HK'.out, chgL_len]
    have HTP := Lib.hid (fun i => chgL_pre t.kids i (n - 1) s)
    have HTB := Lib.hid (fun i => chgL_bound (t.kids.take i) (n - 1) s (by omega))
    rw [HK'.out] at HTP
    obtain ⟨N, HNN⟩ := nameIt (fun i => (chgL (t.kids.take i) (n - 1) s).2)
    have HNI : Hid (∀ i, (chgL (t.kids.take i) (n - 1) s).2 = N i) := fun i => by rw [← HNN.out]
    have HNE : Hid ((chgL t.kids (n - 1) s).2 = N t.kids.length) := by show _ = _; rw [← HNI.out, List.take_length]
    have HN0 : Hid (N 0 = n - 1) := by show _ = _; rw [← HNI.out]; simp [chgL]
    have HTK : Hid (∀ i (h : i < t.kids.length), K'.take (i + 1) = K'.take i ++ [if 0 ≤ N i then (chg t.kids[i] (N i) s).1 else t.kids[i]] ∧ N (i + 1) = if 0 ≤ N i then (chg t.kids[i] (N i) s).2 else N i) := by
      intro i h
      have h1 := chgL_take (ks := t.kids) (i := i) h (n - 1) s
      rw [← HNI.out (i + 1), HTP.out, HTP.out, h1, HNI.out]
      by_cases h2 : 0 ≤ N i
      · rw [if_pos h2, if_pos h2, if_pos h2]; exact ⟨rfl, rfl⟩
      · rw [if_neg h2, if_neg h2, if_neg h2]; exact ⟨rfl, rfl⟩
    simp only [HNI.out] at HTB
    obtain ⟨r, HRr⟩ := nameIt t.rule
    obtain ⟨tm, HRt⟩ := nameIt t.term
    obtain ⟨K, HKN⟩ := nameIt t.kids
    rw [List.length_map, HKN.out] at hc1
    rw [HKN.out] at hlen hkl HNE
    rw [List.length_map, HKN.out] at HV
    simp only [HKN.out] at HTK
    rw [HRr.out, HRt.out, List.length_map, HKN.out]
    have HKL := Lib.hid hkl
    unfold maxLen at hc2
    clear hv hs hsz ih hS hkl hMs HNN HNI HTP
    obtain ⟨w0, HW0⟩ := nameIt ((((w.alloc (.cells #[.int .i64 r, .int .i64 tm, .slice a K.length cap] 43)).alloc (.cells #[.int .i64 s.rule, .int .i64 s.term, .slice ax m cx] 43)).alloc (.cells #[.int .i64 0, .int .i64 0, .slice none 0 0] 43)).alloc (.cells #[.int .i64 r, .int .i64 tm, .slice none 0 0] 43))
    have HR0 : Hid (WithRel S0 t s (.slice ax m cx) K' w 0 (.slice none 0 0) w0) := by
      rw [← HW0.out]
      refine ⟨⟨?_, ⟨[], by simpa using World.ownsRow_nil _ _ _ _, by simp [RdAll]⟩, by omega, ?_, by simp⟩, ?_, ?_, ((((Below.refl _ _).alloc (Nat.le_refl _) _).alloc (by simp) _).alloc (by simp; omega) _).alloc (by simp; omega) _⟩
      · rw [HRr.out, HRt.out]; exact bx_new _ _ _ (by simp)
      · rintro (h | h)
        · have := HS0.out _ h; omega
        · omega
      · exact bx_keep (bx_new _ _ _ (by simp)) ((Below.refl _ _).alloc (Nat.le_refl _) _)
      · exact bx_keep (bx_keep (bx_new _ _ _ (by simp)) ((Below.refl _ _).alloc (Nat.le_refl _) _)) ((Below.refl _ _).alloc (Nat.le_refl _) _)
    go_enter Try.func145, Try.ntmps145
    go_wp2_with fail
    rw [HW0.out]
    go_loopg [1, 24] K.length (fun gg v1 v24 wr => ∃ (i : Nat) (vr : Value) (z : Int), i ≤ K.length ∧ K.length - i ≤ gg ∧ v24 = .int .i64 i ∧ v1 = .int .i64 z ∧ Hid (N i = z) ∧ Hid (WithRel S0 t s (.slice ax m cx) K' w i vr wr))
    case atStart => exact ⟨0, _, _, by omega, by omega, rfl, rfl, HN0, HR0⟩
    case round =>
      clear HR0 HW0
      obtain ⟨i, vr, z, hi, hg, rfl, rfl, HZ, HR⟩ := hrel
      by_cases hlt : i < K.length
      · have hlt' : (i : Int) < (K.length : Int) := by omega
        obtain ⟨b, off, v, hae, -, hbl, e0, e1, e2, hkid⟩ := (HV.out.below HR.out.bel).kid hlt
        obtain ⟨av, cv, rfl, -, -⟩ := hkid.form
        obtain ⟨nv, HNV⟩ := nameIt (K[i].kids.map Tree.d).length
        rw [HNV.out] at e2 hkid
        have hms : K[i].size ≤ M ∧ K[i].size ≤ 1000000 := by
          have h1 := HSZ.out
          have h2 := HMS.out
          rw [Tree.size_eq, HKN.out] at h1 h2
          have := sizeL_get hlt
          omega
        have HT1 := Lib.hid (HTK.out i hlt)
        have hzb := HTB.out i
        rw [HZ.out] at hzb HT1
        obtain ⟨kid, HKI⟩ := nameIt (K[i]'hlt)
        rw [HKI.out] at e0 e1 hkid hms HT1
        have hih := fun W (hb : Below wr.heap.size wr W) (hz : 0 ≤ z) => IH.out kid _ z s _ W hms.1 (fun k hk => by have := HS0.out k hk; have := HR.out.bel.size; have := hb.size; omega) (hkid.below hb) ((HS.out.below HR.out.bel).below hb) hz (by omega) hms.2
        obtain ⟨q0, HQ0⟩ := nameIt kid.rule
        obtain ⟨q1, HQ1⟩ := nameIt kid.term
        rw [HQ0.out] at e0 hih
        rw [HQ1.out] at e1 hih
        have HIH := Lib.hid hih
        have HKID := Lib.hid hkid
        have htl : (K'.take i).length = i := by have := HKL.out; simp; omega
        obtain ⟨ar, cr, hvr, hr1, hr2⟩ := HR.out.row.len
        rw [htl] at hvr hr1
        subst hvr
        obtain ⟨xs, ho, hd⟩ := HR.out.row.own
        rw [htl] at ho
        have hout := HR.out.row.out
        rw [HRr.out, HRt.out] at hout
        have hsz := HR.out.row.le
        have hszr : w.heap.size + 1 + 1 + 1 < wr.heap.size := by omega
        have hszs : w.heap.size + 1 < wr.heap.size := by omega
        have HO := Lib.hid ho
        have HD := Lib.hid hd
        have HTL := Lib.hid htl
        subst hae
        clear hih hkid hms ho hd htl
        obtain ⟨W9, HW9⟩ := nameIt (wr.alloc (.cells #[.int .i64 q0, .int .i64 q1, .slice av nv cv] 43))
        have HB9 : Hid (Below wr.heap.size wr W9) := by rw [← HW9.out]; exact (Below.refl _ _).alloc (Nat.le_refl _) _
        have HX9 : Hid (W9.heap[wr.heap.size]? = some (.cells #[.int .i64 q0, .int .i64 q1, .slice av nv cv] 43 (0, 0))) := by rw [← HW9.out]; exact bx_new _ _ _ rfl
        obtain ⟨n0, n1, n2⟩ := bx_cells3 HX9.out
        obtain ⟨s0, s1, s2⟩ := bx_cells3 (bx_keep HR.out.sub HB9.out)
        obtain ⟨z0, z1, z2⟩ := bx_cells3 (bx_keep hout HB9.out)
        obtain ⟨zf0, zf1, zf2⟩ := bx_free3 (bx_keep hout HB9.out)
        clear hout
        by_cases heq : 0 ≤ z
        · rw [if_pos heq, if_pos heq] at HT1
          obtain ⟨HT1, HT2⟩ : Hid (K'.take (i + 1) = K'.take i ++ [(chg kid z s).1]) ∧ Hid (N (i + 1) = (chg kid z s).2) := HT1.out
          have HIH2 := Lib.hid (fun W hb => HIH.out W hb heq)
          obtain ⟨cz, HCZ⟩ := nameIt (chg kid z s)
          rw [HCZ.out] at HT1 HT2 HIH2
          have hne1 : ¬ wr.heap.size = w.heap.size + 1 + 1 + 1 := by omega
          have hne2 : ¬ w.heap.size + 1 + 1 + 1 = wr.heap.size := by omega
          obtain ⟨pt, pn⟩ := cz
          simp only at HT1 HT2
          go_upto_region 8 with fail
          rw [HW9.out]
          go_wp2_with fail
          refine (HIH2.out _ HB9.out).mono ?_
          rintro e w2 ⟨v2, rfl, hr2, hb2⟩
          obtain ⟨a2, c2, rfl, -, -⟩ := hr2.form
          obtain ⟨u2, HU2⟩ := nameIt (pt.kids.map Tree.d).length
          obtain ⟨r2, HR2n⟩ := nameIt pt.rule
          obtain ⟨t2, HT2n⟩ := nameIt pt.term
          rw [HU2.out] at hr2
          rw [HU2.out, HR2n.out, HT2n.out]
          have hx9 := bx_keep HX9.out hb2
          obtain ⟨m0, m1, m2⟩ := bx_cells3 hx9
          obtain ⟨mf0, mf1, mf2⟩ := bx_free3 hx9
          have hbw : Below wr.heap.size wr w2 := HB9.out.trans (hb2.mono HB9.out.size)
          have hlt9 := (Array.getElem?_eq_some_iff.1 hx9).1
          have hltz : w.heap.size + 1 + 1 + 1 < w2.heap.size := by omega
          obtain ⟨z0, z1, z2⟩ := bx_cells3 (bx_keep HR.out.row.out hbw)
          obtain ⟨zf0, zf1, zf2⟩ := bx_free3 (bx_keep HR.out.row.out hbw)
          obtain ⟨w3, HW3⟩ := nameIt (((w2.setCell ⟨wr.heap.size, 0, none⟩ (.int .i64 r2)).setCell ⟨wr.heap.size, 1, none⟩ (.int .i64 t2)).setCell ⟨wr.heap.size, 2, none⟩ (.slice a2 u2 c2))
          have HB3 : Hid (Below wr.heap.size wr w3) := by rw [← HW3.out]; exact below_box3 hbw (Nat.le_refl _) _ _ _
          have HRD : Hid (Rd (fun k => (S0 k ∨ w.heap.size + 1 + 1 + 1 + 1 ≤ k) ∧ (Value.slice ar i cr).ownBlock ≠ some k) w3 (.sl (pt.kids.map Tree.d)) [.slice a2 u2 c2]) := by
            rw [← HW3.out]
            have hsz9 := HB9.out.size
            have h9 : W9.heap.size = wr.heap.size + 1 := by rw [← HW9.out]; simp
            refine (hr2.box3 (b := wr.heap.size) ?_ _ _ _).mono (fun k hk _ => ⟨?_, fun e => ?_⟩)
            · rintro (h | h)
              · have := HS0.out _ h; omega
              · omega
            · rcases hk with h | h
              · exact .inl h
              · exact .inr (by omega)
            · have h1 := HO.out.lt k e
              rcases hk with h | h
              · have := HS0.out _ h; omega
              · omega
          have HO3 := Lib.hid (own_keep HO.out HB3.out)
          have hx3 : w3.heap[wr.heap.size]? = some (.cells #[.int .i64 r2, .int .i64 t2, .slice a2 u2 c2] 43 (0, 0)) := by rw [← HW3.out]; exact bx_set3 hx9 _ _ _
          have hsz3 := HB3.out.size
          clear hr2 hb2 hbw z0 z1 z2 zf0 zf1 zf2
          go_upto_region 10 with fail
          rw [HW3.out]
          clear m0 m1 m2 mf0 mf1 mf2 hx9
          obtain ⟨m0, m1, m2⟩ := bx_cells3 hx3
          obtain ⟨z0, z1, z2⟩ := bx_cells3 (bx_keep HR.out.row.out HB3.out)
          clear hx3
          go_wp2_with (at_builtin; refine wp_app1at elTree rfl _ _ rfl HO3.out rfl rfl (by simp) rfl rfl (by omega) (by unfold maxLen; omega) (by omega) ?_)
          intro v' w4 ho4 hg4 hat4
          obtain ⟨g, cap4, rfl, hat, -, -, hgB, hglt⟩ := own_at ho4 hat4
          obtain ⟨hx4, hR4⟩ := WithRel.next HR.out HB3.out HTL.out HO.out HD.out HT1.out HRD.out (by rw [HR2n.out, HT2n.out]; exact ho4) hg4 hat
          obtain ⟨z0, z1, z2⟩ := bx_cells3 hx4
          obtain ⟨zf0, zf1, zf2⟩ := bx_free3 hx4
          have HR4 := Lib.hid hR4
          have hlt4 : w.heap.size + 1 + 1 + 1 < w4.heap.size := (Array.getElem?_eq_some_iff.1 hx4).1
          clear ho4 hg4 hat4 hat hx4 hR4 m0 m1 m2
          go_wp2_with fail
          go_roundg (K.length - (i + 1))
          case measure => omega
          case rel => exact ⟨i + 1, _, pn, by omega, by omega, by go_num, rfl, HT2, HR4⟩
        · rw [if_neg heq, if_neg heq] at HT1
          obtain ⟨HT1, HT2⟩ : Hid (K'.take (i + 1) = K'.take i ++ [kid]) ∧ Hid (N (i + 1) = z) := HT1.out
          have hne1 : ¬ wr.heap.size = w.heap.size + 1 + 1 + 1 := by omega
          have hne2 : ¬ w.heap.size + 1 + 1 + 1 = wr.heap.size := by omega
          have HRD : Hid (Rd (fun k => (S0 k ∨ w.heap.size + 1 + 1 + 1 + 1 ≤ k) ∧ (Value.slice ar i cr).ownBlock ≠ some k) W9 (.sl (kid.kids.map Tree.d)) [.slice av nv cv]) := by
            refine (HKID.out.below HB9.out).mono (fun k hk _ => ⟨.inl hk, fun e => ?_⟩)
            have h1 := HO.out.lt k e
            have := HS0.out _ hk; omega
          have HO3 := Lib.hid (own_keep HO.out HB9.out)
          have hsz3 := HB9.out.size
          go_upto_region 8 with fail
          rw [HW9.out]
          go_wp2_with (at_builtin; refine wp_app1at elTree rfl _ _ rfl HO3.out rfl rfl (by simp) rfl rfl (by omega) (by unfold maxLen; omega) (by omega) ?_)
          intro v' w4 ho4 hg4 hat4
          obtain ⟨g, cap4, rfl, hat, -, -, hgB, hglt⟩ := own_at ho4 hat4
          obtain ⟨hx4, hR4⟩ := WithRel.next HR.out HB9.out HTL.out HO.out HD.out HT1.out HRD.out (by rw [HQ0.out, HQ1.out]; exact ho4) hg4 hat
          obtain ⟨z0, z1, z2⟩ := bx_cells3 hx4
          obtain ⟨zf0, zf1, zf2⟩ := bx_free3 hx4
          have HR4 := Lib.hid hR4
          have hlt4 : w.heap.size + 1 + 1 + 1 < w4.heap.size := (Array.getElem?_eq_some_iff.1 hx4).1
          clear ho4 hg4 hat4 hat hx4 hR4
          go_wp2_with fail
          go_roundg (K.length - (i + 1))
          case measure => omega
          case rel => exact ⟨i + 1, _, z, by omega, by omega, by go_num, rfl, HT2, HR4⟩
      · have hlt' : ¬ (i : Int) < (K.length : Int) := by omega
        have hout := HR.out.row.out
        rw [HRr.out, HRt.out] at hout
        have htk : K'.take i = K' := List.take_of_length_le (by have := HKL.out; omega)
        obtain ⟨ar, cr, hvr, hr1, hr2⟩ := HR.out.row.len
        rw [htk] at hvr hr1
        subst hvr
        obtain ⟨xs, ho, hd⟩ := HR.out.row.own
        rw [htk] at ho hd
        obtain ⟨z0, z1, z2⟩ := bx_cells3 hout
        obtain ⟨y0, y1, y2⟩ := bx_cells3 HR.out.res
        obtain ⟨f0, f1, f2⟩ := bx_free3 HR.out.res
        have hsz := HR.out.row.le
        have hszr : w.heap.size + 1 + 1 + 1 < wr.heap.size := by omega
        have HO := Lib.hid ho
        have HD := Lib.hid hd
        clear hout ho hd htk
        have HKE : Hid (chg t n s = (.node r tm K', z)) := by
          show _ = _
          rw [HNZ.out, HK'.out, HRr.out, HRt.out, HKN.out, HNE.out, show K.length = i by omega, HZ.out]
        go_wp2_with fail
        refine bodyPost_ret (v := .tuple #[.agg #[.int .i64 r, .int .i64 tm, .slice ar K'.length cr], .int .i64 z]) (by simp [results, Try.results145, go_sem, y0, y1, y2]) rfl ?_
        rw [HKE.out]
        refine ⟨_, rfl, ?_, by simpa using below_box3 HR.out.bel (b := w.heap.size + 1 + 1) (by omega) (.int .i64 r) (.int .i64 tm) (.slice ar K'.length cr)⟩
        have hb := grown_box3 (w.heap.size + 1 + 1) wr (.int .i64 r) (.int .i64 tm) (.slice ar K'.length cr)
        refine rd_of_own (HO.out.kept hb (.inr fun e => by have := (HO.out.lt _ e).1; omega)) (RdAll.keep (fun k hk hlt => ⟨?_, hb.block k hlt ?_⟩) _ _ HD.out) (by simp [Tree.kids]) (fun k e => by have := (HO.out.lt _ e).1; exact .inr (by omega))
        · rcases hk.1 with h | h
          · exact .inl h
          · exact .inr (by omega)
        · intro e
          cases e
          rcases hk.1 with h | h
          · have := HS0.out _ h; omega
          · omega
end Go.Proofs.Ytjehmleckcmilaa
